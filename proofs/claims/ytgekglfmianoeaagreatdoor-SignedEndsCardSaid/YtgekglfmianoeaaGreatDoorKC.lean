/-
  A call over data alone: its contract over no local memory holds over any.
  Loops over states that a measure orders; results that are data.
  Regions that draw their order: what is evaluated in the listed order holds in every order that the edges allow.
  Own memory seen as data; a row that is made of data and never touched again is data.
  Regions that draw their order, the walk.
  Regions that draw their order, the rule.
  Contracts that were proved elsewhere (of calls, over worlds), as contracts on data.
  Own memory seen as data.
  Cuts: at a place in the code the states are gathered. Own memory lent to calls on data.
  States told anew: blocks under other numbers, what is not needed left out; loops over such states.
  Results told anew; a nil slice as an own array without memory.
  Contracts on slices hold for nil also.
  Loops over functions: the statement.
-/
import Derived.Test.YtgekglfmianoeaaGreatDoorKB
import Derived.Orders
set_option linter.unusedSimpArgs false
set_option linter.unusedVariables false
set_option maxRecDepth 20000
namespace Go.Gp
open Go.RowKit
mutual
def V.sh (d : Nat) : V → V
  | .p x => .p x
  | .ref b o => .ref (b + d) o
  | .eref b s i c => .eref (b + d) s i c
  | .osl b s lo len cap => .osl (b + d) s lo len cap
  | .bsl b o s len cap => .bsl (b + d) o s len cap
  | .agg cs => .agg (V.shL d cs)
  | .tup vs => .tup (V.shL d vs)
  | .clo fn fs cs => .clo fn (V.shL d fs) (V.shL d cs)
  | .ifc t x => .ifc t (V.sh d x)
  | .mp b => .mp (b + d)
  | .zc => .zc
  | .cnd b x => .cnd b (V.sh d x)
  | .yld b => .yld (b + d)
def V.shL (d : Nat) : List V → List V
  | [] => []
  | x :: r => V.sh d x :: V.shL d r
end
theorem V.shL_get (d : Nat) : ∀ (l : List V) (i : Nat), (V.shL d l)[i]? = (l[i]?).map (V.sh d)
  | [], i => by simp [V.shL]
  | x :: r, 0 => by simp [V.shL]
  | x :: r, i + 1 => by simp [V.shL, V.shL_get d r i]
theorem V.shL_length (d : Nat) : ∀ (l : List V), (V.shL d l).length = l.length
  | [] => rfl
  | x :: r => by simp [V.shL, V.shL_length d r]
theorem V.sh_one (d : Nat) (v : V) : (V.sh d v).one = v.one := by cases v <;> simp [V.sh, V.one]

theorem VR.sh {w : World} {ok ok' : Nat → Prop} {j0 j : Nat → Option Loc} {n0 nx d : Nat} (hok : ∀ k, ok k → ok' k) (hj : ∀ b, b < n0 → j (b + d) = j0 b ∧ b + d < nx) {v : V} {m : Value} (h : VR w ok j0 n0 v m) : VR w ok' j nx (V.sh d v) m := by
  have mem : ∀ {l : List V} {ms : Array Value}, (∀ (i : Nat) c, l[i]? = some c → VR w ok' j nx (V.sh d c) (ms.getD i undef)) → ∀ (i : Nat) c, (V.shL d l)[i]? = some c → VR w ok' j nx c (ms.getD i undef) := by
    intro l ms ih i c hi
    rw [V.shL_get] at hi
    cases hq : l[i]? with
    | none => simp [hq] at hi
    | some x => simp [hq] at hi; subst hi; exact ih i x hq
  induction h with
  | p hp => exact .p (hp.mono (fun k hk => ⟨hok k hk, rfl⟩))
  | ref hb hl hq => exact .ref (hj _ hb).2 ((hj _ hb).1.trans hl) hq
  | eref hb hl hq => exact .eref (hj _ hb).2 ((hj _ hb).1.trans hl) hq
  | oslNil hb hl => exact .oslNil (hj _ hb).2 ((hj _ hb).1.trans hl)
  | oslEnd hb hl hlo hc => exact .oslEnd (hj _ hb).2 ((hj _ hb).1.trans hl) hlo hc
  | osl hb hl hq hlen hc hs hn => exact .osl (hj _ hb).2 ((hj _ hb).1.trans hl) hq hlen hc hs hn
  | bsl hb hl hq hlen => exact .bsl (hj _ hb).2 ((hj _ hb).1.trans hl) hq hlen
  | bslEnd => exact .bslEnd
  | agg hlen hone _ ih =>
    refine .agg (by rw [V.shL_length]; exact hlen) (fun i c hi => ?_) (mem ih)
    rw [V.shL_get] at hi
    rename_i cs ms _
    cases hq : cs[i]? with
    | none => simp [hq] at hi
    | some x => simp [hq] at hi; subst hi; rw [V.sh_one]; exact hone i x hq
  | tup hlen _ ih => exact .tup (by rw [V.shL_length]; exact hlen) (mem ih)
  | clo h1 h2 _ _ ih1 ih2 => exact .clo (by rw [V.shL_length]; exact h1) (by rw [V.shL_length]; exact h2) (mem ih1) (mem ih2)
  | ifc _ ih => exact .ifc ih
  | mp hb hl => exact .mp (hj _ hb).2 ((hj _ hb).1.trans hl)
  | zc => exact .zc
  | cnd _ h0 ih => exact .cnd ih h0
  | yld hb hl => exact .yld (hj _ hb).2 ((hj _ hb).1.trans hl)

def envSh (d : Nat) : List (Nat × V) → List (Nat × V)
  | [] => []
  | (t, v) :: r => (t, V.sh d v) :: envSh d r
theorem aget_envSh (d t : Nat) : ∀ e : List (Nat × V), aget (envSh d e) t = (aget e t).map (V.sh d)
  | [] => rfl
  | (k, v) :: r => by
    simp only [envSh, aget]
    split
    · rfl
    · exact aget_envSh d t r

def Blk.sh (d : Nat) : Blk → Blk
  | .box cs => .box (V.shL d cs)
  | .arr s xs gr => .arr s xs gr
  | .mp kk es => .mp kk es
  | .lp s c env => .lp s c (envSh d env)
def tsh (d : Nat) : Tab → Tab
  | [] => []
  | (k, x) :: r => (k + d, x.sh d) :: tsh d r
theorem aget_tsh (d : Nat) : ∀ (t : Tab) (b : Nat), aget (tsh d t) b = if d ≤ b then (aget t (b - d)).map (Blk.sh d) else none
  | [], b => by simp [tsh, aget]
  | (k, x) :: r, b => by
    simp only [tsh, aget, aget_tsh d r b]
    by_cases h : d ≤ b
    · rw [if_pos h, if_pos h]
      by_cases e : k = b - d
      · subst e; rw [if_pos (by omega), if_pos rfl]; rfl
      · rw [if_neg (by omega), if_neg e]
    · rw [if_neg h, if_neg h, if_neg (by omega)]
theorem aget_append {α : Type} (a b : List (Nat × α)) (k : Nat) : aget (a ++ b) k = match aget a k with | some x => some x | none => aget b k := by
  induction a with
  | nil => rfl
  | cons p r ih =>
    obtain ⟨q, x⟩ := p
    simp only [List.cons_append, aget]
    split
    · rfl
    · exact ih

theorem BlkR.sh {w : World} {ok ok' : Nat → Prop} {j0 j : Nat → Option Loc} {n0 nx d b : Nat} (hok : ∀ k, ok k → ok' k) (hj : ∀ b, b < n0 → j (b + d) = j0 b ∧ b + d < nx) (hb : b < n0) {x : Blk} (h : BlkR w ok j0 n0 b x) : BlkR w ok' j nx (b + d) (x.sh d) := by
  cases x with
  | box cs =>
    obtain ⟨l, ms, e, fr, hl, hh, hfr, hs, h1, hr⟩ := h
    refine ⟨l, ms, e, fr, (hj b hb).1.trans hl, hh, hfr, by rw [V.shL_length]; exact hs, fun i c hi => ?_, fun i c hi => ?_⟩
    · rw [V.shL_get] at hi
      cases hq : cs[i]? with
      | none => simp [hq] at hi
      | some x => simp [hq] at hi; subst hi; rw [V.sh_one]; exact h1 i x hq
    · rw [V.shL_get] at hi
      cases hq : cs[i]? with
      | none => simp [hq] at hi
      | some x => simp [hq] at hi; subst hi; exact (hr i x hq).sh hok hj
  | arr s xs gr =>
    rcases h with ⟨hl, hx⟩ | ⟨l, ms, e, fr, hl, hh, hfr, hs, hx, hg, h0, h1, hr⟩
    · exact .inl ⟨(hj b hb).1.trans hl, hx⟩
    · exact .inr ⟨l, ms, e, fr, (hj b hb).1.trans hl, hh, hfr, hs, hx, hg, h0, h1, fun i k x y h1 h2 => (hr i k x y h1 h2).mono (fun k hk => ⟨hok k hk, rfl⟩)⟩
  | mp kk es =>
    obtain ⟨l, ms, ck, hl, hh, hs, hr⟩ := h
    refine ⟨l, ms, ck, (hj b hb).1.trans hl, hh, hs, fun i k v hi => ?_⟩
    obtain ⟨e, h1, h2, h3, h4⟩ := hr i k v hi
    exact ⟨e, h1, h2, h3, h4.mono (fun k hk => ⟨hok k hk, rfl⟩)⟩
  | lp s c env =>
    obtain ⟨l, q, hl, hh, h1, h2, h3, h4, h5, hr⟩ := h
    refine ⟨l, q, (hj b hb).1.trans hl, hh, h1, h2, h3, h4, h5, fun t v ht => ?_⟩
    rw [aget_envSh] at ht
    obtain ⟨u, hu, rfl⟩ := Option.map_eq_some_iff.1 ht
    obtain ⟨m, a, b⟩ := hr t u hu
    exact ⟨m, a, b.sh hok hj⟩

section
variable {P : Program} {WG : World}
theorem CallT.frame {f : FuncId} {ps : List PV} {tab : Tab} {nx : Nat} {K KP K0 KP0 : V → Tab → Nat → Prop} (h : CallT P WG f (ps.map .p) [] 0 K0 KP0)
    (hk : ∀ r t n, K0 r t n → K (V.sh nx r) (tab ++ tsh nx t) (nx + n)) (hp : ∀ r t n, KP0 r t n → KP (V.sh nx r) (tab ++ tsh nx t) (nx + n)) : CallT P WG f (ps.map .p) tab nx K KP := by
  intro C j w ms h1 h2 h3 h4 hm hvs
  let C0 : Ctx := ⟨0, fun _ => none, fun _ => False, okc C (Own j tab) w, w, none, []⟩
  have hno : ∀ k, ¬ Own (fun _ => none) ([] : Tab) k := fun k ⟨b, x, l, hb, _⟩ => by simp [aget] at hb
  have hm0 : MemR WG C0 (fun _ => none) [] 0 w := {
    nb := Nat.le_refl _
    low := fun b x hb => by simp [aget] at hb
    blk := fun b x hb => by simp [aget] at hb
    apart := fun b b' x x' l l' hb => by simp [aget] at hb
    agree := fun b hb => absurd hb (Nat.not_lt_zero _)
    own := fun k hk => (hno k hk).elim
    ownG := fun k hk => (hno k hk).elim
    size := Nat.le_refl _
    keep := fun _ _ _ => rfl
    os := rfl
    tape := rfl
    output := rfl
    glob := hm.glob
    rd := fun k hk => ⟨hk.1, fun h => h⟩ }
  have hok0 : ∀ k, okc C (Own j tab) w k → okc C0 (Own (fun _ => none) ([] : Tab)) w k := fun k hk => ⟨hk.1, hno k, .inl hk⟩
  have hvs0 : VRs w (okc C0 (Own (fun _ => none) ([] : Tab)) w) (fun _ => none) 0 (ps.map .p) ms := by
    refine ⟨hvs.1, fun i v hv => ?_⟩
    have := hvs.2 i v hv
    simp only [List.getElem?_map] at hv
    cases hq : ps[i]? with
    | none => simp [hq] at hv
    | some x =>
      simp [hq] at hv; subst hv
      cases this with
      | p hp => exact .p (hp.mono (fun k hk => ⟨hok0 k hk, rfl⟩))
  have fin : ∀ (j0 : Nat → Option Loc) (t : Tab) (n : Nat) (w' : World), MemR WG C0 j0 t n w' →
      MemR WG C (fun b => if b < nx then j b else j0 (b - nx)) (tab ++ tsh nx t) (nx + n) w' ∧
      ∀ r m, VR w' (okc C0 (Own j0 t) w') j0 n r m → VR w' (okc C (Own (fun b => if b < nx then j b else j0 (b - nx)) (tab ++ tsh nx t)) w') (fun b => if b < nx then j b else j0 (b - nx)) (nx + n) (V.sh nx r) m := by
    intro j0 t n w' h'
    let J : Nat → Option Loc := fun b => if b < nx then j b else j0 (b - nx)
    have hJ1 : ∀ b, b < nx → J b = j b ∧ b < nx + n := fun b hb => ⟨by simp [J, hb], by omega⟩
    have hJ2 : ∀ b, b < n → J (b + nx) = j0 b ∧ b + nx < nx + n := fun b hb => ⟨by show (if b + nx < nx then _ else _) = _; rw [if_neg (by omega), Nat.add_sub_cancel], by omega⟩
    have hget : ∀ b x, aget (tab ++ tsh nx t) b = some x → (b < nx ∧ aget tab b = some x) ∨ (nx ≤ b ∧ ∃ y, aget t (b - nx) = some y ∧ x = y.sh nx) := by
      intro b x hb
      rw [aget_append] at hb
      split at hb
      · rename_i y hy; cases hb; exact .inl ⟨hm.low b x hy, hy⟩
      · rw [aget_tsh] at hb
        by_cases hle : nx ≤ b
        · rw [if_pos hle] at hb
          obtain ⟨y, hy, rfl⟩ := Option.map_eq_some_iff.1 hb
          exact .inr ⟨hle, y, hy, rfl⟩
        · rw [if_neg hle] at hb; cases hb
    have hown : ∀ k, Own J (tab ++ tsh nx t) k → Own j tab k ∨ Own j0 t k := by
      rintro k ⟨b, x, l, hb, hl, rfl⟩
      rcases hget b x hb with ⟨hlt, hx⟩ | ⟨hle, y, hy, rfl⟩
      · exact .inl ⟨b, x, l, hx, by rw [← (hJ1 b hlt).1]; exact hl, rfl⟩
      · refine .inr ⟨b - nx, y, l, hy, ?_, rfl⟩
        have : J b = j0 (b - nx) := by simp [J, Nat.not_lt.2 hle]
        rw [← this]; exact hl
    have hown0 : ∀ k, Own j0 t k → w.heap.size ≤ k := fun k hk => (h'.own k hk).resolve_left (fun h => h)
    have hkeep : ∀ k, k < w.heap.size → w'.heap[k]? = w.heap[k]? := fun k hk => h'.keep k hk (fun h => h)
    have hsz : w.heap.size ≤ w'.heap.size := h'.size
    have hok1 : ∀ k, okc C (Own j tab) w k → okc C (Own J (tab ++ tsh nx t)) w' k ∧ w'.heap[k]? = w.heap[k]? := by
      rintro k ⟨a1, a2, a3⟩
      refine ⟨⟨by omega, fun hn => ?_, a3⟩, hkeep k a1⟩
      rcases hown k hn with h | h
      · exact a2 h
      · have := hown0 k h; omega
    have hok2 : ∀ k, okc C0 (Own j0 t) w' k → okc C (Own J (tab ++ tsh nx t)) w' k := by
      rintro k ⟨a1, a2, a3⟩
      rcases a3 with a3 | a3 | a3
      · exact (hok1 k a3).1
      · exact a3.elim
      · refine ⟨a1, fun hn => ?_, ?_⟩
        · rcases hown k hn with h | h
          · have := hm.own_lt h; simp only [C0] at a3; omega
          · exact a2 h
        · right; right; rw [h4]; exact a3
    refine ⟨?_, fun r m hv => hv.sh hok2 hJ2⟩
    exact {
      nb := by rw [h1]; omega
      low := fun b x hb => by
        rcases hget b x hb with ⟨hlt, _⟩ | ⟨hle, y, hy, _⟩
        · omega
        · have := h'.low _ y hy; omega
      blk := fun b x hb => by
        rcases hget b x hb with ⟨hlt, hx⟩ | ⟨hle, y, hy, rfl⟩
        · exact (hm.blk b x hx).mono hok1 hJ1 hlt (fun l hl => hkeep _ ((hm.blk b x hx).lt hl))
        · have hb' := (h'.blk _ y hy).sh hok2 hJ2 (h'.low _ y hy)
          rwa [Nat.sub_add_cancel hle] at hb'
      apart := fun b b' x x' l l' hb hb' hne hl hl' => by
        rcases hget b x hb with ⟨hlt, hx⟩ | ⟨hle, y, hy, rfl⟩ <;> rcases hget b' x' hb' with ⟨hlt', hx'⟩ | ⟨hle', y', hy', rfl⟩
        · exact hm.apart b b' x x' l l' hx hx' hne (by rw [← (hJ1 b hlt).1]; exact hl) (by rw [← (hJ1 b' hlt').1]; exact hl')
        · have e1 : j b = some l := by rw [← (hJ1 b hlt).1]; exact hl
          have e2 : j0 (b' - nx) = some l' := by have : J b' = j0 (b' - nx) := by simp [J, Nat.not_lt.2 hle']
                                                 rw [← this]; exact hl'
          have := (hm.blk b x hx).lt e1
          have := hown0 l'.blk ⟨_, y', l', hy', e2, rfl⟩
          omega
        · have e1 : j b' = some l' := by rw [← (hJ1 b' hlt').1]; exact hl'
          have e2 : j0 (b - nx) = some l := by have : J b = j0 (b - nx) := by simp [J, Nat.not_lt.2 hle]
                                               rw [← this]; exact hl
          have := (hm.blk b' x' hx').lt e1
          have := hown0 l.blk ⟨_, y, l, hy, e2, rfl⟩
          omega
        · have e1 : j0 (b - nx) = some l := by have : J b = j0 (b - nx) := by simp [J, Nat.not_lt.2 hle]
                                               rw [← this]; exact hl
          have e2 : j0 (b' - nx) = some l' := by have : J b' = j0 (b' - nx) := by simp [J, Nat.not_lt.2 hle']
                                                 rw [← this]; exact hl'
          exact h'.apart _ _ y y' l l' hy hy' (by omega) e1 e2
      agree := fun b hb => by
        rw [h1] at hb
        rw [h2]; exact (hJ1 b hb).1
      own := fun k hk => by
        rcases hown k hk with h | h
        · exact hm.own k h
        · right; rw [h4]; exact hown0 k h
      ownG := fun k hk => by
        rcases hown k hk with h | h
        · exact hm.ownG k h
        · exact h'.ownG k h
      size := by rw [h4]; exact hsz
      keep := fun k hk h0 => by rw [h4] at hk ⊢; exact hkeep k hk
      os := by rw [h4]; exact h'.os
      tape := by rw [h4]; exact h'.tape
      output := by rw [h4]; exact h'.output
      glob := h'.glob
      rd := hm.rd }
  refine (h C0 (fun _ => none) w ms rfl rfl (funext fun k => propext ⟨fun h => h.elim, fun h => (hno k h).elim⟩) rfl hm0 hvs0).mono fun e w' he => ?_
  cases e with
  | returned m =>
    obtain ⟨j0, t, n, r, a, b, c⟩ := he
    obtain ⟨x, y⟩ := fin j0 t n w' a
    exact ⟨_, _, _, _, x, y r m b, hk _ _ _ c⟩
  | panicked ch =>
    obtain ⟨j0, t, n, r, m, a, b, c, d⟩ := he
    obtain ⟨x, y⟩ := fin j0 t n w' a
    exact ⟨_, _, _, _, _, x, b, y r m c, hp _ _ _ d⟩
  | outgrown => exact he.elim

def FV (P : Program) (WG : World) (f : FuncId) (ps : List PV) (r : V) : Prop := FVv P WG f (ps.map .p) r

def isP : V → Bool
  | .p _ => true
  | _ => false
def pureR : V → Bool
  | .p _ => true
  | .tup vs => vs.all isP
  | _ => false
theorem V.sh_pure {d : Nat} {r : V} (h : pureR r = true) : V.sh d r = r := by
  cases r with
  | p x => rfl
  | tup vs =>
    simp only [pureR, List.all_eq_true] at h
    simp only [V.sh]
    congr 1
    apply List.ext_getElem?
    intro i
    rw [V.shL_get]
    cases hq : vs[i]? with
    | none => rfl
    | some v =>
      have := h v (List.mem_of_getElem? hq)
      cases v <;> simp [isP] at this
      rfl
  | _ => simp [pureR] at h
theorem VR.pure {w w' : World} {ok ok' : Nat → Prop} {j j' : Nat → Option Loc} {nx nx' : Nat} (h : ∀ k, ok k → ok' k ∧ w'.heap[k]? = w.heap[k]?) {r : V} {m : Value} (hp : pureR r = true) (hr : VR w ok j nx r m) : VR w' ok' j' nx' r m := by
  cases hr with
  | p hx => exact .p (hx.mono h)
  | tup hlen hrel =>
    simp only [pureR, List.all_eq_true] at hp
    refine .tup hlen (fun i c hi => ?_)
    have h1 := hp c (List.mem_of_getElem? hi)
    have h2 := hrel i c hi
    revert h2
    generalize Array.getD _ i undef = mm
    intro h2
    cases c with
    | p x => cases h2 with | p hx => exact .p (hx.mono h)
    | _ => simp [isP] at h1
  | _ => simp [pureR] at hp

theorem CallT.pure {f : FuncId} {ps : List PV} {r : V} (hp : pureR r = true) (h : CallT P WG f (ps.map .p) [] 0 (fun r' _ _ => r' = r) noP) : FV P WG f ps r := by
  intro tab nx
  have h0 : CallT P WG f (ps.map .p) [] 0 (fun r' t n => r' = r ∧ t = [] ∧ n = 0) noP := by
    intro C j w ms h1 h2 h3 h4 hm hvs
    refine (h C j w ms h1 h2 h3 h4 hm hvs).mono fun e w' he => ?_
    cases e with
    | panicked ch => obtain ⟨_, _, _, _, _, _, _, _, d⟩ := he; exact d.elim
    | outgrown => exact he.elim
    | returned m =>
      obtain ⟨j', t, n, r', a, b, rfl⟩ := he
      have hno : ∀ k, ¬ Own j' ([] : Tab) k := fun k ⟨b, x, l, hb, _⟩ => by simp [aget] at hb
      have hok : ∀ k, okc C (Own j' t) w' k → okc C (Own j' []) w' k ∧ w'.heap[k]? = w'.heap[k]? := fun k hk => ⟨⟨hk.1, hno k, hk.2.2⟩, rfl⟩
      refine ⟨j', [], 0, _, ?_, VR.pure hok hp b, rfl, rfl, rfl⟩
      · exact {
          nb := by rw [h1]; exact Nat.le_refl _
          low := fun b x hb => by simp [aget] at hb
          blk := fun b x hb => by simp [aget] at hb
          apart := fun b b' x x' l l' hb => by simp [aget] at hb
          agree := fun b hb => by rw [h1] at hb; exact absurd hb (Nat.not_lt_zero _)
          own := fun k hk => (hno k hk).elim
          ownG := fun k hk => (hno k hk).elim
          size := a.size
          keep := a.keep
          os := a.os
          tape := a.tape
          output := a.output
          glob := a.glob
          rd := a.rd }
  refine h0.frame (fun r' t n hq => ?_) (fun r' t n hq => hq)
  obtain ⟨rfl, rfl, rfl⟩ := hq
  exact ⟨V.sh_pure hp, by simp [tsh], rfl⟩

end
end Go.Gp

namespace Go.Gp
open Go.RowKit
def subE (e : List (Nat × V)) : List (Nat × V) → Prop
  | [] => True
  | (t, v) :: r => aget e t = some v ∧ subE e r
theorem subE_get {e : List (Nat × V)} : ∀ {r : List (Nat × V)}, subE e r → ∀ t v, aget r t = some v → aget e t = some v
  | [], _, t, v, h => by simp [aget] at h
  | (k, u) :: r, hs, t, v, h => by
    simp only [aget] at h
    split at h
    · rename_i e'; subst e'; cases h; exact hs.1
    · exact subE_get hs.2 t v h

def Le (σ σ' : St) : Prop := σ.tab = σ'.tab ∧ σ.nx = σ'.nx ∧ σ.lo = σ'.lo ∧ σ.n = σ'.n ∧ subE σ.env σ'.env

section
variable {P : Program} {WG : World} {σ : St} {Q : VX → St → Prop}
theorem Le.weak {σ' : St} (h : Le σ σ') : Weak WG σ σ' := by
  obtain ⟨h1, h2, h3, h4, h5⟩ := h
  have := Weak.env (WG := WG) (σ := σ) (e := σ'.env) (subE_get h5)
  have e : { σ with env := σ'.env } = σ' := by
    obtain ⟨e, t, x, l, n⟩ := σ'
    simp only at h1 h2 h3 h4
    subst h1 h2 h3 h4; rfl
  rw [e] at this; exact this

theorem T_loopW {c : Code} {ι : Type} (S : ι → St) (I : ι → Prop) (m : ι → Nat) (i0 : ι) (hI : I i0) (h0 : Weak WG σ (S i0))
    (round : ∀ i, I i → T P WG c (S i) (thenQ (fun σ' => ∃ i', I i' ∧ m i' < m i ∧ Weak WG σ' (S i')) Q)) : T P WG (.loop c) σ Q := by
  refine T_loop (fun n σ => ∃ i, I i ∧ m i = n ∧ Weak WG σ (S i)) (m i0) ⟨i0, hI, rfl, h0⟩ (fun n σ ⟨i, h1, h2, h3⟩ => ?_)
  subst h2
  exact T_weak h3 ((round i h1).mono fun x σ' hq => by
    cases x with
    | normal => obtain ⟨i', a, b, c⟩ := hq; exact ⟨m i', b, i', a, rfl, c⟩
    | _ => exact hq)

def loopK (WG : World) {ι : Type} (S : ι → St) (I : ι → Prop) (m : ι → Nat) (i : ι) : St → Prop := fun σ' => ∃ i', I i' ∧ m i' < m i ∧ Le σ' (S i')

theorem T_loopS {c : Code} {ι : Type} (S : ι → St) (I : ι → Prop) (m : ι → Nat) (i0 : ι) (hI : I i0) (h0 : Le σ (S i0))
    (round : ∀ i, I i → wpC P WG c (thenQ (loopK WG S I m i) Q) (S i)) : T P WG (.loop c) σ Q :=
  T_loopW S I m i0 hI h0.weak fun i hi => (wpC_sound _ _ _ (round i hi)).mono fun x σ' hq => by
    cases x with
    | normal => obtain ⟨i', a, b, c⟩ := hq; exact ⟨i', a, b, c.weak⟩
    | _ => exact hq

theorem loopK_eq {ι : Type} (S : ι → St) (I : ι → Prop) (m : ι → Nat) (i : ι) (σ' : St) : loopK WG S I m i σ' = ∃ i', I i' ∧ m i' < m i ∧ Le σ' (S i') := rfl

theorem FV.q {f : FuncId} {ps : List PV} {r : V} (h : FV P WG f ps r) {vs : List V} {tab : Tab} {nx : Nat} (hv : vs = ps.map .p) : CallQ P WG f vs tab nx r := by subst hv; exact h tab nx
theorem FV.v {f : FuncId} {ps : List PV} {r : V} (h : FV P WG f ps r) {vs : List V} (hv : vs = ps.map .p) : FVv P WG f vs r := by subst hv; exact h

theorem FV.call {f : FuncId} {ps : List PV} {r : V} (h : FV P WG f ps r) {tab : Tab} {nx : Nat} {K KP : V → Tab → Nat → Prop} {vs : List V} (hv : vs = ps.map .p) (hk : K r tab nx) : CallT P WG f vs tab nx K KP := by
  subst hv
  exact (h tab nx).mono (fun r' t n ⟨h1, h2, h3⟩ => by subst h1 h2 h3; exact hk) (fun _ _ _ h => h.elim)

def enter' (n : Nat) (vs : List V) (tab : Tab) (nx : Nat) : St := { env := enumFrom 0 vs, tab, nx, lo := nx, n }

def resK (P : Program) (rs : List ResultVar) (K : V → Tab → Nat → Prop) (σ : St) : Prop := 
  match resV P σ rs with
  | some r => K r σ.tab σ.nx
  | none => False

def bodyQ' (P : Program) (rs : List ResultVar) (K KP : V → Tab → Nat → Prop) : VX → St → Prop
  | .normal, σ | .ret, σ => resK P rs K σ
  | .panic v, σ => KP v σ.tab σ.nx
  | _, _ => False

theorem CallT_fn {f : FuncId} {fn : Func} {c : Code} {vs : List V} {tab : Tab} {nx n : Nat} {rs : List ResultVar} {K KP : V → Tab → Nat → Prop} (hf : P.funcs[f]? = some fn) (hres : fn.results.toList = rs) (hnt : fn.ntmps = n) (hn : vs.length ≤ n) (hb : fn.body = some c)
    (h : wpC P WG c (bodyQ' P rs K KP) (enter' n vs tab nx)) : CallT P WG f vs tab nx K KP := by
  subst hres hnt
  refine CallT_body hf hb hn ((wpC_sound _ _ _ h).mono fun x σ hq => ?_)
  have key : resK P fn.results.toList K σ → ∃ r, resV P σ fn.results.toList = some r ∧ K r σ.tab σ.nx := fun h => by
    unfold resK at h
    split at h
    · rename_i r hr; exact ⟨r, hr, h⟩
    · exact h.elim
  cases x with
  | normal => exact key hq
  | ret => exact key hq
  | panic v => exact hq
  | exit => exact hq
  | goto => exact hq

theorem bodyQ'_normal (rs : List ResultVar) (K KP : V → Tab → Nat → Prop) (σ : St) : bodyQ' P rs K KP .normal σ = resK P rs K σ := rfl
theorem bodyQ'_ret (rs : List ResultVar) (K KP : V → Tab → Nat → Prop) (σ : St) : bodyQ' P rs K KP .ret σ = resK P rs K σ := rfl
theorem bodyQ'_panic (rs : List ResultVar) (K KP : V → Tab → Nat → Prop) (σ : St) (v : V) : bodyQ' P rs K KP (.panic v) σ = KP v σ.tab σ.nx := rfl
end
abbrev pI (n : Int) : PV := .v (.int .i64 n)
abbrev pU8 (n : Int) : PV := .v (.int .u8 n)
abbrev pB (b : Bool) : PV := .v (.bool b)
abbrev pS (s : ByteArray) : PV := .v (.string s)
abbrev vI (n : Int) : V := .p (.v (.int .i64 n))
abbrev vU8 (n : Int) : V := .p (.v (.int .u8 n))
abbrev vB (b : Bool) : V := .p (.v (.bool b))
abbrev vS (s : ByteArray) : V := .p (.v (.string s))
theorem wrap_i64 (n : Int) (h1 : -9223372036854775808 ≤ n) (h2 : n < 9223372036854775808) : IntKind.i64.wrap n = n := by
  simp only [IntKind.wrap, IntKind.signed, IntKind.bits]
  simp
  omega
theorem wrap_u8 (n : Int) (h1 : 0 ≤ n) (h2 : n < 256) : IntKind.u8.wrap n = n := by
  simp only [IntKind.wrap, IntKind.signed, IntKind.bits]
  simp
  omega
theorem notImp (b : Bool) : (b = false → (!b) = true) = True := by cases b <;> simp
theorem notImp2 (b : Bool) (p : Prop) : (b = false → (!b) = true ∧ p) = (b = false → p) := by cases b <;> simp
theorem beq_true' (b : Bool) : (b == true) = b := by cases b <;> rfl
theorem beq_false' (b : Bool) : (b == false) = !b := by cases b <;> rfl
end Go.Gp

namespace Go.Gp
open Go.RowKit
def ancStep (o : Oper) (tbl : List Nat) : Nat :=
  o.after.toList.foldl (fun acc e => if Region.binds .any e then acc ||| 2 ^ e.on ||| tbl.getD e.on 0 else acc) 0
def ancTbl : List Oper → List Nat → List Nat
  | [], tbl => tbl
  | o :: l, tbl => ancTbl l (tbl ++ [ancStep o tbl])
def reach (tbl : List Nat) (j i : Nat) : Bool := (tbl.getD i 0).testBit j

def Closed (ops : Array Oper) (L : Nat → Prop) : Prop := ∀ (i : Nat) o, ops[i]? = some o → L i → ∀ e ∈ o.after, Region.binds .any e = true → L e.on

section
variable {ops : Array Oper}
def TblOk (ops : Array Oper) (tbl : List Nat) : Prop := ∀ i j, i < tbl.length → (tbl.getD i 0).testBit j = true → ∀ L : Nat → Prop, Closed ops L → L i → L j

theorem anc_fold (tbl : List Nat) (j : Nat) : ∀ (l : List Edge) (acc : Nat),
    (l.foldl (fun acc e => if Region.binds .any e then acc ||| 2 ^ e.on ||| tbl.getD e.on 0 else acc) acc).testBit j = true →
    acc.testBit j = true ∨ ∃ e ∈ l, Region.binds .any e = true ∧ (e.on = j ∨ (tbl.getD e.on 0).testBit j = true)
  | [], acc, h => .inl h
  | e :: l, acc, h => by
    simp only [List.foldl_cons] at h
    rcases anc_fold tbl j l _ h with h | ⟨e', h1, h2⟩
    · by_cases hb : Region.binds .any e = true
      · rw [if_pos hb] at h
        simp only [Nat.testBit_or, Bool.or_eq_true, Nat.testBit_two_pow, decide_eq_true_eq] at h
        rcases h with (h | h) | h
        · exact .inl h
        · exact .inr ⟨e, List.mem_cons_self, hb, .inl h⟩
        · exact .inr ⟨e, List.mem_cons_self, hb, .inr h⟩
      · rw [if_neg hb] at h; exact .inl h
    · exact .inr ⟨e', List.mem_cons_of_mem _ h1, h2⟩

theorem anc_ok : ∀ (l : List Oper) (tbl : List Nat), (∀ q, ops[tbl.length + q]? = l[q]?) → TblOk ops tbl → TblOk ops (ancTbl l tbl)
  | [], _, _, h => h
  | o :: l, tbl, hl, h => by
    refine anc_ok l _ (fun q => ?_) (fun i j hi hb L hc hL => ?_)
    · have := hl (q + 1)
      rw [List.getElem?_cons_succ] at this
      rw [← this]; simp only [List.length_append, List.length_cons, List.length_nil]; congr 1; omega
    · simp only [List.length_append, List.length_cons, List.length_nil] at hi
      by_cases e : i < tbl.length
      · have : (tbl ++ [ancStep o tbl]).getD i 0 = tbl.getD i 0 := by
          simp only [List.getD_eq_getElem?_getD]; rw [List.getElem?_append_left e]
        rw [this] at hb
        exact h i j e hb L hc hL
      · have hi' : i = tbl.length := by omega
        subst hi'
        have : (tbl ++ [ancStep o tbl]).getD tbl.length 0 = ancStep o tbl := by simp [List.getD_eq_getElem?_getD]
        rw [this] at hb
        have ho : ops[tbl.length]? = some o := by simpa using hl 0
        rcases anc_fold tbl j _ _ hb with h0 | ⟨e', h1, h2, h3⟩
        · simp at h0
        · have hL' := hc _ o ho hL e' (by simpa using h1) h2
          rcases h3 with rfl | h3
          · exact hL'
          · by_cases e2 : e'.on < tbl.length
            · exact h _ j e2 h3 L hc hL'
            · rw [List.getD_eq_getElem?_getD, List.getElem?_eq_none (by omega)] at h3
              simp at h3

theorem reach_spec {i j : Nat} (h : reach (ancTbl ops.toList []) j i = true) {L : Nat → Prop} (hc : Closed ops L) (hL : L i) : L j := by
  by_cases hi : i < (ancTbl ops.toList []).length
  · exact anc_ok (ops := ops) ops.toList [] (fun q => by simp) (fun i j hi => by simp at hi) i j hi h L hc hL
  · unfold reach at h
    rw [List.getD_eq_getElem?_getD, List.getElem?_eq_none (by omega)] at h
    simp at h

def pairOk (ops : Array Oper) (tbl : List Nat) (i j : Nat) (o p : Oper) : Bool :=
  match p.dst with
  | none => true
  | some d => (i == j || o.dst != some d) && (!(o.looksAt ops).contains d || i == j || (if j < i then reach tbl j i else reach tbl i j))

def drawOk (ops : Array Oper) (M : List Nat) : Bool :=
  ((List.range ops.size).all fun i => match ops[i]? with
    | none => true
    | some o => o.after.all (fun e => !Region.binds .any e || decide (e.on < i)) &&
      (List.range ops.size).all fun j => match ops[j]? with
        | none => true
        | some p => pairOk ops (ancTbl ops.toList []) i j o p) &&
  M.all fun m => M.all fun m' => m == m' || (if m < m' then reach (ancTbl ops.toList []) m m' else reach (ancTbl ops.toList []) m' m)

structure DrawOk (ops : Array Oper) (M : List Nat) : Prop where
  before : ∀ (i : Nat) o, ops[i]? = some o → ∀ e ∈ o.after, Region.binds .any e = true → e.on < i
  dst : ∀ (i j : Nat) o p d, ops[i]? = some o → ops[j]? = some p → i ≠ j → p.dst = some d → o.dst ≠ some d
  look : ∀ (i j : Nat) o p d, ops[i]? = some o → ops[j]? = some p → i ≠ j → p.dst = some d → d ∈ o.looksAt ops → if j < i then reach (ancTbl ops.toList []) j i = true else reach (ancTbl ops.toList []) i j = true
  mem : ∀ m ∈ M, ∀ m' ∈ M, m < m' → reach (ancTbl ops.toList []) m m' = true

theorem drawOk_spec {M : List Nat} (h : drawOk ops M = true) : DrawOk ops M := by
  simp only [drawOk, Bool.and_eq_true, List.all_eq_true, List.mem_range] at h
  obtain ⟨h1, h2⟩ := h
  have lt : ∀ {i : Nat} {o}, ops[i]? = some o → i < ops.size := fun h => (Array.getElem?_eq_some_iff.1 h).1
  have key : ∀ {i : Nat} {o}, ops[i]? = some o → (∀ e ∈ o.after, Region.binds .any e = true → e.on < i) ∧ ∀ {j : Nat} {p}, ops[j]? = some p → pairOk ops (ancTbl ops.toList []) i j o p = true := by
    intro i o ho
    have := h1 i (lt ho)
    simp only [ho, Bool.and_eq_true, List.all_eq_true, List.mem_range] at this
    refine ⟨fun e he hb => ?_, fun hp => ?_⟩
    · have h3 := Array.all_eq_true_iff_forall_mem.1 this.1 e he
      simpa [hb] using h3
    · rename_i j p
      have h3 := this.2 j (lt hp)
      simpa [hp] using h3
  refine ⟨fun i o ho => (key ho).1, fun i j o p d ho hp hne hd => ?_, fun i j o p d ho hp hne hd hl => ?_, fun m hm m' hm' hlt => ?_⟩
  · have := (key ho).2 hp
    simp only [pairOk, hd, Bool.and_eq_true, Bool.or_eq_true, beq_iff_eq, bne_iff_ne] at this
    exact this.1.resolve_left hne
  · have := (key ho).2 hp
    simp only [pairOk, hd, Bool.and_eq_true, Bool.or_eq_true, beq_iff_eq, Bool.not_eq_true'] at this
    have h3 := (this.2.resolve_left (fun h => h.elim (fun h => by simp [hl] at h) hne))
    split <;> simp_all
  · have h3 := h2 m hm m' hm'
    simp only [Bool.or_eq_true, beq_iff_eq] at h3
    have := h3.resolve_left (by omega)
    simpa [hlt] using this
end
end Go.Gp

namespace Go.Gp
open Go.RowKit
def snap1 (tab : Tab) : V → Option PV
  | .p x => some x
  | .osl b s lo len _ =>
    match aget tab b with
    | some (.arr s' xs _) => if s' = s ∧ lo + len ≤ xs.length then some (.sl s ((xs.drop lo).take len)) else none
    | _ => none
  | .zc => some (.sl 1 [])
  | .ref b o =>
    match aget tab b with
    | some (.box cs) => match allP cs with | some ps => some (.ptr (.agg ps) o) | none => none
    | _ => none
  | _ => none
def snapL (tab : Tab) : List V → Option (List PV)
  | [] => some []
  | x :: r => match snap1 tab x, snapL tab r with | some y, some l => some (y :: l) | _, _ => none
def snap (tab : Tab) : V → Option V
  | .agg cs => match snapL tab cs with | some l => some (.p (.agg l)) | none => none
  | .ifc t x => match snap1 tab x with | some y => some (.p (.ifc t y)) | none => none
  | .clo fn fs cs => match snapL tab fs, snapL tab cs with | some a, some b => some (.p (.clo fn a b)) | _, _ => none
  | x => match snap1 tab x with | some y => some (.p y) | none => none
def snapT (tab : Tab) : List V → Option (List V)
  | [] => some []
  | x :: r => match snap tab x, snapT tab r with | some y, some l => some (y :: l) | _, _ => none
def snapR (tab : Tab) : V → Option V
  | .tup vs => match snapT tab vs with | some l => some (.tup l) | none => none
  | x => snap tab x

section
variable {P : Program} {WG : World}
theorem MemR.below {C : Ctx} {j : Nat → Option Loc} {tab : Tab} {nx : Nat} {w w' : World} (h : MemR WG C j tab nx w) (hb : Below w.heap.size w w') :
    MemR WG C j tab nx w' ∧ (∀ k, okc C (Own j tab) w k → okc C (Own j tab) w' k ∧ w'.heap[k]? = w.heap[k]?) ∧ ∀ k, w.heap.size ≤ k → k < w'.heap.size → okc C (Own j tab) w' k := by
  have hok : ∀ k, okc C (Own j tab) w k → okc C (Own j tab) w' k ∧ w'.heap[k]? = w.heap[k]? := fun k ⟨h1, h2, h3⟩ => ⟨⟨Nat.lt_of_lt_of_le h1 hb.size, h2, h3⟩, hb.block k h1⟩
  refine ⟨?_, hok, fun k h1 h2 => ⟨h2, fun hn => ?_, .inr (.inr (Nat.le_trans h.size h1))⟩⟩
  · exact {
      nb := h.nb
      low := h.low
      blk := fun b x hx => (h.blk b x hx).mono hok (fun b hb => ⟨rfl, hb⟩) (h.low b x hx) (fun l hl => hb.block _ ((h.blk b x hx).lt hl))
      apart := h.apart
      agree := h.agree
      own := h.own
      ownG := h.ownG
      size := Nat.le_trans h.size hb.size
      keep := fun k hk h0 => (hb.block k (Nat.lt_of_lt_of_le hk h.size)).trans (h.keep k hk h0)
      os := hb.os.trans h.os
      tape := hb.tape.trans h.tape
      output := hb.output.trans h.output
      glob := h.glob.trans (hb.mono h.glob.size)
      rd := h.rd }
  · have := h.own_lt hn; omega

theorem VR.snap1 {C : Ctx} {j : Nat → Option Loc} {tab : Tab} {nx : Nat} {w : World} {ok : Nat → Prop} (hm : MemR WG C j tab nx w) (hok : ∀ k, okc C (Own j tab) w k → ok k) (hown : ∀ k, Own j tab k → ok k) {v : V} {m : Value} {y : PV}
    (hv : VR w (okc C (Own j tab) w) j nx v m) (h : snap1 tab v = some y) : PR w ok y m := by
  have hmono : ∀ {x m}, PR w (okc C (Own j tab) w) x m → PR w ok x m := fun h => h.mono (fun k hk => ⟨hok k hk, rfl⟩)
  cases v with
  | p x => simp only [Gp.snap1] at h; cases h; cases hv with | p hp => exact hmono hp
  | zc => simp only [Gp.snap1] at h; cases h; cases hv; exact .nil
  | osl b s lo len cap =>
    simp only [Gp.snap1] at h
    split at h
    · rename_i s' xs gr hb
      split at h
      · rename_i hc
        obtain ⟨rfl, hle⟩ := hc
        cases h
        have hblk := hm.blk b _ hb
        cases hv with
        | oslNil => simp only [List.take_zero]; exact .nil
        | oslEnd => simp only [List.take_zero]; exact .nil
        | @osl b s lo len cap l c q hbn hl hq hlen hcp hsm hn =>
          rcases hblk with ⟨hl', _⟩ | ⟨l', ms, e, fr, hl', hh, hfr, hs, hx, hg, h0, h1, hr⟩
          · rw [hl] at hl'; cases hl'
          · obtain rfl : l' = l := by rw [hl] at hl'; exact (Option.some.inj hl').symm
            have hget : ∀ (i : Nat) x, ((xs.drop lo).take len)[i]? = some x → xs[lo + i]? = some x ∧ i < len := fun i x hi => by
              have h3 := (List.getElem?_eq_some_iff.1 hi).1
              simp at h3
              rw [List.getElem?_take] at hi
              rw [if_pos (by omega), List.getElem?_drop] at hi
              exact ⟨hi, by omega⟩
            have hmul : ∀ i k, l'.off + ((lo + i) * s' + k) = q + (i * s' + k) := fun i k => by rw [hq, Nat.add_mul]; omega
            refine .sl (fun k => ms.getD (q + k) undef) (by simp; omega) ⟨hown _ ⟨b, _, l', hb, hl, rfl⟩, ms, e, fr, hh⟩ hlen (fun k hk => ?_) (fun i x hx' => h0 _ x (hget i x hx').1) (fun i k x y hx' hy => h1 _ k x y (hget i x hx').1 hy) (fun i k x y hx' hy => ?_)
            · have h4 : lo * s' + len * s' ≤ l'.cap * s' := by rw [← Nat.add_mul]; exact Nat.mul_le_mul_right _ (by omega)
              rw [cell_row hh, Array.getElem?_eq_getElem (by omega)]
              simp [Array.getD, show q + k < ms.size by omega]
            · have h5 := hr _ k x y (hget i x hx').1 hy
              rw [hmul] at h5
              exact hmono h5
      · cases h
    · cases h
  | ref b o =>
    simp only [Gp.snap1] at h
    split at h
    · rename_i cs hb
      split at h
      · rename_i ps hps
        cases h
        have hblk := hm.blk b _ hb
        cases hv with
        | @ref b o l q hbn hl hq =>
          obtain ⟨l', ms, e, fr, hl', hh, hfr, hs, h1, hrel⟩ := hblk
          obtain rfl : l' = l := by rw [hl] at hl'; exact (Option.some.inj hl').symm
          have hcs := allP_some hps
          have hlen : ps.length = cs.length := by rw [hcs]; simp
          have hget : ∀ (k : Nat) (c : PV), ps[k]? = some c → cs[k]? = some (.p c) := fun k c hk => by rw [hcs, List.getElem?_map, hk]; rfl
          refine .ptr (fun k => ms.getD (l'.off + k) undef) ⟨hown _ ⟨b, _, l', hb, hl, rfl⟩, ms, e, fr, hh⟩ hq (fun k hk => ?_) (fun i c hi => h1 i _ (hget i c hi)) (fun i c hi => ?_)
          · have hk' : k < ps.length := hk
            rw [cell_row hh, Array.getElem?_eq_getElem (by omega)]
            simp [Array.getD, show l'.off + k < ms.size by omega]
          · have := hrel i _ (hget i c hi)
            cases this with
            | p hp => exact hmono hp
      · cases h
    · cases h
  | _ => simp [Gp.snap1] at h

theorem opM_congr {σ σ' : St} {op : Op} {vs : List V} (h1 : σ'.tab = σ.tab) (h2 : σ'.nx = σ.nx) : opM P σ' op vs = opM P σ op vs := by
  unfold opM appF copyF makeF bytesF makeMapF insertF; rw [h1, h2]

def isPz : V → Bool
  | .p _ | .zc => true
  | _ => false
def allPz : List V → Bool
  | [] => true
  | v :: r => isPz v && allPz r
def opEnv (σ : St) : List Operand → List (Nat × V)
  | [] => []
  | .tmp t :: r => (match aget σ.env t with | some v => if isPz v then (t, v) :: opEnv σ r else opEnv σ r | _ => opEnv σ r)
  | _ :: r => opEnv σ r
theorem opEnv_get {σ : St} {t : Nat} {v : V} : ∀ {l : List Operand}, aget (opEnv σ l) t = some v → aget σ.env t = some v ∧ isPz v = true
  | [], h => by simp [opEnv, aget] at h
  | .tmp u :: r, h => by
    simp only [opEnv] at h
    split at h
    · rename_i x hx
      split at h
      · rename_i hz
        simp only [aget] at h
        split at h
        · rename_i e; subst e; cases h; exact ⟨hx, hz⟩
        · exact opEnv_get h
      · exact opEnv_get h
    · exact opEnv_get h
  | .const _ :: r, h => opEnv_get (l := r) h
  | .func _ :: r, h => opEnv_get (l := r) h
  | .global _ :: r, h => opEnv_get (l := r) h
theorem opEnv_mem {σ : St} {t : Nat} {v : V} (hv : isPz v = true) : ∀ {l : List Operand}, Operand.tmp t ∈ l → aget σ.env t = some v → aget (opEnv σ l) t = some v
  | [], h, _ => by cases h
  | y :: r, h, hx => by
    rcases List.mem_cons.1 h with rfl | h
    · simp only [opEnv, hx, hv, aget, if_true]
    · have ih := opEnv_mem hv h hx
      cases y with
      | tmp u =>
        simp only [opEnv]
        split
        · rename_i z hz
          split
          · simp only [aget]
            split
            · rename_i e; subst e; rw [hx] at hz; exact hz.symm
            · exact ih
          · exact ih
        · exact ih
      | _ => exact ih
theorem evs_opEnv {σ : St} {n : Nat} : ∀ {l m : List Operand} {vs : List V}, (∀ x ∈ m, x ∈ l) → evs σ m = some vs → allPz vs = true → evs ⟨opEnv σ l, [], 0, 0, n⟩ m = some vs
  | _, [], vs, _, h, _ => by cases h; rfl
  | l, y :: m, vs, hm, h, hp => by
    simp only [evs] at h
    split at h
    · rename_i v vs' hv hvs
      cases h
      simp only [allPz, Bool.and_eq_true] at hp
      have ih := evs_opEnv (n := n) (fun z hz => hm z (List.mem_cons_of_mem _ hz)) hvs hp.2
      have hy : ev ⟨opEnv σ l, [], 0, 0, n⟩ y = some v := by
        cases y with
        | tmp t => exact opEnv_mem hp.1 (hm _ List.mem_cons_self) hv
        | const c => exact hv
        | func f => exact hv
        | global g => exact hv
      simp only [evs, hy, ih]
    · cases h

def isFresh : Op → Bool
  | .buildSlice .. => true
  | .convert .. => true
  | .call c => (match c.callee with | .builtin .append => true | _ => false)
  | _ => false
def freshV (P : Program) (o : Oper) (σ : St) : Option (V × Prop) :=
  match o.guard with
  | some _ => none
  | none =>
    match evs σ o.op.operands.toList with
    | some vs =>
      if allPz vs && isFresh o.op then
        match opM P ⟨[], [], 0, 0, 0⟩ o.op vs with
        | some (some (.osl b s lo n cap), [(b', .arr s' xs _)], _, side) => if b = 0 ∧ b' = 0 ∧ lo = 0 ∧ s' = s ∧ n = xs.length then some (if n = 0 ∧ cap.getD 1 = 0 then .zc else .p (.sl s xs), side) else none
        | _ => none
      else none
    | none => none

theorem OpS.fresh {o : Oper} {σ : St} {l : List Operand} {s n : Nat} {cap : Option Nat} {xs : List PV} {gr : Bool} {m : Nat} {v : V} (hn : n = xs.length)
    (h : OpS P WG o ⟨opEnv σ l, [], 0, 0, σ.n⟩ (fun v' t k => v' = .osl 0 s 0 n cap ∧ t = [(0, .arr s xs gr)] ∧ k = m)) (hvv : v = if n = 0 ∧ cap.getD 1 = 0 then .zc else .p (.sl s xs)) : OpS P WG o σ (Just σ v) := by
  intro C j a w hr
  have hm := hr.mem
  have hno : ∀ k, ¬ Own (fun _ => none) ([] : Tab) k := fun k ⟨b, x, l, hb, _⟩ => by simp [aget] at hb
  let C0 : Ctx := ⟨0, fun _ => none, Own (fun _ => none) ([] : Tab), okc C (Own j σ.tab) w, w, none, []⟩
  have hm0 : MemR WG C0 (fun _ => none) [] 0 w := {
    nb := Nat.le_refl _
    low := fun b x hb => by simp [aget] at hb
    blk := fun b x hb => by simp [aget] at hb
    apart := fun b b' x x' l l' hb => by simp [aget] at hb
    agree := fun b hb => absurd hb (Nat.not_lt_zero _)
    own := fun k hk => (hno k hk).elim
    ownG := fun k hk => (hno k hk).elim
    size := Nat.le_refl _
    keep := fun _ _ _ => rfl
    os := rfl
    tape := rfl
    output := rfl
    glob := hm.glob
    rd := fun k hk => ⟨hk.1, hno k⟩ }
  have hr0 : ERel WG C0 (fun _ => none) ⟨opEnv σ l, [], 0, 0, σ.n⟩ { a with defers := [] } w := {
    mem := hm0
    lo := Nat.le_refl _
    lx := Nat.le_refl _
    env := fun t v ht => by
      obtain ⟨hv, hz⟩ := opEnv_get ht
      obtain ⟨m, h1, h2⟩ := hr.env t _ hv
      refine ⟨m, h1, ?_⟩
      cases v with
      | p x => cases h2 with | p hp => exact .p (hp.mono fun k hk => ⟨⟨hk.1, hno k, .inl hk⟩, rfl⟩)
      | zc => cases h2; exact .zc
      | _ => simp [isPz] at hz
    n := hr.n
    defers := ⟨⟨[], rfl, List.nodup_nil, fun D hD => by cases hD⟩, fun l hl => by cases hl⟩ }
  obtain ⟨m', w', v', j', tab', nx', hrun, hmv, hv, rfl, rfl, rfl⟩ := h C0 _ _ w hr0
  have hm' := hmv.mem
  have hbel : Below w.heap.size w w' := ⟨hm'.os, hm'.tape, hm'.output, hm'.size, fun k hk => hm'.keep k hk (hno k)⟩
  obtain ⟨hm2, hk2, hnew⟩ := hm.below hbel
  refine ⟨m', w', v, j, σ.tab, σ.nx, hrun, ⟨hm2, hr.lx, fun x u hx => hx.mono hk2 fun b hb => ⟨rfl, hb⟩, hk2⟩, ?_, rfl, rfl, rfl⟩
  rw [hvv]
  split
  · rename_i h0
    obtain ⟨rfl, hc0⟩ := h0
    cases cap with
    | none => cases hc0
    | some q =>
      have hc0 : q = 0 := hc0
      subst hc0
      cases hv with
      | oslEnd => exact .zc
      | osl hb hl hq hlen hc hsome hnone => cases hsome 0 rfl; exact .zc
  refine .p (hv.snap1 (ok := okc C (Own j σ.tab) w') hm' (fun k hk => ?_) (fun k hk => ?_) ?_)
  · obtain ⟨h1, _, h3⟩ := hk
    rcases h3 with h3 | h3 | h3
    · exact (hk2 k h3).1
    · exact (hno k h3).elim
    · exact hnew k h3 h1
  · have h1 := hm'.own_lt hk
    rcases hm'.own k hk with h3 | h3
    · exact (hno k h3).elim
    · exact hnew k h3 h1
  · subst hn
    simp [Gp.snap1, aget]

theorem fresh_sound {o : Oper} {σ : St} {v : V} {side : Prop} (h : freshV P o σ = some (v, side)) (hs : side) : o.guard = none ∧ OpS P WG o σ (Just σ v) := by
  unfold freshV at h
  split at h
  · cases h
  rename_i hg
  refine ⟨hg, ?_⟩
  split at h
  · rename_i vs hvs
    split at h
    · rename_i hp
      simp only [Bool.and_eq_true] at hp
      split at h
      · rename_i b s lo n cap b' s' xs gr m sd hM
        split at h
        · rename_i hc
          obtain ⟨rfl, rfl, rfl, rfl, hn⟩ := hc
          cases h
          have h1 := evs_opEnv (n := σ.n) (l := o.op.operands.toList) (fun _ h => h) hvs hp.1
          have h2 : opM P ⟨opEnv σ o.op.operands.toList, [], 0, 0, σ.n⟩ o.op vs = some (some (.osl 0 s' 0 n cap), [(0, .arr s' xs gr)], m, side) := by
            rw [← hM]; exact opM_congr rfl rfl
          exact OpS.fresh hn (opM_sound h1 h2 hs) rfl
        · cases h
      · cases h
    · cases h
  · cases h
def freshG (P : Program) (o : Oper) (σ : St) (side : Prop) : Option (V × Prop) :=
  match o.guard with
  | none => freshV P o σ
  | some _ =>
    match freshV P { o with guard := none } σ with
    | some (v, s) => some (.cnd true v, side ∧ s)
    | none => none
theorem freshG_sound {o : Oper} {σ : St} {v : V} {sd side : Prop} (h : freshG P o σ sd = some (v, side)) (hs : side) : (o.guard = none ∧ OpS P WG o σ (Just σ v)) ∨ (sd ∧ ∃ g v', o.guard = some g ∧ v = .cnd true v' ∧ OpS P WG o σ (Just σ v')) := by
  unfold freshG at h
  split at h
  · exact .inl (fresh_sound h hs)
  · rename_i g hg
    split at h
    · rename_i v' s hF
      cases h
      exact .inr ⟨hs.1, g, v', hg, rfl, (fresh_sound hF hs.2).2⟩
    · cases h
theorem freshV_congr {o : Oper} {σ σ' : St} (h : ∀ t, Operand.tmp t ∈ o.op.operands.toList → aget σ'.env t = aget σ.env t) : freshV P o σ' = freshV P o σ := by
  have key : ∀ l : List Operand, (∀ t, Operand.tmp t ∈ l → aget σ'.env t = aget σ.env t) → evs σ' l = evs σ l := by
    intro l
    induction l with
    | nil => intro _; rfl
    | cons x r ih =>
      intro hl
      have hx : ev σ' x = ev σ x := by
        cases x with
        | tmp t => exact hl t List.mem_cons_self
        | _ => rfl
      simp only [evs, hx, ih fun t ht => hl t (List.mem_cons_of_mem _ ht)]
  unfold freshV
  rw [key _ h]
theorem freshG_congr {o : Oper} {σ σ' : St} {sd : Prop} (h : ∀ t, Operand.tmp t ∈ o.op.operands.toList → aget σ'.env t = aget σ.env t) : freshG P o σ' sd = freshG P o σ sd := by
  unfold freshG
  rw [freshV_congr h, freshV_congr (o := { o with guard := none }) h]
end
end Go.Gp

namespace Go.Gp
open Go.RowKit
def pEnv (e : List (Nat × V)) : Option Nat → V → List (Nat × V)
  | some d, u => aset e d u
  | none, _ => e
theorem aget_pEnv (e : List (Nat × V)) (d : Option Nat) (u : V) (t : Nat) : aget (pEnv e d u) t = if d = some t then some u else aget e t := by
  cases d with
  | none => simp [pEnv]
  | some d =>
    simp only [pEnv, aget_aset]
    by_cases h : t = d
    · subst h; simp
    · rw [if_neg h, if_neg (by intro e; cases e; exact h rfl)]

def uV (o : Oper) (c : Bool) (v : V) : V :=
  match o.guard with
  | none => v
  | some _ => .cnd c v
def stP (σ : St) (o : Oper) (u : V) (tab : Tab) (nx : Nat) : St := { σ with env := pEnv σ.env o.dst u, tab, nx }

theorem putC_stP (σ : St) (o : Oper) (c : Bool) (v : V) : putC σ o c v = stP σ o (uV o c v) σ.tab σ.nx := by
  unfold putC stP uV putS pEnv
  cases o.guard <;> cases o.dst <;> rfl
theorem putS_stP (σ : St) (o : Oper) (v : V) (tab : Tab) (nx : Nat) : putS σ o.dst v tab nx = stP σ o v tab nx := by
  unfold stP putS pEnv
  cases o.dst <;> rfl

inductive SV where
  | pure (c : Bool) (v : V) (side : Prop)
  | call (c : Bool) (side : Prop) (g : FuncId) (vs : List V)
  | mem (v : Option V) (tab : Tab) (nx : Nat) (side : Prop)

def stepV (P : Program) (ds : Met) (o : Oper) (σ : St) : Option SV :=
  match guardC ds σ o.guard with
  | none => none
  | some c =>
    match o.op with
    | .pick a x y =>
      match pickF σ a x y with
      | some (v, side) => some (.pure c v (c = true → side))
      | none => none
    | .call ⟨.value f, args, _⟩ =>
      match ev σ f, evsS σ args.toList with
      | some vf, some (b, vs) =>
        match cloOf (stripV vf) with
        | some (g, fs, cs) => if callable P g then some (.call c (c = true → condV vf = true ∧ b = true) g (fs ++ vs ++ cs)) else
            (match extOf P g with
             | some e => (match extV e (fs ++ vs ++ cs) with | some (v, side) => some (.pure c v (c = true → (condV vf = true ∧ b = true) ∧ side)) | none => none)
             | none => none)
        | none => none
      | _, _ => none
    | op =>
      match evsS σ op.operands.toList with
      | some (b, vs) =>
        if isMem P op then
          match opM P σ op vs with
          | some (v, tab, nx, side) => some (.mem v tab nx (c = true ∧ b = true ∧ side))
          | none => none
        else
          match opF P σ.tab op vs with
          | some (v, side) => some (.pure c v (c = true → b = true ∧ side))
          | none => none
      | none => none

def isLoad : Op → Bool
  | .load .. | .convert .. | .lookup .. => true
  | _ => false

section
variable {P : Program} {WG : World} {σ : St} {Q : VX → St → Prop} {ops : Array Oper}
def WPO (P : Program) (WG : World) (ops : Array Oper) (Q : VX → St → Prop) (i : Nat) (σ σ' : St) : Prop :=
  ∀ C j a w (K : Act → World → Prop), ERel WG C j σ a w → (∀ j' a' w', ERel WG C j' σ' a' w' → K a' w') → wpOpIn (fw C.rnd) 0 P ops (PostR WG C Q) i K a w

theorem WPO_just {i : Nat} {o : Oper} {c : Bool} {v : V} {ds : Met} (hds : MetOk ops ds) (hi : ops[i]? = some o) (hg : guardC ds σ o.guard = some c) (hd : dstOk σ o.dst) (h : c = true → OpS P WG o σ (Just σ v)) :
    WPO P WG ops Q i σ (stP σ o (uV o c v) σ.tab σ.nx) := by
  intro C j a w K hr hk
  rw [← putC_stP] at hk
  have hw := wanted_eq hr hds hg
  simp only [wpOpIn, hi]
  cases hc : c with
  | true =>
    rw [hc] at hw
    simp only [hw, if_true]
    obtain ⟨m, w', v', j', tab', nx', hrun, hm, hv, rfl, rfl, rfl⟩ := h hc C j a w hr
    refine ⟨fun _ _ => trivial, ?_⟩
    rw [semAt_value hrun]
    simp only [Oper.uponIn]
    refine hk j' _ w' ?_
    unfold putC
    split
    · exact put_rel hr hm hv hd
    · exact put_rel hr hm (.cnd (fun _ => hv) (fun e => by simp [hc] at e)) hd
  | false =>
    rw [hc] at hw
    simp only [hw, Bool.false_eq_true, if_false]
    refine ⟨fun _ _ => trivial, hk j _ w ?_⟩
    unfold putC
    split
    · rename_i hn
      rw [hn] at hg; simp only [guardC] at hg; cases hg; cases hc
    · exact put_rel hr (Moves.refl hr) (.cnd (fun e => by simp [hc] at e) (fun _ => rfl)) hd

theorem WPO_pure {i : Nat} {o : Oper} {c : Bool} {v : V} {side : Prop} {ds : Met} (hds : MetOk ops ds) (hi : ops[i]? = some o) (hd : dstOk σ o.dst) (h : stepV P ds o σ = some (.pure c v side)) (hs : side) :
    WPO P WG ops Q i σ (stP σ o (uV o c v) σ.tab σ.nx) := by
  unfold stepV at h
  split at h
  · cases h
  rename_i c' hg
  split at h
  · rename_i a x y hop
    split at h
    · rename_i v' side' hp
      cases h
      exact WPO_just hds hi hg hd (fun hc => pickF_sound hop hp (hs hc))
    · cases h
  · rename_i f args ts hop
    split at h
    · rename_i vf b vs hf hvs
      split at h
      · rename_i g fs cs hcl
        split at h
        · cases h
        · split at h
          · rename_i e he
            split at h
            · rename_i v' side' hv
              cases h
              refine WPO_just hds hi hg hd (fun hc => ?_)
              exact OpS.unforce (op_ext (σ := force σ) hop (ev_force hf (hs hc).1.1) hcl (evsS_force hvs (hs hc).1.2) he hv (hs hc).2)
            · cases h
          · cases h
      · cases h
    · cases h
  · split at h
    · rename_i b vs hvs
      split at h
      · split at h <;> cases h
      · split at h
        · rename_i v' side' hf
          cases h
          refine WPO_just hds hi hg hd (fun hc => ?_)
          have hs := hs hc
          exact Just.unforce (opF_sound (σ := force σ) (evsS_force hvs hs.1) (show opF P (force σ).tab o.op vs = some (v, side') from hf) hs.2)
        · cases h
    · cases h

theorem WPO_mem {i : Nat} {o : Oper} {v : Option V} {tab : Tab} {nx : Nat} {side : Prop} {ds : Met} (hds : MetOk ops ds) (hi : ops[i]? = some o) (hd : dstOk σ o.dst) (h : stepV P ds o σ = some (.mem v tab nx side)) (hs : side) (hn : v = none → o.dst = none) :
    WPO P WG ops Q i σ (stP σ o (v.getD .zc) tab nx) := by
  intro C j a w K hr hk
  unfold stepV at h
  split at h
  · cases h
  rename_i c' hg
  split at h
  · split at h <;> cases h
  · split at h
    · split at h
      · split at h
        · cases h
        · split at h
          · split at h <;> cases h
          · cases h
      · cases h
    · cases h
  · split at h
    · rename_i b vs hvs
      split at h
      · split at h
        · rename_i v' tab' nx' side' hf
          cases h
          obtain ⟨rfl, hb, hs⟩ := hs
          have hw := wanted_eq hr hds hg
          have h1 := opM_sound (σ := force σ) (WG := WG) (evsS_force hvs hb) (show opM P (force σ) o.op vs = some (v, tab, nx, side') from hf) hs
          simp only [wpOpIn, hi, hw, if_true]
          cases v with
          | some v =>
            obtain ⟨m, w', v', j', tab', nx', hrun, hm, hv, rfl, rfl, rfl⟩ := OpS.unforce h1 C j a w hr
            refine ⟨fun _ _ => trivial, ?_⟩
            rw [semAt_value hrun]
            simp only [Oper.uponIn]
            rw [← putS_stP] at hk
            exact hk j' _ w' (put_rel hr hm hv hd)
          | none =>
            obtain ⟨w', j', tab', nx', hrun, hm, rfl, rfl⟩ := h1 C j a w hr.force
            refine ⟨fun _ _ => trivial, ?_⟩
            rw [semAt_skip hrun]
            simp only [Oper.uponIn, hn rfl, Act.put]
            refine hk j' _ w' ?_
            unfold stP; rw [hn rfl]
            exact ⟨hm.mem, hr.lo, hm.lx, fun t u hu => let ⟨q, h1, h2⟩ := hr.env t u hu; ⟨q, h1, hm.keep _ _ h2⟩, hr.n, hr.defers.mono hm.okk⟩
        · cases h
      · split at h <;> cases h
    · cases h

theorem WPO_call {i : Nat} {o : Oper} {c : Bool} {side : Prop} {g : FuncId} {vs : List V} {v : V} {tab : Tab} {nx : Nat} {ds : Met} (hds : MetOk ops ds) (hi : ops[i]? = some o) (hd : dstOk σ o.dst) (h : stepV P ds o σ = some (.call c side g vs)) (hs : side)
    (hc : c = true → CallT P WG g vs σ.tab σ.nx (fun r t n => r = v ∧ t = tab ∧ n = nx) noP) (hcf : c = false → tab = σ.tab ∧ nx = σ.nx) :
    WPO P WG ops Q i σ (stP σ o (uV o c v) tab nx) := by
  intro C j a w K hr hk
  unfold stepV at h
  split at h
  · cases h
  rename_i c' hg
  split at h
  · split at h <;> cases h
  · rename_i f args ts hop
    split at h
    · rename_i vf b vs' hx hvs
      split at h
      · rename_i g' fs cs hcl
        split at h
        · rename_i hcb
          cases h
          have hw := wanted_eq hr hds hg
          simp only [wpOpIn, hi]
          have hput : ∀ (t : Tab) (n : Nat), (match o.guard with | none => putS σ o.dst v t n | some _ => putS σ o.dst (.cnd c v) t n) = stP σ o (uV o c v) t n := by
            intro t n
            unfold uV
            cases o.guard <;> simp only [putS_stP]
          rw [← hput] at hk
          cases hcc : c with
          | true =>
            rw [hcc] at hw
            simp only [hw, if_true]
            have hx' := ev_force hx (hs hcc).1
            refine wp_call (σ := force σ) hr.force hop hx' hcl (evsS_force hvs (hs hcc).2) hcb (hc hcc) (fun j' tab' nx' w' r' m hm hv hk' => ?_) (fun _ _ _ _ _ _ _ _ hk' => hk'.elim)
            obtain ⟨rfl, rfl, rfl⟩ := hk'
            refine hk j' _ w' ?_
            split
            · exact put_rel hr hm hv hd
            · exact put_rel hr hm (.cnd (fun _ => hv) (fun e => by simp [hcc] at e)) hd
          | false =>
            rw [hcc] at hw
            simp only [hw, Bool.false_eq_true, if_false]
            refine ⟨fun _ _ => trivial, hk j _ w ?_⟩
            obtain ⟨rfl, rfl⟩ := hcf hcc
            split
            · rename_i hn
              rw [hn] at hg; simp only [guardC] at hg; cases hg; cases hcc
            · exact put_rel hr (Moves.refl hr) (.cnd (fun e => by simp [hcc] at e) (fun _ => rfl)) hd
        · split at h
          · split at h <;> cases h
          · cases h
      · cases h
    · cases h
  · split at h
    · split at h
      · split at h <;> cases h
      · split at h <;> cases h
    · cases h

theorem ev_congr {σ' : St} {x : Operand} (h : ∀ t, x = .tmp t → aget σ'.env t = aget σ.env t) : ev σ' x = ev σ x := by
  cases x with
  | tmp t => exact h t rfl
  | _ => rfl
theorem evsS_congr {σ' : St} : ∀ {xs : List Operand}, (∀ t, Operand.tmp t ∈ xs → aget σ'.env t = aget σ.env t) → evsS σ' xs = evsS σ xs
  | [], _ => rfl
  | x :: r, h => by
    simp only [evsS]
    rw [ev_congr (σ := σ) (σ' := σ') (x := x) (fun t e => h t (by subst e; exact List.mem_cons_self)), evsS_congr (fun t ht => h t (List.mem_cons_of_mem _ ht))]
theorem guardC_congr {σ' : St} {ds : Met} (hds : MetOk ops ds) {g : Option (Nat × Bool)} (h : ∀ n b t, g = some (n, b) → (ops[n]?).bind (·.dst) = some t → aget σ'.env t = aget σ.env t) : guardC ds σ' g = guardC ds σ g := by
  cases g with
  | none => rfl
  | some gw =>
    obtain ⟨n, b⟩ := gw
    simp only [guardC]
    cases hd : aget ds n with
    | none => rfl
    | some d =>
      cases d with
      | none => rfl
      | some t =>
        have := hds n _ hd
        have h2 : (ops[n]?).bind (·.dst) = some t := by
          cases hq : ops[n]? with
          | none => simp [hq] at this
          | some o => simp [hq] at this; simpa using this
        simp only [h n b t rfl h2]

theorem opF_tab {tab tab' : Tab} {op : Op} {vs : List V} (h : isLoad op = false) : opF P tab op vs = opF P tab' op vs := by
  cases op <;> first | rfl | simp [isLoad] at h

theorem mem_looks {o : Oper} {t : Nat} (h : Operand.tmp t ∈ o.op.operands.toList) : t ∈ o.looksAt ops :=
  List.mem_append_left _ (List.mem_filterMap.2 ⟨.tmp t, h, rfl⟩)

theorem stepV_congr {σ' : St} {ds : Met} {o : Oper} (hds : MetOk ops ds) (henv : ∀ t ∈ o.looksAt ops, aget σ'.env t = aget σ.env t)
    (htab : isLoad o.op = true → σ'.tab = σ.tab) (hmem : isMem P o.op = true → σ'.tab = σ.tab ∧ σ'.nx = σ.nx) : stepV P ds o σ' = stepV P ds o σ := by
  have hl : ∀ t, Operand.tmp t ∈ o.op.operands.toList → aget σ'.env t = aget σ.env t := fun t h => henv t (mem_looks h)
  have hg : guardC ds σ' o.guard = guardC ds σ o.guard := guardC_congr hds (fun n b t h1 h2 => henv t (List.mem_append_right _ (by rw [h1]; simp [h2])))
  unfold stepV
  rw [hg]
  cases guardC ds σ o.guard with
  | none => rfl
  | some c =>
    simp only
    split
    · rename_i a x y hop
      have : pickF σ' a x y = pickF σ a x y := by
        unfold pickF
        rw [ev_congr (σ := σ) (x := a) (fun t e => hl t (by rw [hop, e]; simp [Op.operands])), ev_congr (σ := σ) (x := x) (fun t e => hl t (by rw [hop, e]; simp [Op.operands])), ev_congr (σ := σ) (x := y) (fun t e => hl t (by rw [hop, e]; simp [Op.operands]))]
      rw [this]
    · rename_i f args ts hop
      rw [ev_congr (σ := σ) (x := f) (fun t e => hl t (by rw [hop, e]; simp [Op.operands, Call.operands])), evsS_congr (σ := σ) (xs := args.toList) (fun t e => hl t (by rw [hop]; simp [Op.operands, Call.operands]; right; simpa using e))]
    · rw [evsS_congr (σ := σ) hl]
      cases hq : evsS σ o.op.operands.toList with
      | none => rfl
      | some bv =>
        obtain ⟨b, vs⟩ := bv
        simp only
        cases hm : isMem P o.op with
        | true => simp only [if_true]; rw [opM_congr (hmem hm).1 (hmem hm).2]
        | false =>
          simp only [Bool.false_eq_true, if_false]
          cases hlo : isLoad o.op with
          | true => rw [htab hlo]
          | false => rw [opF_tab (tab := σ'.tab) (tab' := σ.tab) hlo]

end
end Go.Gp

namespace Go.Gp
open Go.RowKit
abbrev Again := Nat × Met × Oper × St × Bool × V
abbrev MemAt := Nat × Tab × Nat

def againF (P : Program) : Again → MemAt → Prop
  | (_, ds, o, σ, c, v), (_, tab, nx) =>
    match stepV P ds o { σ with tab, nx } with
    | some (.pure c' v' side) => c' = c ∧ v' = v ∧ side
    | _ => False

def allowed (tbl : List Nat) (M : List Nat) (i k : Nat) : Bool := M.all fun m => (!reach tbl m i || decide (m < k)) && (!reach tbl i m || decide (k ≤ m))

def inP : List (Nat × Nat) → Nat → Nat → Bool
  | [], _, _ => false
  | (a, b) :: l, i, k => if i = a ∧ k = b then true else inP l i k
def inM : List Nat → Nat → Bool
  | [], _ => false
  | m :: l, q => if q = m then true else inM l q
theorem inM_false : ∀ {M : List Nat} {q : Nat}, inM M q = false → q ∉ M
  | [], _, _ => by simp
  | m :: l, q, h => by
    simp only [inM] at h
    split at h
    · cases h
    · rename_i hne
      simp only [List.mem_cons, not_or]
      exact ⟨hne, inM_false h⟩
theorem inM_true : ∀ {M : List Nat} {q : Nat}, inM M q = true → q ∈ M
  | [], _, h => by simp [inM] at h
  | m :: l, q, h => by
    simp only [inM] at h
    split at h
    · rename_i e; subst e; exact List.mem_cons_self
    · exact List.mem_cons_of_mem _ (inM_true h)

def alOk (ops : Array Oper) (M : List Nat) (al : List (Nat × Nat)) : Bool :=
  (M.all fun m => decide (m < ops.size)) &&
  (List.range ops.size).all fun i => match ops[i]? with
    | none => true
    | some o => !isLoad o.op || (0 :: M.map (· + 1)).all fun k => !allowed (ancTbl ops.toList []) M i k || (M.all fun m => decide (m < i) == decide (m < k)) || inP al i k

section
variable {P : Program} {WG : World} {Q : VX → St → Prop} {ops : Array Oper}
def PStep (P : Program) (WG : World) (ops : Array Oper) (M : List Nat) (AF : List Again) (MF : List MemAt) (q : Nat) (o : Oper) (σ σ' : St) (u : V) : Prop :=
  dstOk σ o.dst ∧ ∃ ds, MetOk ops ds ∧
    ((q ∉ M ∧ σ' = stP σ o u σ.tab σ.nx ∧ ∃ c v side, stepV P ds o σ = some (.pure c v side) ∧ side ∧ u = uV o c v ∧ (isLoad o.op = true → (q, ds, o, σ, c, v) ∈ AF)) ∨
     (q ∉ M ∧ σ' = stP σ o u σ.tab σ.nx ∧ ∃ c side g vs r, stepV P ds o σ = some (.call c side g vs) ∧ side ∧ ((c = true → FVv P WG g vs r) ∨ (M = [] ∧ (c = true → CallQ P WG g vs σ.tab σ.nx r))) ∧ u = uV o c r) ∨
     (q ∈ M ∧ (q + 1, σ'.tab, σ'.nx) ∈ MF ∧ σ' = stP σ o u σ'.tab σ'.nx ∧
       ((∃ v side, stepV P ds o σ = some (.mem v σ'.tab σ'.nx side) ∧ side ∧ (v = none → o.dst = none) ∧ u = v.getD .zc) ∨
        (∃ side g vs v, stepV P ds o σ = some (.call true side g vs) ∧ side ∧ CallT P WG g vs σ.tab σ.nx (fun r t n => r = v ∧ t = σ'.tab ∧ n = σ'.nx) noP ∧ u = uV o true v))) ∨
     (q ∉ M ∧ σ' = stP σ o u σ.tab σ.nx ∧ ∃ sd v side, (sd → guardC ds σ o.guard = some true) ∧ freshG P o σ sd = some (v, side) ∧ side ∧ u = v))

theorem stepV_guard {σ : St} {ds : Met} {o : Oper} {v : Option V} {t : Tab} {n : Nat} {s : Prop} (h : stepV P ds o σ = some (.mem v t n s)) (hs : s) : guardC ds σ o.guard = some true := by
  unfold stepV at h
  split at h
  · cases h
  rename_i c hc
  have : c = true := by
    split at h
    · split at h <;> cases h
    · split at h
      · split at h
        · split at h
          · cases h
          · split at h
            · split at h <;> cases h
            · cases h
        · cases h
      · cases h
    · split at h
      · split at h
        · split at h
          · cases h; exact hs.1
          · cases h
        · split at h <;> cases h
      · cases h
  rw [hc, this]
theorem stepV_notMem {σ : St} {ds : Met} {o : Oper} {r : SV} (h : stepV P ds o σ = some r) (hm : ∀ v t n s, r ≠ .mem v t n s) : isMem P o.op = false := by
  unfold stepV at h
  split at h
  · cases h
  split at h
  · rename_i hop; rw [hop]; rfl
  · rename_i hop; rw [hop]; rfl
  · split at h
    · split at h
      · split at h
        · cases h; exact absurd rfl (hm _ _ _ _)
        · cases h
      · rename_i hf; simpa using hf
    · cases h
theorem stepV_call {σ : St} {ds : Met} {o : Oper} {c : Bool} {s : Prop} {g : FuncId} {vs : List V} (h : stepV P ds o σ = some (.call c s g vs)) : isLoad o.op = false := by
  unfold stepV at h
  split at h
  · cases h
  split at h
  · split at h <;> cases h
  · rename_i hop; rw [hop]; rfl
  · split at h
    · split at h
      · split at h <;> cases h
      · split at h <;> cases h
    · cases h

def EnvIs (ops : Array Oper) (u : Nat → V) (e0 : List (Nat × V)) (L : Nat → Prop) (e : List (Nat × V)) : Prop :=
  ∀ t, (∃ q o, ops[q]? = some o ∧ L q ∧ o.dst = some t ∧ aget e t = some (u q)) ∨ ((∀ (q : Nat) o, ops[q]? = some o → L q → o.dst ≠ some t) ∧ aget e t = aget e0 t)

theorem EnvIs.put {u : Nat → V} {e0 e : List (Nat × V)} {L L' : Nat → Prop} {M : List Nat} (hc : DrawOk ops M) (h : EnvIs ops u e0 L e) {i : Nat} {o : Oper} (hi : ops[i]? = some o) (hL : ∀ q, L' q ↔ L q ∨ q = i) : EnvIs ops u e0 L' (pEnv e o.dst (u i)) := by
  intro t
  rw [aget_pEnv]
  by_cases hd : o.dst = some t
  · rw [if_pos hd]
    exact .inl ⟨i, o, hi, (hL i).2 (.inr rfl), hd, rfl⟩
  · rw [if_neg hd]
    rcases h t with ⟨q, p, hq, hLq, hp, he⟩ | ⟨hno, he⟩
    · exact .inl ⟨q, p, hq, (hL q).2 (.inl hLq), hp, he⟩
    · refine .inr ⟨fun q p hq hLq hp => ?_, he⟩
      rcases (hL q).1 hLq with h1 | rfl
      · exact hno q p hq h1 hp
      · rw [hi] at hq; cases hq; exact hd hp

theorem EnvIs.agree {u : Nat → V} {e0 e e' : List (Nat × V)} {L L' : Nat → Prop} {M : List Nat} (hc : DrawOk ops M) (h : EnvIs ops u e0 L e) (h' : EnvIs ops u e0 L' e') {t : Nat}
    (ht : ∀ (q : Nat) o, ops[q]? = some o → o.dst = some t → (L q ↔ L' q)) : aget e t = aget e' t := by
  rcases h t with ⟨q, o, hq, hL, ho, he⟩ | ⟨hno, he⟩ <;> rcases h' t with ⟨q', o', hq', hL', ho', he'⟩ | ⟨hno', he'⟩
  · by_cases e : q = q'
    · subst e; rw [he, he']
    · exact absurd ho (hc.dst q q' o o' t hq hq' e ho')
  · exact absurd ho (hno' q o hq ((ht q o hq ho).1 hL))
  · exact absurd ho' (hno q' o' hq' ((ht q' o' hq' ho').2 hL'))
  · rw [he, he']

theorem ERel.drew {C : Ctx} {j : Nat → Option Loc} {σ : St} {a : Act} {w : World} (h : ERel WG C j σ a w) : ERel WG C j σ a { w with drawn := w.drawn + 1 } :=
  ⟨h.mem.heap_eq rfl rfl rfl rfl, h.lo, h.lx, fun t v hv => let ⟨m, h1, h2⟩ := h.env t v hv; ⟨m, h1, VR.mono (w := w) (w' := { w with drawn := w.drawn + 1 }) (ok := okc C (Own j σ.tab) w) (ok' := okc C (Own j σ.tab) { w with drawn := w.drawn + 1 }) (j := j) (nx := σ.nx) (fun k hk => ⟨hk, rfl⟩) (fun b hb => ⟨rfl, hb⟩) h2⟩, h.n, h.defers.mono (fun k hk => ⟨hk, rfl⟩)⟩

theorem draw_main {id : Nat} (S : Nat → St) (u : Nat → V) (M : List Nat) (AF : List Again) (MF : List MemAt) (hc : DrawOk ops M) (al : List (Nat × Nat)) (hal0 : alOk ops M al = true) (hmix : P.follows .mixedOrders = true)
    (h0 : (0, (S 0).tab, (S 0).nx) ∈ MF) (hstep : ∀ (q : Nat) o, ops[q]? = some o → PStep P WG ops M AF MF q o (S q) (S (q + 1)) (u q))
    (hagain : ∀ x ∈ AF, ∀ y ∈ MF, inP al x.1 y.1 = true → againF P x y) (hQ : Q .normal (S ops.size)) : T P WG (.region id ops true) (S 0) Q := by
  simp only [alOk, Bool.and_eq_true] at hal0
  have hM : ∀ m ∈ M, m < ops.size := fun m hm => by simpa using List.all_eq_true.1 hal0.1 m hm
  have hop : ∀ q, q < ops.size → ∃ o, ops[q]? = some o := fun q hq => ⟨ops[q], by simp [hq]⟩

  have hlo : ∀ q, q ≤ ops.size → (S q).lo = (S 0).lo ∧ (S q).n = (S 0).n := by
    intro q
    induction q with
    | zero => exact fun _ => ⟨rfl, rfl⟩
    | succ q ih =>
      intro hq
      obtain ⟨o, ho⟩ := hop q hq
      obtain ⟨h1, h2⟩ := ih (by omega)
      obtain ⟨_, ds, _, h⟩ := hstep q o ho
      have : (S (q + 1)).lo = (S q).lo ∧ (S (q + 1)).n = (S q).n := by
        rcases h with ⟨_, he, _⟩ | ⟨_, he, _⟩ | ⟨_, _, he, _⟩ | ⟨_, he, _⟩ <;> rw [he] <;> exact ⟨rfl, rfl⟩
      exact ⟨this.1.trans h1, this.2.trans h2⟩
  have hsame : ∀ b a, a ≤ b → b ≤ ops.size → (∀ m ∈ M, ¬ (a ≤ m ∧ m < b)) → (S b).tab = (S a).tab ∧ (S b).nx = (S a).nx := by
    intro b
    induction b with
    | zero => intro a h1 _ _; have h : a = 0 := Nat.le_zero.1 h1; rw [h]; exact ⟨rfl, rfl⟩
    | succ b ih =>
      intro a h1 h2 h3
      by_cases e : a = b + 1
      · subst e; exact ⟨rfl, rfl⟩
      · obtain ⟨o, ho⟩ := hop b h2
        obtain ⟨i1, i2⟩ := ih a (by omega) (by omega) (fun m hm h => h3 m hm ⟨h.1, by omega⟩)
        obtain ⟨_, ds, _, h⟩ := hstep b o ho
        have hb : b ∉ M := fun hb => h3 b hb ⟨by omega, by omega⟩
        rcases h with ⟨_, he, _⟩ | ⟨_, he, _⟩ | ⟨hm, _⟩ | ⟨_, he, _⟩
        · rw [he]; exact ⟨i1, i2⟩
        · rw [he]; exact ⟨i1, i2⟩
        · exact absurd hm hb
        · rw [he]; exact ⟨i1, i2⟩
  have hSenv : ∀ i, i ≤ ops.size → EnvIs ops u (S 0).env (fun q => q < i) (S i).env := by
    intro i
    induction i with
    | zero => exact fun _ t => .inr ⟨fun q o _ hq => absurd hq (Nat.not_lt_zero _), rfl⟩
    | succ i ih =>
      intro hi
      obtain ⟨o, ho⟩ := hop i hi
      have h1 := (ih (by omega)).put hc ho (L' := fun q => q < i + 1) (fun q => by omega)
      have h2 : (S (i + 1)).env = pEnv (S i).env o.dst (u i) := by
        obtain ⟨_, ds, _, h⟩ := hstep i o ho
        rcases h with ⟨_, he, _⟩ | ⟨_, he, _⟩ | ⟨_, _, he, _⟩ | ⟨_, he, _⟩ <;> rw [he] <;> rfl
      rw [h2]; exact h1
  intro C j a w hr
  refine wpIn_region_any hmix ?_
  have hr0 : ERel WG C j (S 0) a { w with drawn := w.drawn + 1 } := hr.drew

  suffices key : ∀ (fuel : Nat) (listed : Array Bool) (σ : St) (j : Nat → Option Loc) (a : Act) (w : World), ERel WG C j σ a w → listed.size = ops.size → listed.toList.count false ≤ fuel →
      Closed ops (fun i => listed.getD i false = true) → σ.lo = (S 0).lo → σ.n = (S 0).n → EnvIs ops u (S 0).env (fun i => listed.getD i false = true) σ.env →
      (∃ k, k ≤ ops.size ∧ k ∈ 0 :: M.map (· + 1) ∧ (k, (S k).tab, (S k).nx) ∈ MF ∧ σ.tab = (S k).tab ∧ σ.nx = (S k).nx ∧ ∀ m ∈ M, (listed.getD m false = true ↔ m < k)) →
      wpAnyIn (fw C.rnd) 0 P .any ops (PostR WG C Q) fuel listed a w by
    refine key ops.size (Array.replicate ops.size false) (S 0) j a _ hr0 (by simp) ?_ ?_ rfl rfl ?_ ⟨0, Nat.zero_le _, List.mem_cons_self, h0, rfl, rfl, fun m hm => ?_⟩
    · simp [List.count_replicate]
    · intro i o ho h; simp [Array.getElem?_replicate] at h; split at h <;> simp at h
    · intro t; exact .inr ⟨fun q o ho h => by simp [Array.getElem?_replicate] at h; split at h <;> simp at h, rfl⟩
    · constructor
      · intro h; simp [Array.getElem?_replicate] at h; split at h <;> simp at h
      · intro h; exact absurd h (Nat.not_lt_zero _)

  have done : ∀ (listed : Array Bool) (σ : St) (j : Nat → Option Loc) (a : Act) (w : World), ERel WG C j σ a w → listed.size = ops.size → (∀ i, i < ops.size → listed.getD i false = true) →
      σ.lo = (S 0).lo → σ.n = (S 0).n → EnvIs ops u (S 0).env (fun i => listed.getD i false = true) σ.env →
      (∃ k, k ≤ ops.size ∧ k ∈ 0 :: M.map (· + 1) ∧ (k, (S k).tab, (S k).nx) ∈ MF ∧ σ.tab = (S k).tab ∧ σ.nx = (S k).nx ∧ ∀ m ∈ M, (listed.getD m false = true ↔ m < k)) → PostR WG C Q .normal a w := by
    intro listed σ j a w hr hsz hall hlo1 hn1 henv ⟨k, hk, _, _, ht, hx, hm⟩
    have hagree : ∀ t, aget (S ops.size).env t = aget σ.env t := fun t => (hSenv _ (Nat.le_refl _)).agree hc henv (fun q o ho _ => by
      have : q < ops.size := (Array.getElem?_eq_some_iff.1 ho).1
      simp only [hall q this, this])
    obtain ⟨s1, s2⟩ := hsame ops.size k hk (Nat.le_refl _) (fun m hmm ⟨h1, h2⟩ => by
      have := (hm m hmm).1 (hall m h2); omega)
    obtain ⟨l1, l2⟩ := hlo ops.size (Nat.le_refl _)
    have e : { σ with env := (S ops.size).env } = S ops.size := by
      cases hS : S ops.size with
      | mk e t x l n =>
        rw [hS] at s1 s2 l1 l2
        simp only at s1 s2 l1 l2
        obtain ⟨e', t', x', l', n'⟩ := σ
        simp only at ht hx hlo1 hn1 ⊢
        subst s1 s2 l1 l2 ht hx hlo1 hn1
        rfl
    obtain ⟨j', hr'⟩ := Weak.env (WG := WG) (σ := σ) (e := (S ops.size).env) (fun t v h => (hagree t).symm.trans h) C j a w hr
    rw [e] at hr'
    exact ⟨.normal, S ops.size, j', .normal, hr', hQ⟩
  intro fuel
  induction fuel with
  | zero =>
    intro listed σ j a w hr hsz hcnt hcl hlo1 hn1 henv hmem
    have hall : ∀ i, i < ops.size → listed.getD i false = true := by
      intro i hi
      have h1 : listed.toList.count false = 0 := by omega
      have h2 := List.count_eq_zero.1 h1
      have hi' : i < listed.size := by omega
      cases hq : listed[i] with
      | true => simp [hi', hq]
      | false => exact absurd (by rw [← hq]; simp) h2
    refine ⟨?_, done listed σ j a w hr hsz hall hlo1 hn1 henv hmem⟩
    apply List.eq_nil_iff_forall_not_mem.2
    intro i hi
    obtain ⟨h1, o, ho, _⟩ := mem_ready.1 hi
    have hi' : i < listed.size := by rw [hsz]; exact (Array.getElem?_eq_some_iff.1 ho).1
    have := hall i (by omega)
    simp [hi'] at this h1
    rw [this] at h1; cases h1
  | succ fuel ih =>
    intro listed σ j a w hr hsz hcnt hcl hlo1 hn1 henv hmem
    refine ⟨fun hnil => ?_, fun i hi => ?_⟩
    · refine done listed σ j a w hr hsz (fun i => ?_) hlo1 hn1 henv hmem
      induction i using Nat.strongRecOn with
      | _ i ihi =>
        intro hi
        obtain ⟨o, ho⟩ := hop i hi
        cases hq : listed.getD i false with
        | true => rfl
        | false =>
          have hi' : i < listed.size := by omega
          have : i ∈ Region.ready .any ops listed := mem_ready.2 ⟨by simp [hi'] at hq ⊢; exact hq, o, ho, fun e he hb => ihi e.on (hc.before i o ho e he hb) (by have := hc.before i o ho e he hb; omega)⟩
          rw [hnil] at this; cases this
    · obtain ⟨hun, o, ho, hafter⟩ := mem_ready.1 hi
      have hilt : i < ops.size := (Array.getElem?_eq_some_iff.1 ho).1
      have hil : i < listed.size := by omega
      have hun' : listed.getD i false = false := by simp [hil] at hun ⊢; exact hun
      have hset : ∀ q, (listed.setIfInBounds i true).getD q false = true ↔ listed.getD q false = true ∨ q = i := by
        intro q
        by_cases e : i = q
        · subst e; simp [hil]
        · rw [getD_set_ne false e]
          constructor
          · exact .inl
          · rintro (h | h)
            · exact h
            · exact absurd h.symm e
      have hcl' : Closed ops (fun q => (listed.setIfInBounds i true).getD q false = true) := by
        intro q p hq hL e he hb
        rcases (hset q).1 hL with h | rfl
        · exact (hset _).2 (.inl (hcl q p hq h e he hb))
        · rw [ho] at hq; cases hq
          exact (hset _).2 (.inl (hafter e he hb))
      have anc : ∀ q, reach (ancTbl ops.toList []) q i = true → q ≠ i → listed.getD q false = true := fun q hq hne =>
        ((hset q).1 (reach_spec hq hcl' ((hset i).2 (.inr rfl)))).resolve_right hne
      have desc : ∀ q, reach (ancTbl ops.toList []) i q = true → listed.getD q false = false := fun q hq => by
        cases h : listed.getD q false with
        | false => rfl
        | true => have := reach_spec hq hcl h; rw [hun'] at this; cases this
      have hlook : ∀ t ∈ o.looksAt ops, aget σ.env t = aget (S i).env t := fun t ht => henv.agree hc (hSenv i (by omega)) (fun q p hq hp => by
        by_cases e : i = q
        · subst e; simp [hun']
        · have := hc.look i q o p t ho hq e hp ht
          split at this
          · rename_i hlt
            have := anc q this (by omega)
            simp only [this, hlt]
          · rename_i hge
            have := desc q this
            simp only [this, Bool.false_eq_true, false_iff]; omega)
      have hcnt' : (listed.setIfInBounds i true).toList.count false ≤ fuel := by
        rw [Array.toList_setIfInBounds, List.count_set (by simpa using hil)]
        have h1 : listed.toList[i]'(by simpa using hil) = false := by simp [hil] at hun; simpa using hun
        rw [h1]
        have h2 : listed.toList.count false - (if (false == false) = true then 1 else 0) + (if (true == false) = true then 1 else 0) = listed.toList.count false - 1 := rfl
        refine Nat.le_trans (Nat.le_of_eq h2) ?_
        omega
      have hnext : ∀ (σ' : St) (j' : Nat → Option Loc) (a' : Act) (w' : World), ERel WG C j' σ' a' w' → σ'.lo = σ.lo → σ'.n = σ.n → σ'.env = pEnv σ.env o.dst (u i) →
          (∃ k, k ≤ ops.size ∧ k ∈ 0 :: M.map (· + 1) ∧ (k, (S k).tab, (S k).nx) ∈ MF ∧ σ'.tab = (S k).tab ∧ σ'.nx = (S k).nx ∧ ∀ m ∈ M, ((listed.setIfInBounds i true).getD m false = true ↔ m < k)) →
          wpAnyIn (fw C.rnd) 0 P .any ops (PostR WG C Q) fuel (listed.setIfInBounds i true) a' w' := by
        intro σ' j' a' w' hr' h1 h2 h3 h4
        exact ih _ σ' j' a' w' hr' (by simpa using hsz) hcnt' hcl' (h1.trans hlo1) (h2.trans hn1) (by rw [h3]; exact henv.put hc ho hset) h4
      obtain ⟨k, hk, hkM, hkF, ht, hx, hm⟩ := hmem
      obtain ⟨hd, ds, hds, hcase⟩ := hstep i o ho
      have hd' : dstOk σ o.dst := by
        revert hd; unfold dstOk
        cases o.dst with
        | none => exact fun h => h
        | some d => simp only; rw [hn1, (hlo i (by omega)).2]; exact fun h => h
      have quiet : i ∉ M → ∃ k, k ≤ ops.size ∧ k ∈ 0 :: M.map (· + 1) ∧ (k, (S k).tab, (S k).nx) ∈ MF ∧ σ.tab = (S k).tab ∧ σ.nx = (S k).nx ∧ ∀ m ∈ M, ((listed.setIfInBounds i true).getD m false = true ↔ m < k) := fun hi => by
        refine ⟨k, hk, hkM, hkF, ht, hx, fun m hmm => ?_⟩
        rw [hset, hm m hmm]
        constructor
        · rintro (h | rfl)
          · exact h
          · exact absurd hmm hi
        · exact .inl
      rcases hcase with ⟨hnM, _, c, v, side, hV, hs, hu, hAF⟩ | ⟨hnM, _, c, side, g, vs, r, hV, hs, hfv, hu⟩ | ⟨hinM, hMF, hSt, hcase⟩ | ⟨hnM, _, sd, v, side, hsd, hV, hs, hu⟩
      · -- data alone
        have hnm := stepV_notMem hV (fun _ _ _ _ h => by cases h)
        have hV' : ∃ side', stepV P ds o σ = some (.pure c v side') ∧ side' := by
          cases hld : isLoad o.op with
          | false => exact ⟨side, (stepV_congr hds hlook (fun h => by rw [hld] at h; cases h) (fun h => by rw [hnm] at h; cases h)).trans hV, hs⟩
          | true =>
            have hal : allowed (ancTbl ops.toList []) M i k = true := by
              simp only [allowed, List.all_eq_true, Bool.and_eq_true, Bool.or_eq_true, Bool.not_eq_true', decide_eq_true_eq]
              intro m hmm
              refine ⟨?_, ?_⟩
              · cases hq : reach (ancTbl ops.toList []) m i with
                | false => exact .inl rfl
                | true => exact .inr ((hm m hmm).1 (anc m hq (fun e => hnM (e ▸ hmm))))
              · cases hq : reach (ancTbl ops.toList []) i m with
                | false => exact .inl rfl
                | true =>
                  right
                  have h1 := desc m hq
                  rcases Nat.lt_or_ge m k with h2 | h2
                  · rw [(hm m hmm).2 h2] at h1; cases h1
                  · exact h2
            have h3 := List.all_eq_true.1 hal0.2 i (by simpa using hilt)
            simp only [ho, hld, Bool.not_true, Bool.false_or] at h3
            have h4 := List.all_eq_true.1 h3 k hkM
            simp only [hal, Bool.not_true, Bool.false_or, Bool.or_eq_true] at h4
            rcases h4 with h4 | h4
            · refine ⟨side, (stepV_congr hds hlook (fun _ => ?_) (fun h => by rw [hnm] at h; cases h)).trans hV, hs⟩
              have h5 : ∀ m ∈ M, (m < i ↔ m < k) := fun m hmm => by
                have := List.all_eq_true.1 h4 m hmm
                simpa [beq_iff_eq] using this
              rw [ht]
              rcases Nat.le_total k i with h | h
              · exact (hsame i k h (by omega) (fun m hmm ⟨a, b⟩ => by have := (h5 m hmm).1 b; omega)).1.symm
              · exact (hsame k i h hk (fun m hmm ⟨a, b⟩ => by have := (h5 m hmm).2 b; omega)).1
            have h1 := hagain _ (hAF hld) _ hkF h4
            simp only [againF] at h1
            split at h1
            · rename_i c' v' side' hst
              obtain ⟨rfl, rfl, hs'⟩ := h1
              refine ⟨side', ?_, hs'⟩
              rw [← hst]
              exact stepV_congr (σ := { S i with tab := (S k).tab, nx := (S k).nx }) hds hlook (fun _ => ht) (fun h => by rw [hnm] at h; cases h)
            · exact h1.elim
        obtain ⟨side', hV', hs'⟩ := hV'
        exact WPO_pure hds ho hd' hV' hs' C j a w _ hr (fun j' a' w' hr' => hnext _ j' a' w' hr' rfl rfl (by rw [hu]; rfl) (quiet hnM))
      · -- a call on data
        have hnm := stepV_notMem hV (fun _ _ _ _ h => by cases h)
        have hV' := (stepV_congr (σ := S i) (σ' := σ) (P := P) hds hlook (fun h => by rw [stepV_call hV] at h; cases h) (fun h => by rw [hnm] at h; cases h)).trans hV
        have hfv' : c = true → CallQ P WG g vs σ.tab σ.nx r := fun hcc => by
          rcases hfv with hfv | ⟨hM, hfv⟩
          · exact hfv hcc σ.tab σ.nx
          · have hno : ∀ m ∈ M, ¬ (m < i ∧ ¬ m < i) := fun m hmm => by rw [hM] at hmm; cases hmm
            have hk0 : k = 0 := by rw [hM] at hkM; simpa using hkM
            obtain ⟨s1, s2⟩ := hsame i 0 (Nat.zero_le _) (by omega) (fun m hmm => by rw [hM] at hmm; cases hmm)
            rw [ht, hx, hk0, ← s1, ← s2]; exact hfv hcc
        exact WPO_call hds ho hd' hV' hs hfv' (fun _ => ⟨rfl, rfl⟩) C j a w _ hr (fun j' a' w' hr' => hnext _ j' a' w' hr' rfl rfl (by rw [hu]; rfl) (quiet hnM))
      · -- memory
        have hki : k ≤ i := by
          rcases Nat.lt_or_ge i k with h | h
          · have := (hm i hinM).2 h; rw [hun'] at this; cases this
          · exact h
        obtain ⟨s1, s2⟩ := hsame i k hki (by omega) (fun m hmm ⟨h1, h2⟩ => by
          have h3 := anc m (hc.mem m hmm i hinM h2) (by omega)
          have := (hm m hmm).1 h3; omega)
        have ht' : σ.tab = (S i).tab := ht.trans s1.symm
        have hx' : σ.nx = (S i).nx := hx.trans s2.symm
        have hk' : ∃ k, k ≤ ops.size ∧ k ∈ 0 :: M.map (· + 1) ∧ (k, (S k).tab, (S k).nx) ∈ MF ∧ (S (i + 1)).tab = (S k).tab ∧ (S (i + 1)).nx = (S k).nx ∧ ∀ m ∈ M, ((listed.setIfInBounds i true).getD m false = true ↔ m < k) := by
          refine ⟨i + 1, hilt, List.mem_cons_of_mem _ (List.mem_map.2 ⟨i, hinM, rfl⟩), hMF, rfl, rfl, fun m hmm => ?_⟩
          rw [hset]
          constructor
          · rintro (h | rfl)
            · rcases Nat.lt_trichotomy m i with h1 | h1 | h1
              · omega
              · omega
              · have := desc m (hc.mem i hinM m hmm h1); rw [h] at this; cases this
            · omega
          · intro h
            rcases Nat.lt_or_ge m i with h1 | h1
            · exact .inl (anc m (hc.mem m hmm i hinM h1) (by omega))
            · right; omega
        rcases hcase with ⟨v, side, hV, hs, hn, hu⟩ | ⟨side, g, vs, v, hV, hs, hcall, hu⟩
        · have hV' := (stepV_congr (σ := S i) (σ' := σ) (P := P) hds hlook (fun _ => ht') (fun _ => ⟨ht', hx'⟩)).trans hV
          exact WPO_mem hds ho hd' hV' hs hn C j a w _ hr (fun j' a' w' hr' => hnext _ j' a' w' hr' rfl rfl (by rw [hu]; rfl) hk')
        · have hV' := (stepV_congr (σ := S i) (σ' := σ) (P := P) hds hlook (fun _ => ht') (fun _ => ⟨ht', hx'⟩)).trans hV
          refine WPO_call hds ho hd' hV' hs (fun _ => ?_) (fun h => by cases h) C j a w _ hr (fun j' a' w' hr' => hnext _ j' a' w' hr' rfl rfl (by rw [hu]; rfl) hk')
          rw [ht', hx']; exact hcall
      · -- a row of data
        have hV' := (freshG_congr (P := P) (o := o) (σ := S i) (σ' := σ) (fun t ht => hlook t (mem_looks ht))).trans hV
        rcases freshG_sound hV' hs with ⟨hgn, hop'⟩ | ⟨h1, g, v', hgn, rfl, hop'⟩
        · have huv : uV o true v = v := by unfold uV; rw [hgn]
          refine WPO_just hds ho (c := true) (v := v) (by rw [hgn]; rfl) hd' (fun _ => hop') C j a w _ hr (fun j' a' w' hr' => hnext _ j' a' w' hr' rfl rfl (by rw [hu, huv]; rfl) (quiet hnM))
        · have huv : uV o true v' = .cnd true v' := by unfold uV; rw [hgn]
          have hgd : guardC ds σ o.guard = some true := (guardC_congr hds (fun n b t e1 e2 => hlook t (List.mem_append_right _ (by rw [e1]; simp [e2])))).trans (hsd h1)
          refine WPO_just hds ho (c := true) (v := v') hgd hd' (fun _ => hop') C j a w _ hr (fun j' a' w' hr' => hnext _ j' a' w' hr' rfl rfl (by rw [hu, huv]; rfl) (quiet hnM))

def finD (P : Program) (WG : World) (e isM : Bool) (q : Nat) (ds : Met) (o : Oper) (σ : St) (r : Option SV) (mems : List MemAt) (again : List Again) (K : St → List MemAt → List Again → Prop) : Prop :=
  match r with
  | none => False
  | some (.pure c v side) => isM = false ∧ side ∧ dstOk σ o.dst ∧ K (stP σ o (uV o c v) σ.tab σ.nx) mems (if isLoad o.op then (q, ds, o, σ, c, v) :: again else again)
  | some (.call c side g vs) => side ∧ dstOk σ o.dst ∧
      if isM then c = true ∧ ∃ v tab nx, CallT P WG g vs σ.tab σ.nx (fun r t n => r = v ∧ t = tab ∧ n = nx) noP ∧ K (stP σ o (uV o true v) tab nx) ((q + 1, tab, nx) :: mems) again
      else if e then ∃ r, (c = true → CallQ P WG g vs σ.tab σ.nx r) ∧ K (stP σ o (uV o c r) σ.tab σ.nx) mems again
      else ∃ r, (c = true → FVv P WG g vs r) ∧ K (stP σ o (uV o c r) σ.tab σ.nx) mems again
  | some (.mem v tab nx side) =>
      if isM then side ∧ dstOk σ o.dst ∧ (v = none → o.dst = none) ∧ K (stP σ o (v.getD .zc) tab nx) ((q + 1, tab, nx) :: mems) again
      else match freshG P o σ side with
        | some (v, side) => side ∧ dstOk σ o.dst ∧ K (stP σ o v σ.tab σ.nx) mems again
        | none => False

def againM (P : Program) (al : List (Nat × Nat)) (x : Again) : List MemAt → Prop
  | [] => True
  | y :: l => (inP al x.1 y.1 = true → againF P x y) ∧ againM P al x l
def againAll (P : Program) (al : List (Nat × Nat)) (mems : List MemAt) : List Again → Prop
  | [] => True
  | x :: l => againM P al x mems ∧ againAll P al mems l

def wpD (P : Program) (WG : World) (e : Bool) (M : List Nat) (al : List (Nat × Nat)) (Q : VX → St → Prop) : Nat → Met → List Oper → St → List MemAt → List Again → Prop
  | _, _, [], σ, mems, again => againAll P al mems again ∧ Q .normal σ
  | q, ds, o :: l, σ, mems, again => finD P WG e (inM M q) q ds o σ (stepV P ds o σ) mems again (wpD P WG e M al Q (q + 1) ((q, o.dst) :: ds) l)

theorem againAll_spec {al : List (Nat × Nat)} {mems : List MemAt} : ∀ {again : List Again}, againAll P al mems again → ∀ x ∈ again, ∀ y ∈ mems, inP al x.1 y.1 = true → againF P x y
  | [], _, x, hx, _, _ => by cases hx
  | x :: l, h, x', hx', y, hy => by
    rcases List.mem_cons.1 hx' with rfl | hx'
    · have : ∀ (mems : List MemAt), againM P al x' mems → y ∈ mems → inP al x'.1 y.1 = true → againF P x' y := by
        intro mems
        induction mems with
        | nil => intro _ h; cases h
        | cons z r ih =>
          intro h1 h2
          rcases List.mem_cons.1 h2 with rfl | h2
          · exact h1.1
          · exact ih h1.2 h2
      exact this mems h.1 hy
    · exact againAll_spec h.2 x' hx' y hy

theorem wpD_ext {e : Bool} {M : List Nat} {al : List (Nat × Nat)} (hE : e = true → M = []) : ∀ (l : List Oper) (q : Nat) (ds : Met) (σ : St) (mems : List MemAt) (again : List Again), MetOk ops ds → (∀ k, ops[q + k]? = l[k]?) → wpD P WG e M al Q q ds l σ mems again →
    ∃ (S : Nat → St) (u : Nat → V) (AF : List Again) (MF : List MemAt), S q = σ ∧ (∀ x ∈ again, x ∈ AF) ∧ (∀ y ∈ mems, y ∈ MF) ∧ (∀ (i : Nat) o, q ≤ i → ops[i]? = some o → PStep P WG ops M AF MF i o (S i) (S (i + 1)) (u i)) ∧
      (∀ x ∈ AF, ∀ y ∈ MF, inP al x.1 y.1 = true → againF P x y) ∧ Q .normal (S (q + l.length))
  | [], q, ds, σ, mems, again, _, hl, h => by
    refine ⟨fun _ => σ, fun _ => .zc, again, mems, rfl, fun _ h => h, fun _ h => h, fun i o hi ho => ?_, againAll_spec h.1, h.2⟩
    have := hl (i - q)
    rw [show q + (i - q) = i by omega, ho] at this
    simp at this
  | o :: l, q, ds, σ, mems, again, hds, hl, h => by
    have ho : ops[q]? = some o := by simpa using hl 0
    have hds' : MetOk ops ((q, o.dst) :: ds) := fun g d hg => by
      simp only [aget] at hg
      split at hg
      · rename_i e; subst e; cases hg; simp [ho]
      · exact hds g d hg
    have hl' : ∀ k, ops[q + 1 + k]? = l[k]? := fun k => by
      have := hl (k + 1)
      rw [List.getElem?_cons_succ] at this
      rw [← this]; congr 1; omega
    have build : ∀ (σ1 : St) (mems1 : List MemAt) (again1 : List Again) (u0 : V), wpD P WG e M al Q (q + 1) ((q, o.dst) :: ds) l σ1 mems1 again1 → (∀ x ∈ again, x ∈ again1) → (∀ y ∈ mems, y ∈ mems1) →
        (∀ AF MF, (∀ x ∈ again1, x ∈ AF) → (∀ y ∈ mems1, y ∈ MF) → PStep P WG ops M AF MF q o σ σ1 u0) →
        ∃ (S : Nat → St) (u : Nat → V) (AF : List Again) (MF : List MemAt), S q = σ ∧ (∀ x ∈ again, x ∈ AF) ∧ (∀ y ∈ mems, y ∈ MF) ∧ (∀ (i : Nat) o, q ≤ i → ops[i]? = some o → PStep P WG ops M AF MF i o (S i) (S (i + 1)) (u i)) ∧
          (∀ x ∈ AF, ∀ y ∈ MF, inP al x.1 y.1 = true → againF P x y) ∧ Q .normal (S (q + (o :: l).length)) := by
      intro σ1 mems1 again1 u0 h1 ha hm hp
      obtain ⟨S, u, AF, MF, hS, hA, hMm, hst, hag, hQ⟩ := wpD_ext hE l (q + 1) _ σ1 mems1 again1 hds' hl' h1
      refine ⟨fun i => if i ≤ q then σ else S i, fun i => if i = q then u0 else u i, AF, MF, by simp, fun x hx => hA x (ha x hx), fun y hy => hMm y (hm y hy), fun i p hi hp' => ?_, hag, ?_⟩
      · by_cases e : i = q
        · subst e
          rw [ho] at hp'; cases hp'
          simp only [Nat.le_refl, if_true]
          rw [if_neg (by omega), hS]
          exact hp AF MF hA hMm
        · have e1 : ¬ i ≤ q := by omega
          have e2 : ¬ i + 1 ≤ q := by omega
          simp only [e1, e2, e, if_false]
          exact hst i p (by omega) hp'
      · simp only [List.length_cons]
        rw [if_neg (by omega), show q + (l.length + 1) = q + 1 + l.length by omega]
        exact hQ
    simp only [wpD] at h
    cases hV : stepV P ds o σ with
    | none => rw [hV] at h; exact h.elim
    | some sv =>
      rw [hV] at h
      cases sv with
      | pure c v side =>
        obtain ⟨h1, h2, h3, h4⟩ := h
        refine build _ _ _ (uV o c v) h4 (fun x hx => ?_) (fun y hy => hy) (fun AF MF hA hMm => ⟨h3, ds, hds, .inl ⟨inM_false h1, rfl, c, v, side, hV, h2, rfl, fun hld => hA _ ?_⟩⟩)
        · split
          · exact List.mem_cons_of_mem _ hx
          · exact hx
        · rw [if_pos hld]; exact List.mem_cons_self
      | call c side g vs =>
        obtain ⟨h2, h3, h4⟩ := h
        cases hb : inM M q with
        | true =>
          rw [hb] at h4
          simp only [if_true] at h4
          obtain ⟨rfl, v, tab, nx, hcall, h5⟩ := h4
          exact build _ _ _ (uV o true v) h5 (fun x hx => hx) (fun y hy => List.mem_cons_of_mem _ hy) (fun AF MF hA hMm => ⟨h3, ds, hds, .inr (.inr (.inl ⟨inM_true hb, hMm _ List.mem_cons_self, rfl, .inr ⟨side, g, vs, v, hV, h2, hcall, rfl⟩⟩))⟩)
        | false =>
          rw [hb] at h4
          simp only [Bool.false_eq_true, if_false] at h4
          cases he : e with
          | true =>
            rw [he] at h4
            simp only [if_true] at h4
            obtain ⟨r, hfv, h5⟩ := h4
            exact build _ _ _ (uV o c r) (by rw [he]; exact h5) (fun x hx => hx) (fun y hy => hy) (fun AF MF hA hMm => ⟨h3, ds, hds, .inr (.inl ⟨inM_false hb, rfl, c, side, g, vs, r, hV, h2, .inr ⟨hE he, hfv⟩, rfl⟩)⟩)
          | false =>
            rw [he] at h4
            simp only [Bool.false_eq_true, if_false] at h4
            obtain ⟨r, hfv, h5⟩ := h4
            exact build _ _ _ (uV o c r) (by rw [he]; exact h5) (fun x hx => hx) (fun y hy => hy) (fun AF MF hA hMm => ⟨h3, ds, hds, .inr (.inl ⟨inM_false hb, rfl, c, side, g, vs, r, hV, h2, .inl hfv, rfl⟩)⟩)
      | mem v tab nx side =>
        simp only [finD] at h
        cases h1 : inM M q with
        | true =>
          rw [h1] at h
          simp only [if_true] at h
          obtain ⟨h2, h3, h4, h5⟩ := h
          exact build _ _ _ (v.getD .zc) h5 (fun x hx => hx) (fun y hy => List.mem_cons_of_mem _ hy) (fun AF MF hA hMm => ⟨h3, ds, hds, .inr (.inr (.inl ⟨inM_true h1, hMm _ List.mem_cons_self, rfl, .inl ⟨v, side, hV, h2, h4, rfl⟩⟩))⟩)
        | false =>
          rw [h1] at h
          simp only [Bool.false_eq_true, if_false] at h
          split at h
          · rename_i v' side' hF
            obtain ⟨h2, h3, h5⟩ := h
            exact build _ _ _ v' h5 (fun x hx => hx) (fun y hy => hy) (fun AF MF hA hMm => ⟨h3, ds, hds, .inr (.inr (.inr ⟨inM_false h1, rfl, side, v', side', stepV_guard hV, hF, h2, rfl⟩))⟩)
          · exact h.elim

theorem T_drawS {id : Nat} {σ : St} (M : List Nat) (al : List (Nat × Nat)) (hmix : P.follows .mixedOrders = true) (hchk : (drawOk ops M && alOk ops M al) = true)
    (h : wpD P WG false M al Q 0 [] ops.toList σ [(0, σ.tab, σ.nx)] []) : T P WG (.region id ops true) σ Q := by
  simp only [Bool.and_eq_true] at hchk
  obtain ⟨S, u, AF, MF, hS, _, hm, hst, hag, hQ⟩ := wpD_ext (ops := ops) (fun h => by cases h) ops.toList 0 [] σ _ _ (fun g d hg => by simp [aget] at hg) (fun k => by simp) h
  subst hS
  refine draw_main S u M AF MF (drawOk_spec hchk.1) al hchk.2 hmix (hm _ List.mem_cons_self) (fun q o ho => hst q o (Nat.zero_le _) ho) hag ?_
  simpa using hQ

theorem wpD_nil {e : Bool} {M : List Nat} {al : List (Nat × Nat)} (q : Nat) (ds : Met) (σ : St) (mems : List MemAt) (again : List Again) : wpD P WG e M al Q q ds [] σ mems again = (againAll P al mems again ∧ Q .normal σ) := rfl
theorem wpD_cons {e : Bool} {M : List Nat} {al : List (Nat × Nat)} (q : Nat) (ds : Met) (o : Oper) (l : List Oper) (σ : St) (mems : List MemAt) (again : List Again) :
    wpD P WG e M al Q q ds (o :: l) σ mems again = finD P WG e (inM M q) q ds o σ (stepV P ds o σ) mems again (wpD P WG e M al Q (q + 1) ((q, o.dst) :: ds) l) := rfl
theorem finD_pure {e : Bool} {isM : Bool} {q : Nat} {ds : Met} {o : Oper} {σ : St} {mems : List MemAt} {again : List Again} {K : St → List MemAt → List Again → Prop} {c : Bool} {v : V} {side : Prop} :
    finD P WG e isM q ds o σ (some (.pure c v side)) mems again K = (isM = false ∧ side ∧ dstOk σ o.dst ∧ K (stP σ o (uV o c v) σ.tab σ.nx) mems (if isLoad o.op then (q, ds, o, σ, c, v) :: again else again)) := rfl
theorem finD_call {q : Nat} {ds : Met} {o : Oper} {σ : St} {mems : List MemAt} {again : List Again} {K : St → List MemAt → List Again → Prop} {c : Bool} {side : Prop} {g : FuncId} {vs : List V} :
    finD P WG false false q ds o σ (some (.call c side g vs)) mems again K = (side ∧ dstOk σ o.dst ∧ ∃ r, (c = true → FVv P WG g vs r) ∧ K (stP σ o (uV o c r) σ.tab σ.nx) mems again) := rfl
theorem finD_callE {q : Nat} {ds : Met} {o : Oper} {σ : St} {mems : List MemAt} {again : List Again} {K : St → List MemAt → List Again → Prop} {c : Bool} {side : Prop} {g : FuncId} {vs : List V} :
    finD P WG true false q ds o σ (some (.call c side g vs)) mems again K = (side ∧ dstOk σ o.dst ∧ ∃ r, (c = true → CallQ P WG g vs σ.tab σ.nx r) ∧ K (stP σ o (uV o c r) σ.tab σ.nx) mems again) := rfl
theorem finD_callM {e : Bool} {q : Nat} {ds : Met} {o : Oper} {σ : St} {mems : List MemAt} {again : List Again} {K : St → List MemAt → List Again → Prop} {c : Bool} {side : Prop} {g : FuncId} {vs : List V} :
    finD P WG e true q ds o σ (some (.call c side g vs)) mems again K = (side ∧ dstOk σ o.dst ∧ c = true ∧ ∃ v tab nx, CallT P WG g vs σ.tab σ.nx (fun r t n => r = v ∧ t = tab ∧ n = nx) noP ∧ K (stP σ o (uV o true v) tab nx) ((q + 1, tab, nx) :: mems) again) := rfl
theorem finD_mem {e : Bool} {q : Nat} {ds : Met} {o : Oper} {σ : St} {mems : List MemAt} {again : List Again} {K : St → List MemAt → List Again → Prop} {v : Option V} {tab : Tab} {nx : Nat} {side : Prop} :
    finD P WG e true q ds o σ (some (.mem v tab nx side)) mems again K = (side ∧ dstOk σ o.dst ∧ (v = none → o.dst = none) ∧ K (stP σ o (v.getD .zc) tab nx) ((q + 1, tab, nx) :: mems) again) := rfl
theorem finD_memF {e : Bool} {q : Nat} {ds : Met} {o : Oper} {σ : St} {mems : List MemAt} {again : List Again} {K : St → List MemAt → List Again → Prop} {v : Option V} {tab : Tab} {nx : Nat} {side : Prop} :
    finD P WG e false q ds o σ (some (.mem v tab nx side)) mems again K = (match freshG P o σ side with | some (v, side) => side ∧ dstOk σ o.dst ∧ K (stP σ o v σ.tab σ.nx) mems again | none => False) := rfl

end
end Go.Gp

namespace Go.Gp
open Go.RowKit
section
variable {P : Program} {WG : World}
theorem FV.of_calls {f : FuncId} {ps : List PV} {r : V} (hp : pureR r = true)
    (h : ∀ (w : World) (ok : Nat → Prop) (ms : Array Value), Below WG.heap.size WG w → (∀ k, ok k → k < w.heap.size) → ms.size = ps.length → (∀ (i : Nat) x, ps[i]? = some x → PR w ok x (ms.getD i undef)) →
      Calls P f ms w fun e w' => ∃ m, e = .returned m ∧ Below w.heap.size w w' ∧ ∀ ok' : Nat → Prop, (∀ k, ok k → ok' k) → (∀ k, w.heap.size ≤ k → k < w'.heap.size → ok' k) → VR w' ok' (fun _ => none) 0 r m) : FV P WG f ps r := by
  intro tab nx C j w ms h1 h2 h3 h4 hm hvs
  refine (h w (okc C (Own j tab) w) ms hm.glob (fun k hk => hk.1) (by rw [hvs.1]; simp) (fun i x hx => ?_)).mono fun e w' ⟨m, he, hb, hr⟩ => ?_
  · have := hvs.2 i (.p x) (by simp [hx])
    cases this with
    | p hp => exact hp
  · subst he
    obtain ⟨a, b, c⟩ := hm.below hb
    exact ⟨j, tab, nx, r, a, VR.pure (fun k hk => ⟨hk, rfl⟩) hp (hr _ (fun k hk => (b k hk).1) c), rfl, rfl, rfl⟩

theorem args_one {w : World} {ok : Nat → Prop} {x : Value} {ms : Array Value} (h1 : ms.size = 1) (h : ∀ (i : Nat) y, ([PV.v x])[i]? = some y → PR w ok y (ms.getD i undef)) : ms = #[x] := by
  have h0 := h 0 _ rfl
  obtain ⟨m⟩ := ms
  match m, h1 with
  | [a], _ =>
    have : PR w ok (.v x) a := by simpa using h0
    cases this; rfl
theorem args_two {w : World} {ok : Nat → Prop} {x y : PV} {ms : Array Value} (h1 : ms.size = 2) (h : ∀ (i : Nat) z, [x, y][i]? = some z → PR w ok z (ms.getD i undef)) : ∃ a b, ms = #[a, b] ∧ PR w ok x a ∧ PR w ok y b := by
  have h0 := h 0 _ rfl
  have h2 := h 1 _ rfl
  obtain ⟨m⟩ := ms
  match m, h1 with
  | [a, b], _ => exact ⟨a, b, rfl, by simpa using h0, by simpa using h2⟩
theorem PR.flat {w : World} {ok : Nat → Prop} {x m : Value} (h : PR w ok (.v x) m) : m = x := by cases h; rfl

end
end Go.Gp

namespace Go.Gp
open Go.RowKit
section
variable {P : Program} {WG : World}
theorem snap1_one {tab : Tab} {v : V} {y : PV} (h : Gp.snap1 tab v = some y) (h1 : v.one = true) : y.one = true := by
  cases v with
  | p x => simp only [Gp.snap1] at h; cases h; exact h1
  | zc => simp only [Gp.snap1] at h; cases h; rfl
  | osl b s lo len cap =>
    simp only [Gp.snap1] at h
    split at h
    · split at h
      · cases h; rfl
      · cases h
    · cases h
  | ref b o =>
    simp only [Gp.snap1] at h
    split at h
    · split at h
      · cases h; rfl
      · cases h
    · cases h
  | _ => simp [Gp.snap1] at h
theorem snapL_get {tab : Tab} : ∀ {cs : List V} {l : List PV}, snapL tab cs = some l → l.length = cs.length ∧ ∀ (i : Nat) y, l[i]? = some y → ∃ c, cs[i]? = some c ∧ Gp.snap1 tab c = some y
  | [], l, h => by simp [snapL] at h; subst h; simp
  | c :: r, l, h => by
    simp only [snapL] at h
    split at h
    · rename_i y l' hy hl
      cases h
      obtain ⟨h1, h2⟩ := snapL_get hl
      refine ⟨by simp [h1], fun i z hz => ?_⟩
      rcases i with _ | i
      · simp at hz; subst hz; exact ⟨c, rfl, hy⟩
      · simpa using h2 i z (by simpa using hz)
    · cases h
theorem snapT_get {tab : Tab} : ∀ {cs : List V} {l : List V}, snapT tab cs = some l → l.length = cs.length ∧ ∀ (i : Nat) y, l[i]? = some y → ∃ c, cs[i]? = some c ∧ Gp.snap tab c = some y
  | [], l, h => by simp [snapT] at h; subst h; simp
  | c :: r, l, h => by
    simp only [snapT] at h
    split at h
    · rename_i y l' hy hl
      cases h
      obtain ⟨h1, h2⟩ := snapT_get hl
      refine ⟨by simp [h1], fun i z hz => ?_⟩
      rcases i with _ | i
      · simp at hz; subst hz; exact ⟨c, rfl, hy⟩
      · simpa using h2 i z (by simpa using hz)
    · cases h

theorem VR.snap {C : Ctx} {j : Nat → Option Loc} {tab : Tab} {nx : Nat} {w : World} {ok : Nat → Prop} (hm : MemR WG C j tab nx w) (hok : ∀ k, okc C (Own j tab) w k → ok k) (hown : ∀ k, Own j tab k → ok k) {v y : V} {m : Value}
    (hv : VR w (okc C (Own j tab) w) j nx v m) (h : Gp.snap tab v = some y) {j' : Nat → Option Loc} {nx' : Nat} : VR w ok j' nx' y m := by
  have one : ∀ {v y}, VR w (okc C (Own j tab) w) j nx v m → (match Gp.snap1 tab v with | some y => some (V.p y) | none => none) = some y → VR w ok j' nx' y m := by
    intro v y hv h
    split at h
    · rename_i z hz; cases h; exact .p (hv.snap1 hm hok hown hz)
    · cases h
  cases v with
  | agg cs =>
    simp only [Gp.snap] at h
    split at h
    · rename_i l hl
      cases h
      obtain ⟨h1, h2⟩ := snapL_get hl
      cases hv with
      | agg hlen hone hrel =>
        refine .p (.agg (hlen.trans h1.symm) (fun i c hi => ?_) (fun i c hi => ?_))
        · obtain ⟨d, hd, hs⟩ := h2 i c hi; exact snap1_one hs (hone i d hd)
        · obtain ⟨d, hd, hs⟩ := h2 i c hi; exact (hrel i d hd).snap1 hm hok hown hs
    · cases h
  | ifc t x =>
    simp only [Gp.snap] at h
    split at h
    · rename_i z hz
      cases h
      cases hv with
      | ifc hx => exact .p (.ifc (hx.snap1 hm hok hown hz))
    · cases h
  | clo fn fs cs =>
    simp only [Gp.snap] at h
    split at h
    · rename_i a b ha hb
      cases h
      obtain ⟨a1, a2⟩ := snapL_get ha
      obtain ⟨b1, b2⟩ := snapL_get hb
      cases hv with
      | clo h1 h2 hf hc =>
        refine .p (.clo (h1.trans a1.symm) (h2.trans b1.symm) (fun i c hi => ?_) (fun i c hi => ?_))
        · obtain ⟨d, hd, hs⟩ := a2 i c hi; exact (hf i d hd).snap1 hm hok hown hs
        · obtain ⟨d, hd, hs⟩ := b2 i c hi; exact (hc i d hd).snap1 hm hok hown hs
    · cases h
  | _ => exact one hv h

theorem VR.snapR {C : Ctx} {j : Nat → Option Loc} {tab : Tab} {nx : Nat} {w : World} {ok : Nat → Prop} (hm : MemR WG C j tab nx w) (hok : ∀ k, okc C (Own j tab) w k → ok k) (hown : ∀ k, Own j tab k → ok k) {v y : V} {m : Value}
    (hv : VR w (okc C (Own j tab) w) j nx v m) (h : Gp.snapR tab v = some y) {j' : Nat → Option Loc} {nx' : Nat} : VR w ok j' nx' y m := by
  cases v with
  | tup vs =>
    simp only [Gp.snapR] at h
    split at h
    · rename_i l hl
      cases h
      obtain ⟨h1, h2⟩ := snapT_get hl
      cases hv with
      | tup hlen hrel =>
        refine .tup (hlen.trans h1.symm) (fun i c hi => ?_)
        obtain ⟨d, hd, hs⟩ := h2 i c hi; exact (hrel i d hd).snap hm hok hown hs
    · cases h
  | _ => exact hv.snap hm hok hown h

theorem CallT.pureS {f : FuncId} {ps : List PV} {r : V} (hp : pureR r = true) (h : CallT P WG f (ps.map .p) [] 0 (fun r' t _ => Gp.snapR t r' = some r) noP) : FV P WG f ps r := by
  intro tab nx
  have h0 : CallT P WG f (ps.map .p) [] 0 (fun r' t n => r' = r ∧ t = [] ∧ n = 0) noP := by
    intro C j w ms h1 h2 h3 h4 hm hvs
    refine (h C j w ms h1 h2 h3 h4 hm hvs).mono fun e w' he => ?_
    cases e with
    | panicked ch => obtain ⟨_, _, _, _, _, _, _, _, d⟩ := he; exact d.elim
    | outgrown => exact he.elim
    | returned m =>
      obtain ⟨j', t, n, r', a, b, hs⟩ := he
      have hno : ∀ (j : Nat → Option Loc) k, ¬ Own j ([] : Tab) k := fun j k ⟨b, x, l, hb, _⟩ => by simp [aget] at hb
      have hok : ∀ k, okc C (Own j' t) w' k → okc C (Own j' []) w' k := fun k hk => ⟨hk.1, hno j' k, hk.2.2⟩
      have hown : ∀ k, Own j' t k → okc C (Own j' []) w' k := fun k hk => by
        refine ⟨a.own_lt hk, hno j' k, .inr ?_⟩
        rcases a.own k hk with h5 | h5
        · rw [h3] at h5; exact (hno j k h5).elim
        · exact .inr h5
      refine ⟨j', [], 0, _, ?_, b.snapR a hok hown hs, rfl, rfl, rfl⟩
      exact {
          nb := by rw [h1]; exact Nat.le_refl _
          low := fun b x hb => by simp [aget] at hb
          blk := fun b x hb => by simp [aget] at hb
          apart := fun b b' x x' l l' hb => by simp [aget] at hb
          agree := fun b hb => by rw [h1] at hb; exact absurd hb (Nat.not_lt_zero _)
          own := fun k hk => (hno j' k hk).elim
          ownG := fun k hk => (hno j' k hk).elim
          size := a.size
          keep := a.keep
          os := a.os
          tape := a.tape
          output := a.output
          glob := a.glob
          rd := a.rd }
  refine h0.frame (fun r' t n hq => ?_) (fun r' t n hq => hq)
  obtain ⟨rfl, rfl, rfl⟩ := hq
  exact ⟨V.sh_pure hp, by simp [tsh], rfl⟩

end
end Go.Gp

namespace Go.Gp
open Go.RowKit
section
variable {P : Program} {WG : World} {σ : St} {Q : VX → St → Prop}
theorem T_seqC {a b : Code} (h : wpC P WG a (thenQ (fun σ' => T P WG b σ' Q) Q) σ) : T P WG (.seq a b) σ Q := T_seq (wpC_sound _ _ _ h)
theorem T_fin {a : Code} (h : wpC P WG a Q σ) : T P WG a σ Q := wpC_sound _ _ _ h

def cutK {ι : Type} (S : ι → St) (I : ι → Prop) : St → Prop := fun σ' => ∃ i, I i ∧ Le σ' (S i)
theorem cutK_eq {ι : Type} (S : ι → St) (I : ι → Prop) (σ' : St) : cutK S I σ' = ∃ i, I i ∧ Le σ' (S i) := rfl
def cut1 (S : St) : St → Prop := fun σ' => Le σ' S
theorem cut1_eq (S : St) (σ' : St) : cut1 S σ' = Le σ' S := rfl

theorem T_cut1 (S : St) {a b : Code} (h1 : wpC P WG a (thenQ (cut1 S) Q) σ) (h2 : T P WG b S Q) : T P WG (.seq a b) σ Q :=
  T_seq ((wpC_sound _ _ _ h1).mono fun x σ' hq => by
    cases x with
    | normal => exact T_weak (Le.weak hq) h2
    | _ => exact hq)

theorem CallT_fnT {f : FuncId} {fn : Func} {c : Code} {vs : List V} {tab : Tab} {nx n : Nat} {rs : List ResultVar} {K KP : V → Tab → Nat → Prop} (hf : P.funcs[f]? = some fn) (hres : fn.results.toList = rs) (hnt : fn.ntmps = n) (hn : vs.length ≤ n) (hb : fn.body = some c)
    (h : T P WG c (enter' n vs tab nx) (bodyQ' P rs K KP)) : CallT P WG f vs tab nx K KP := by
  subst hres hnt
  refine CallT_body hf hb hn (h.mono fun x σ hq => ?_)
  have key : resK P fn.results.toList K σ → ∃ r, resV P σ fn.results.toList = some r ∧ K r σ.tab σ.nx := fun h => by
    unfold resK at h
    split at h
    · rename_i r hr; exact ⟨r, hr, h⟩
    · exact h.elim
  cases x with
  | normal => exact key hq
  | ret => exact key hq
  | panic v => exact hq
  | exit => exact hq
  | goto => exact hq

def frz1 (tab : Tab) (b : Nat) : V → V
  | .osl b' s lo len cap =>
    if b' = b then
      match aget tab b with
      | some (.arr s' xs _) => if s' = s ∧ lo + len ≤ xs.length then .p (.sl s ((xs.drop lo).take len)) else .osl b' s lo len cap
      | _ => .osl b' s lo len cap
    else .osl b' s lo len cap
  | x => x
def frzE (tab : Tab) (b : Nat) : List (Nat × V) → List (Nat × V)
  | [] => []
  | (t, v) :: r => (t, frz1 tab b v) :: frzE tab b r
def frzL (tab : Tab) (b : Nat) : List V → List V
  | [] => []
  | v :: r => frz1 tab b v :: frzL tab b r
def frzB (tab : Tab) (b : Nat) : Blk → Blk
  | .box cs => .box (frzL tab b cs)
  | .lp s c env => .lp s c (frzE tab b env)
  | x => x
def frzT (tab : Tab) (b : Nat) : Tab → Tab
  | [] => []
  | (k, x) :: r => if k = b then frzT tab b r else (k, frzB tab b x) :: frzT tab b r
def frzS (σ : St) (b : Nat) : St := { σ with env := frzE σ.tab b σ.env, tab := frzT σ.tab b σ.tab }

theorem aget_frzE (tab : Tab) (b t : Nat) : ∀ e : List (Nat × V), aget (frzE tab b e) t = (aget e t).map (frz1 tab b)
  | [] => rfl
  | (k, v) :: r => by
    simp only [frzE, aget]
    split
    · rfl
    · exact aget_frzE tab b t r
theorem frzL_get (tab : Tab) (b : Nat) : ∀ (l : List V) (i : Nat), (frzL tab b l)[i]? = (l[i]?).map (frz1 tab b)
  | [], i => by simp [frzL]
  | v :: r, 0 => by simp [frzL]
  | v :: r, i + 1 => by simp [frzL, frzL_get tab b r i]
theorem frzL_length (tab : Tab) (b : Nat) : ∀ l : List V, (frzL tab b l).length = l.length
  | [] => rfl
  | v :: r => by simp [frzL, frzL_length tab b r]
theorem aget_frzT (tab : Tab) (b c : Nat) : ∀ t : Tab, aget (frzT tab b t) c = if c = b then none else (aget t c).map (frzB tab b)
  | [] => by simp [frzT, aget]
  | (k, x) :: r => by
    simp only [frzT]
    split
    · rename_i h; subst h
      rw [aget_frzT]
      by_cases e : c = k
      · rw [if_pos e, if_pos e]
      · rw [if_neg e, if_neg e]; simp only [aget]; rw [if_neg (fun h => e h.symm)]
    · rename_i h
      simp only [aget]
      split
      · rename_i e; subst e; rw [if_neg h]; rfl
      · exact aget_frzT tab b c r
theorem frz1_one (tab : Tab) (b : Nat) (v : V) : v.one = true → (frz1 tab b v).one = true := by
  intro h
  cases v with
  | osl b' s lo len cap =>
    simp only [frz1]
    split
    · split
      · split <;> rfl
      · rfl
    · rfl
  | _ => exact h

theorem Weak.freeze (b : Nat) : Weak WG σ (frzS σ b) := by
  intro C j a w hr
  have hm := hr.mem
  obtain ⟨hd, hk⟩ := hm.del b
  have hget : ∀ c y, aget (frzT σ.tab b σ.tab) c = some y → c ≠ b ∧ ∃ x, aget σ.tab c = some x ∧ y = frzB σ.tab b x := fun c y hc => by
    rw [aget_frzT] at hc
    by_cases e : c = b
    · simp [e] at hc
    · rw [if_neg e] at hc
      obtain ⟨x, hx, rfl⟩ := Option.map_eq_some_iff.1 hc
      exact ⟨e, x, hx, rfl⟩
  have hown : ∀ k, Own j (frzT σ.tab b σ.tab) k ↔ Own j (adel σ.tab b) k := by
    intro k
    constructor
    · rintro ⟨c, y, l, hc, hl, rfl⟩
      obtain ⟨hne, x, hx, _⟩ := hget c y hc
      exact ⟨c, x, l, by rw [aget_adel, if_neg hne]; exact hx, hl, rfl⟩
    · rintro ⟨c, y, l, hc, hl, rfl⟩
      rw [aget_adel] at hc
      by_cases e : c = b
      · simp [e] at hc
      · rw [if_neg e] at hc
        exact ⟨c, _, l, by rw [aget_frzT, if_neg e, hc]; rfl, hl, rfl⟩
  have hownE : Own j (frzT σ.tab b σ.tab) = Own j (adel σ.tab b) := funext fun k => propext (hown k)
  have hok : ∀ k, okc C (Own j σ.tab) w k → okc C (Own j (frzT σ.tab b σ.tab)) w k := fun k h => by rw [hownE]; exact (hk k h).1

  have val : ∀ v m, VR w (okc C (Own j σ.tab) w) j σ.nx v m → VR w (okc C (Own j (frzT σ.tab b σ.tab)) w) j σ.nx (frz1 σ.tab b v) m := by
    intro v m hv
    have keep : VR w (okc C (Own j (frzT σ.tab b σ.tab)) w) j σ.nx v m := hv.mono (fun k h => ⟨hok k h, rfl⟩) (fun b h => ⟨rfl, h⟩)
    cases v with
    | osl b' s lo len cap =>
      simp only [frz1]
      split
      · rename_i e; subst e
        split
        · rename_i s' xs gr hb
          split
          · rename_i hc
            obtain ⟨rfl, hle⟩ := hc
            cases hv with
            | oslNil => simp only [List.take_zero]; exact .p .nil
            | oslEnd => simp only [List.take_zero]; exact .p .nil
            | @osl b s lo len cap l c q hbn hl hq hlen hcp hsm hn =>
              rcases hm.blk _ _ hb with ⟨hl', _⟩ | ⟨l', ms, e, fr, hl', hh, hfr, hs, hx, hg, h0, h1, hr'⟩
              · rw [hl] at hl'; cases hl'
              · obtain rfl : l' = l := by rw [hl] at hl'; exact (Option.some.inj hl').symm
                have hnew : okc C (Own j (frzT σ.tab b' σ.tab)) w l'.blk := by
                  refine ⟨(Array.getElem?_eq_some_iff.1 hh).1, fun hn => ?_, ?_⟩
                  · obtain ⟨c', y, l2, hc', hl2, he⟩ := hn
                    obtain ⟨hne, x, hx2, _⟩ := hget c' y hc'
                    exact hm.apart _ _ _ _ _ _ hx2 hb hne hl2 hl he
                  · exact .inr (hm.own _ ⟨b', _, l', hb, hl, rfl⟩)
                have hgt : ∀ (i : Nat) x, ((xs.drop lo).take len)[i]? = some x → xs[lo + i]? = some x ∧ i < len := fun i x hi => by
                  have h3 := (List.getElem?_eq_some_iff.1 hi).1
                  simp at h3
                  rw [List.getElem?_take] at hi
                  rw [if_pos (by omega), List.getElem?_drop] at hi
                  exact ⟨hi, by omega⟩
                have hcl : ∀ k, k < len * s' → q + k < ms.size := fun k hk => by
                  have : (lo + len) * s' ≤ l'.cap * s' := Nat.mul_le_mul_right _ (by omega)
                  rw [Nat.add_mul] at this
                  omega
                refine .p (.sl (fun k => ms.getD (q + k) undef) (by simp; omega) ⟨hnew, ms, e, fr, hh⟩ hlen (fun k hk => ?_) (fun i x hx' => h0 _ x (hgt i x hx').1) (fun i k x y hx' hy => h1 _ k x y (hgt i x hx').1 hy) (fun i k x y hx' hy => ?_))
                · rw [cell_row hh]
                  have := hcl k hk
                  simp [Array.getD, this]
                · have h5 := hr' _ k x y (hgt i x hx').1 hy
                  have e2 : l'.off + ((lo + i) * s' + k) = q + (i * s' + k) := by rw [Nat.add_mul]; omega
                  rw [e2] at h5
                  exact h5.mono (fun k hk => ⟨hok k hk, rfl⟩)
          · exact keep
        · exact keep
      · exact keep
    | _ => exact keep
  refine ⟨j, ⟨?_, hr.lo, hr.lx, fun t v ht => ?_, hr.n, hr.defers.mono (fun k hk => ⟨hok k hk, rfl⟩)⟩⟩
  · exact {
      nb := hm.nb
      low := fun c y hc => by obtain ⟨_, x, hx, _⟩ := hget c y hc; exact hm.low c x hx
      blk := fun c y hc => by
        obtain ⟨hne, x, hx, rfl⟩ := hget c y hc
        have hb := hm.blk c x hx
        cases x with
        | box cs =>
          obtain ⟨l, ms, e, fr, hl, hh, hfr, hs, h1, hrel⟩ := hb
          refine ⟨l, ms, e, fr, hl, hh, hfr, by rw [frzL_length]; exact hs, fun i c hi => ?_, fun i c hi => ?_⟩
          · rw [frzL_get] at hi
            obtain ⟨v, hv, rfl⟩ := Option.map_eq_some_iff.1 hi
            exact frz1_one _ _ _ (h1 i v hv)
          · rw [frzL_get] at hi
            obtain ⟨v, hv, rfl⟩ := Option.map_eq_some_iff.1 hi
            exact val v _ (hrel i v hv)
        | arr s xs gr => exact hb.mono (fun k h => ⟨hok k h, rfl⟩) (fun b h => ⟨rfl, h⟩) (hm.low c _ hx) (fun _ _ => rfl)
        | mp kk es => exact hb.mono (fun k h => ⟨hok k h, rfl⟩) (fun b h => ⟨rfl, h⟩) (hm.low c _ hx) (fun _ _ => rfl)
        | lp s q env =>
          obtain ⟨l, r, hl, hh, h1, h2, h3, h4, h5, hrel⟩ := hb
          refine ⟨l, r, hl, hh, h1, h2, h3, h4, h5, fun t v ht => ?_⟩
          rw [aget_frzE] at ht
          obtain ⟨u, hu, rfl⟩ := Option.map_eq_some_iff.1 ht
          obtain ⟨m, a1, a2⟩ := hrel t u hu
          exact ⟨m, a1, val u m a2⟩
      apart := fun c c' y y' l l' hc hc' hne h1 h2 => by
        obtain ⟨_, x, hx, _⟩ := hget c y hc
        obtain ⟨_, x', hx', _⟩ := hget c' y' hc'
        exact hm.apart c c' x x' l l' hx hx' hne h1 h2
      agree := hm.agree
      own := fun k hk => hd.own k ((hown k).1 hk)
      ownG := fun k hk => hd.ownG k ((hown k).1 hk)
      size := hm.size
      keep := hm.keep
      os := hm.os
      tape := hm.tape
      output := hm.output
      glob := hm.glob
      rd := hm.rd }
  · simp only [frzS, aget_frzE] at ht
    obtain ⟨u, hu, rfl⟩ := Option.map_eq_some_iff.1 ht
    obtain ⟨m, h1, h2⟩ := hr.env t u hu
    exact ⟨m, h1, val u m h2⟩

theorem T_freeze (b : Nat) {c : Code} (h : T P WG c (frzS σ b) Q) : T P WG c σ Q := T_weak (Weak.freeze b) h
theorem RT_weak {ops : Array Oper} {todo : List Nat} {σ' : St} (hw : Weak WG σ σ') (h : RT P WG ops todo σ' Q) : RT P WG ops todo σ Q :=
  fun C j a w hr => let ⟨j', hr'⟩ := hw C j a w hr; h C j' a w hr'

def flatP : PV → Bool
  | .v x => flatV x
  | _ => false
def flatR1 : V → Bool
  | .p (.v x) => flatV x
  | .p (.agg cs) => cs.all flatP
  | _ => false
def flatR : V → Bool
  | .tup vs => vs.all flatR1
  | x => flatR1 x
theorem VR.flat1 {w w' : World} {ok ok' : Nat → Prop} {j j' : Nat → Option Loc} {nx nx' : Nat} {r : V} {m : Value} (hp : flatR1 r = true) (h : VR w ok j nx r m) : VR w' ok' j' nx' r m := by
  cases r with
  | p x =>
    cases x with
    | v y => cases h with | p hq => cases hq with | v hf => exact .p (.v hf)
    | agg cs =>
      simp only [flatR1, List.all_eq_true] at hp
      cases h with
      | p hq =>
        cases hq with
        | agg hlen hone hrel =>
          refine .p (.agg hlen hone fun i c hi => ?_)
          have h1 := hp c (List.mem_of_getElem? hi)
          have h2 := hrel i c hi
          cases c with
          | v y =>
            generalize Array.getD _ i undef = u at h2 ⊢
            cases h2; exact .v h1
          | _ => simp [flatP] at h1
    | _ => simp [flatR1] at hp
  | _ => simp [flatR1] at hp
theorem VR.flat {w w' : World} {ok ok' : Nat → Prop} {j j' : Nat → Option Loc} {nx nx' : Nat} {r : V} {m : Value} (hp : flatR r = true) (h : VR w ok j nx r m) : VR w' ok' j' nx' r m := by
  cases r with
  | tup vs =>
    simp only [flatR, List.all_eq_true] at hp
    cases h with
    | tup hlen hrel => exact .tup hlen (fun i c hi => (hrel i c hi).flat1 (hp c (List.mem_of_getElem? hi)))
  | p x => exact h.flat1 hp
  | _ => simp [flatR, flatR1] at hp

theorem CallT.borrow {f : FuncId} {vs : List V} {ps : List PV} {tab : Tab} {nx : Nat} {r : V} (h : FV P WG f ps r) (hf : flatR r = true) (hs : snapT tab vs = some (ps.map .p)) : CallQ P WG f vs tab nx r := by
  intro C j w ms h1 h2 h3 h4 hm hvs
  have hno : ∀ k, ¬ Own (fun _ => none) ([] : Tab) k := fun k ⟨b, x, l, hb, _⟩ => by simp [aget] at hb
  let rd : Nat → Prop := fun k => okc C (Own j tab) w k ∨ Own j tab k
  let C0 : Ctx := ⟨0, fun _ => none, Own (fun _ => none) ([] : Tab), rd, w, none, []⟩
  have hrd : ∀ k, rd k → k < w.heap.size := fun k hk => hk.elim (fun h => h.1) hm.own_lt
  have hm0 : MemR WG C0 (fun _ => none) [] 0 w := {
    nb := Nat.le_refl _
    low := fun b x hb => by simp [aget] at hb
    blk := fun b x hb => by simp [aget] at hb
    apart := fun b b' x x' l l' hb => by simp [aget] at hb
    agree := fun b hb => absurd hb (Nat.not_lt_zero _)
    own := fun k hk => (hno k hk).elim
    ownG := fun k hk => (hno k hk).elim
    size := Nat.le_refl _
    keep := fun _ _ _ => rfl
    os := rfl
    tape := rfl
    output := rfl
    glob := hm.glob
    rd := fun k hk => ⟨hrd k hk, hno k⟩ }
  obtain ⟨hl, hg⟩ := snapT_get hs
  have hvs0 : VRs w (okc C0 (Own (fun _ => none) ([] : Tab)) w) (fun _ => none) 0 (ps.map .p) ms := by
    refine ⟨by rw [hvs.1, ← hl], fun i v hv => ?_⟩
    obtain ⟨c, hc, hsn⟩ := hg i v hv
    exact (hvs.2 i c hc).snap hm (fun k hk => ⟨hk.1, hno k, .inl (.inl hk)⟩) (fun k hk => ⟨hm.own_lt hk, hno k, .inl (.inr hk)⟩) hsn
  refine (h [] 0 C0 (fun _ => none) w ms rfl rfl rfl rfl hm0 hvs0).mono fun e w' he => ?_
  cases e with
  | panicked ch => obtain ⟨_, _, _, _, _, _, _, _, d⟩ := he; exact d.elim
  | outgrown => exact he.elim
  | returned m =>
    obtain ⟨j', tab', nx', r', a, b, rfl, rfl, rfl⟩ := he
    have hbel : Below w.heap.size w w' := ⟨a.os, a.tape, a.output, a.size, fun k hk => a.keep k hk (hno k)⟩
    obtain ⟨hm', _, _⟩ := hm.below hbel
    exact ⟨j, tab, nx, _, hm', b.flat hf, rfl, rfl, rfl⟩

theorem FV.lend {f : FuncId} {ps : List PV} {r : V} (h : FV P WG f ps r) (hf : flatR r = true) {tab : Tab} {nx : Nat} {K KP : V → Tab → Nat → Prop} {vs : List V} (hs : snapT tab vs = some (ps.map .p)) (hk : K r tab nx) : CallT P WG f vs tab nx K KP :=
  (CallT.borrow h hf hs).mono (fun r' t n ⟨h1, h2, h3⟩ => by subst h1 h2 h3; exact hk) (fun _ _ _ h => h.elim)
end
end Go.Gp

namespace Go.Gp
open Go.RowKit
mutual
def V.rn (f : Nat → Nat) : V → V
  | .p x => .p x
  | .ref b o => .ref (f b) o
  | .eref b s i c => .eref (f b) s i c
  | .osl b s lo len cap => .osl (f b) s lo len cap
  | .bsl b o s len cap => .bsl (f b) o s len cap
  | .agg cs => .agg (V.rnL f cs)
  | .tup vs => .tup (V.rnL f vs)
  | .clo fn fs cs => .clo fn (V.rnL f fs) (V.rnL f cs)
  | .ifc t x => .ifc t (V.rn f x)
  | .mp b => .mp (f b)
  | .zc => .zc
  | .cnd b x => .cnd b (V.rn f x)
  | .yld b => .yld (f b)
def V.rnL (f : Nat → Nat) : List V → List V
  | [] => []
  | x :: r => V.rn f x :: V.rnL f r
end
mutual
def V.bd (n : Nat) : V → Prop
  | .p _ | .zc => True
  | .ref b _ | .eref b _ _ _ | .osl b _ _ _ _ | .bsl b _ _ _ _ | .mp b | .yld b => b < n
  | .agg cs => V.bdL n cs
  | .tup vs => V.bdL n vs
  | .clo _ fs cs => V.bdL n fs ∧ V.bdL n cs
  | .ifc _ x => V.bd n x
  | .cnd _ x => V.bd n x
def V.bdL (n : Nat) : List V → Prop
  | [] => True
  | x :: r => V.bd n x ∧ V.bdL n r
end
theorem V.rnL_get (f : Nat → Nat) : ∀ (l : List V) (i : Nat), (V.rnL f l)[i]? = (l[i]?).map (V.rn f)
  | [], i => by simp [V.rnL]
  | x :: r, 0 => by simp [V.rnL]
  | x :: r, i + 1 => by simp [V.rnL, V.rnL_get f r i]
theorem V.rnL_length (f : Nat → Nat) : ∀ (l : List V), (V.rnL f l).length = l.length
  | [] => rfl
  | x :: r => by simp [V.rnL, V.rnL_length f r]
theorem V.bdL_get {n : Nat} : ∀ {l : List V} {i : Nat} {c : V}, V.bdL n l → l[i]? = some c → V.bd n c
  | [], i, c, _, h => by simp at h
  | x :: r, 0, c, hb, h => by simp only [V.bdL] at hb; simp at h; subst h; exact hb.1
  | x :: r, i + 1, c, hb, h => by simp only [V.bdL] at hb; exact V.bdL_get hb.2 (by simpa using h)
theorem V.rn_one (f : Nat → Nat) (v : V) : (V.rn f v).one = v.one := by cases v <;> simp [V.rn, V.one]

theorem VR.unrn {w : World} {ok : Nat → Prop} {j : Nat → Option Loc} {nx n : Nat} {f : Nat → Nat} {u : V} {m : Value} (h : VR w ok j nx u m) : ∀ v, u = V.rn f v → V.bd n v → VR w ok (fun b => j (f b)) n v m := by
  induction h with
  | p hp => intro v e hb; cases v <;> simp only [V.rn] at e <;> cases e; exact .p hp
  | ref hbn hl hq => intro v e hb; cases v <;> simp only [V.rn] at e <;> cases e; exact .ref (by simpa [V.bd] using hb) hl hq
  | eref hbn hl hq => intro v e hb; cases v <;> simp only [V.rn] at e <;> cases e; exact .eref (by simpa [V.bd] using hb) hl hq
  | oslNil hbn hl => intro v e hb; cases v <;> simp only [V.rn] at e <;> cases e; exact .oslNil (by simpa [V.bd] using hb) hl
  | oslEnd hbn hl h1 h2 => intro v e hb; cases v <;> simp only [V.rn] at e <;> cases e; exact .oslEnd (by simpa [V.bd] using hb) hl h1 h2
  | osl hbn hl hq h1 h2 h3 h4 => intro v e hb; cases v <;> simp only [V.rn] at e <;> cases e; exact .osl (by simpa [V.bd] using hb) hl hq h1 h2 h3 h4
  | bsl hbn hl hq h1 => intro v e hb; cases v <;> simp only [V.rn] at e <;> cases e; exact .bsl (by simpa [V.bd] using hb) hl hq h1
  | bslEnd => intro v e hb; cases v <;> simp only [V.rn] at e <;> cases e; exact .bslEnd
  | agg hlen hone _ ih =>
    intro v e hb
    cases v <;> simp only [V.rn] at e <;> cases e
    simp only [V.bd] at hb
    rename_i cs
    refine .agg (by rw [hlen, V.rnL_length]) (fun i c hi => ?_) (fun i c hi => ?_)
    · have := hone i (V.rn f c) (by rw [V.rnL_get, hi]; rfl); rwa [V.rn_one] at this
    · exact ih i (V.rn f c) (by rw [V.rnL_get, hi]; rfl) c rfl (V.bdL_get hb hi)
  | tup hlen _ ih =>
    intro v e hb
    cases v <;> simp only [V.rn] at e <;> cases e
    simp only [V.bd] at hb
    exact .tup (by rw [hlen, V.rnL_length]) (fun i c hi => ih i (V.rn f c) (by rw [V.rnL_get, hi]; rfl) c rfl (V.bdL_get hb hi))
  | clo h1 h2 _ _ ih1 ih2 =>
    intro v e hb
    cases v <;> simp only [V.rn] at e <;> cases e
    simp only [V.bd] at hb
    exact .clo (by rw [h1, V.rnL_length]) (by rw [h2, V.rnL_length]) (fun i c hi => ih1 i (V.rn f c) (by rw [V.rnL_get, hi]; rfl) c rfl (V.bdL_get hb.1 hi)) (fun i c hi => ih2 i (V.rn f c) (by rw [V.rnL_get, hi]; rfl) c rfl (V.bdL_get hb.2 hi))
  | ifc _ ih =>
    intro v e hb
    cases v <;> simp only [V.rn] at e <;> cases e
    simp only [V.bd] at hb
    exact .ifc (ih _ rfl hb)
  | mp hbn hl => intro v e hb; cases v <;> simp only [V.rn] at e <;> cases e; exact .mp (by simpa [V.bd] using hb) hl
  | zc => intro v e hb; cases v <;> simp only [V.rn] at e <;> cases e; exact .zc
  | cnd _ h0 ih =>
    intro v e hb
    cases v <;> simp only [V.rn] at e <;> cases e
    simp only [V.bd] at hb
    exact .cnd (fun h => ih h _ rfl hb) h0
  | yld hbn hl => intro v e hb; cases v <;> simp only [V.rn] at e <;> cases e; exact .yld (by simpa [V.bd] using hb) hl

def envRn (f : Nat → Nat) : List (Nat × V) → List (Nat × V)
  | [] => []
  | (t, v) :: r => (t, V.rn f v) :: envRn f r
def envBd (n : Nat) : List (Nat × V) → Prop
  | [] => True
  | (_, v) :: r => V.bd n v ∧ envBd n r
theorem aget_envRn (f : Nat → Nat) (t : Nat) : ∀ e : List (Nat × V), aget (envRn f e) t = (aget e t).map (V.rn f)
  | [] => rfl
  | (k, v) :: r => by
    simp only [envRn, aget]
    split
    · rfl
    · exact aget_envRn f t r
theorem envBd_get {n t : Nat} {v : V} : ∀ {e : List (Nat × V)}, envBd n e → aget e t = some v → V.bd n v
  | [], _, h => by simp [aget] at h
  | (k, u) :: r, hb, h => by
    simp only [aget] at h
    split at h
    · cases h; exact hb.1
    · exact envBd_get hb.2 h

def Blk.rn (f : Nat → Nat) : Blk → Blk
  | .box cs => .box (V.rnL f cs)
  | .lp s c env => .lp s c (envRn f env)
  | x => x
def Blk.bd (n : Nat) : Blk → Prop
  | .box cs => V.bdL n cs
  | .lp _ _ env => envBd n env
  | _ => True
theorem BlkR.unrn {w : World} {ok : Nat → Prop} {j : Nat → Option Loc} {nx n b : Nat} {f : Nat → Nat} {x : Blk} (h : BlkR w ok j nx (f b) (x.rn f)) (hb : x.bd n) : BlkR w ok (fun b => j (f b)) n b x := by
  cases x with
  | box cs =>
    obtain ⟨l, ms, e, fr, hl, hh, hfr, hs, h1, hr⟩ := h
    refine ⟨l, ms, e, fr, hl, hh, hfr, by rw [← V.rnL_length f]; exact hs, fun i c hi => ?_, fun i c hi => ?_⟩
    · have := h1 i (V.rn f c) (by rw [V.rnL_get, hi]; rfl); rwa [V.rn_one] at this
    · exact (hr i (V.rn f c) (by rw [V.rnL_get, hi]; rfl)).unrn c rfl (V.bdL_get hb hi)
  | arr s xs gr => exact h
  | mp kk es => exact h
  | lp s c env =>
    obtain ⟨l, q, hl, hh, h1, h2, h3, h4, h5, hr⟩ := h
    refine ⟨l, q, hl, hh, h1, h2, h3, h4, h5, fun t v ht => ?_⟩
    obtain ⟨m, a1, a2⟩ := hr t (V.rn f v) (by rw [aget_envRn, ht]; rfl)
    exact ⟨m, a1, a2.unrn v rfl (envBd_get hb ht)⟩

def rnf (L : List (Nat × Nat)) (b : Nat) : Nat := (aget L b).getD b
def envR (L : List (Nat × Nat)) (n : Nat) (e : List (Nat × V)) : List (Nat × V) → Prop
  | [] => True
  | (t, v) :: r => aget e t = some (V.rn (rnf L) v) ∧ V.bd n v ∧ envR L n e r
def tabR (L : List (Nat × Nat)) (n : Nat) (tb : Tab) : Tab → Prop
  | [] => True
  | (b, x) :: r => aget tb (rnf L b) = some (x.rn (rnf L)) ∧ b < n ∧ x.bd n ∧ tabR L n tb r
def notIn (L : List (Nat × Nat)) (k : Nat) : Tab → Prop
  | [] => True
  | (b, _) :: r => k ≠ rnf L b ∧ notIn L k r
def injR (L : List (Nat × Nat)) : Tab → Prop
  | [] => True
  | (b, _) :: r => notIn L (rnf L b) r ∧ injR L r
def loR (lo : Nat) : List (Nat × Nat) → Prop
  | [] => True
  | (k, _) :: r => lo ≤ k ∧ loR lo r
def LeR (L : List (Nat × Nat)) (σ σ' : St) : Prop := σ.lo = σ'.lo ∧ σ.n = σ'.n ∧ σ'.lo ≤ σ'.nx ∧ loR σ.lo L ∧ injR L σ'.tab ∧ tabR L σ'.nx σ.tab σ'.tab ∧ envR L σ'.nx σ.env σ'.env

theorem envR_get {L : List (Nat × Nat)} {n : Nat} {e : List (Nat × V)} : ∀ {r : List (Nat × V)}, envR L n e r → ∀ t v, aget r t = some v → aget e t = some (V.rn (rnf L) v) ∧ V.bd n v
  | [], _, t, v, h => by simp [aget] at h
  | (k, u) :: r, hs, t, v, h => by
    simp only [aget] at h
    split at h
    · rename_i e'; subst e'; cases h; exact ⟨hs.1, hs.2.1⟩
    · exact envR_get hs.2.2 t v h
theorem tabR_get {L : List (Nat × Nat)} {n : Nat} {tb : Tab} : ∀ {r : Tab}, tabR L n tb r → ∀ b x, aget r b = some x → aget tb (rnf L b) = some (x.rn (rnf L)) ∧ b < n ∧ x.bd n
  | [], _, t, v, h => by simp [aget] at h
  | (k, u) :: r, hs, t, v, h => by
    simp only [aget] at h
    split at h
    · rename_i e'; subst e'; cases h; exact ⟨hs.1, hs.2.1, hs.2.2.1⟩
    · exact tabR_get hs.2.2.2 t v h
theorem notIn_get {L : List (Nat × Nat)} {k : Nat} : ∀ {r : Tab}, notIn L k r → ∀ b x, aget r b = some x → k ≠ rnf L b
  | [], _, b, x, h => by simp [aget] at h
  | (q, u) :: r, hs, b, x, h => by
    simp only [aget] at h
    split at h
    · rename_i e; subst e; exact hs.1
    · exact notIn_get hs.2 b x h
theorem injR_get {L : List (Nat × Nat)} : ∀ {r : Tab}, injR L r → ∀ b b' x x', aget r b = some x → aget r b' = some x' → b ≠ b' → rnf L b ≠ rnf L b'
  | [], _, b, b', x, x', h, _, _ => by simp [aget] at h
  | (q, u) :: r, hs, b, b', x, x', h, h', hne => by
    simp only [aget] at h h'
    split at h
    · rename_i e; subst e
      rw [if_neg hne] at h'
      exact notIn_get hs.1 b' x' h'
    · split at h'
      · rename_i e; subst e
        exact fun hq => notIn_get hs.1 b x h hq.symm
      · exact injR_get hs.2 b b' x x' h h' hne
theorem rnf_lo {lo : Nat} : ∀ {L : List (Nat × Nat)}, loR lo L → ∀ b, b < lo → rnf L b = b
  | [], _, b, _ => rfl
  | (k, q) :: r, h, b, hb => by
    simp only [rnf, aget]
    rw [if_neg (by have := h.1; omega)]
    exact rnf_lo h.2 b hb

section
variable {P : Program} {WG : World} {σ σ' : St} {Q : VX → St → Prop}
theorem LeR.weak {L : List (Nat × Nat)} (h : LeR L σ σ') : Weak WG σ σ' := by
  intro C j a w hr
  obtain ⟨h1, h2, h3, h4, h5, h6, h7⟩ := h
  have hm := hr.mem
  have hown : ∀ k, Own (fun b => j (rnf L b)) σ'.tab k → Own j σ.tab k := fun k ⟨b, x, l, hb, hl, e⟩ => ⟨_, _, l, (tabR_get h6 b x hb).1, hl, e⟩
  have hok : ∀ k, okc C (Own j σ.tab) w k → okc C (Own (fun b => j (rnf L b)) σ'.tab) w k := fun k hk => ⟨hk.1, fun hn => hk.2.1 (hown k hn), hk.2.2⟩
  have hnb : C.nb ≤ σ'.lo := by rw [← h1]; exact hr.lo
  refine ⟨fun b => j (rnf L b), ⟨?_, hnb, h3, fun t v ht => ?_, by rw [hr.n, h2], hr.defers.mono (fun k hk => ⟨hok k hk, rfl⟩)⟩⟩
  · exact {
      nb := by omega
      low := fun b x hb => (tabR_get h6 b x hb).2.1
      blk := fun b x hb => by
        obtain ⟨e1, e2, e3⟩ := tabR_get h6 b x hb
        have := (hm.blk _ _ e1).mono (ok' := okc C (Own (fun b => j (rnf L b)) σ'.tab) w) (fun k hk => ⟨hok k hk, rfl⟩) (fun b h => ⟨rfl, h⟩) (hm.low _ _ e1) (fun _ _ => rfl)
        exact this.unrn e3
      apart := fun b b' x x' l l' hb hb' hne hl hl' => hm.apart _ _ _ _ l l' (tabR_get h6 b x hb).1 (tabR_get h6 b' x' hb').1 (injR_get h5 b b' x x' hb hb' hne) hl hl'
      agree := fun b hb => by
        show j (rnf L b) = _
        rw [rnf_lo h4 b (by have := hr.lo; omega)]; exact hm.agree b hb
      own := fun k hk => hm.own k (hown k hk)
      ownG := fun k hk => hm.ownG k (hown k hk)
      size := hm.size
      keep := hm.keep
      os := hm.os
      tape := hm.tape
      output := hm.output
      glob := hm.glob
      rd := hm.rd }
  · obtain ⟨e1, e2⟩ := envR_get h7 t v ht
    obtain ⟨m, hm1, hm2⟩ := hr.env t _ e1
    exact ⟨m, hm1, (hm2.mono (fun k hk => ⟨hok k hk, rfl⟩) (fun b h => ⟨rfl, h⟩)).unrn v rfl e2⟩

def loopKR {ι : Type} (S : ι → St) (I : ι → Prop) (m : ι → Nat) (i : ι) : St → Prop := fun σ' => ∃ i', I i' ∧ m i' < m i ∧ ∃ L, LeR L σ' (S i')
theorem loopKR_eq {ι : Type} (S : ι → St) (I : ι → Prop) (m : ι → Nat) (i : ι) (σ' : St) : loopKR S I m i σ' = ∃ i', I i' ∧ m i' < m i ∧ ∃ L, LeR L σ' (S i') := rfl

theorem T_loopR {c : Code} {ι : Type} (S : ι → St) (I : ι → Prop) (m : ι → Nat) (i0 : ι) (L0 : List (Nat × Nat)) (hI : I i0) (h0 : LeR L0 σ (S i0))
    (round : ∀ i, I i → wpC P WG c (thenQ (loopKR S I m i) Q) (S i)) : T P WG (.loop c) σ Q :=
  T_loopW S I m i0 hI h0.weak fun i hi => (wpC_sound _ _ _ (round i hi)).mono fun x σ' hq => by
    cases x with
    | normal => obtain ⟨i', a, b, L, c⟩ := hq; exact ⟨i', a, b, c.weak⟩
    | _ => exact hq

def cutR {ι : Type} (S : ι → St) (I : ι → Prop) : St → Prop := fun σ' => ∃ i, I i ∧ ∃ L, LeR L σ' (S i)
theorem cutR_eq {ι : Type} (S : ι → St) (I : ι → Prop) (σ' : St) : cutR S I σ' = ∃ i, I i ∧ ∃ L, LeR L σ' (S i) := rfl
theorem T_cutR {ι : Type} (S : ι → St) (I : ι → Prop) {a b : Code} (h1 : wpC P WG a (thenQ (cutR S I) Q) σ) (h2 : ∀ i, I i → T P WG b (S i) Q) : T P WG (.seq a b) σ Q :=
  T_seq ((wpC_sound _ _ _ h1).mono fun x σ' hq => by
    cases x with
    | normal => obtain ⟨i, a, L, c⟩ := hq; exact T_weak c.weak (h2 i a)
    | _ => exact hq)
theorem T_le {c : Code} (S : St) (L : List (Nat × Nat)) (h : LeR L σ S) (h2 : T P WG c S Q) : T P WG c σ Q := T_weak h.weak h2
end
end Go.Gp

namespace Go.Gp
open Go.RowKit
section
variable {P : Program} {WG : World} {σ σ' : St} {Q : VX → St → Prop}
def tidyK (nx0 : Nat) (K : V → Tab → Nat → Prop) : V → Tab → Nat → Prop := fun r t _ => ∃ L r' t' n', K r' t' n' ∧ r = V.rn (rnf L) r' ∧ V.bd n' r' ∧ nx0 ≤ n' ∧ loR nx0 L ∧ injR L t' ∧ tabR L n' t t'
theorem CallT.tidy {f : FuncId} {vs : List V} {tab : Tab} {nx : Nat} {K KP : V → Tab → Nat → Prop} (h : CallT P WG f vs tab nx (tidyK nx K) KP) : CallT P WG f vs tab nx K KP := by
  intro C j w ms h1 h2 h3 h4 hm0 hvs
  refine (h C j w ms h1 h2 h3 h4 hm0 hvs).mono fun e w' he => ?_
  cases e with
  | panicked ch => exact he
  | outgrown => exact he.elim
  | returned m =>
    obtain ⟨j1, t, n, r, hm, hv, L, r', t', n', hK, rfl, hb, hnx, hlo, hinj, htab⟩ := he
    have hown : ∀ k, Own (fun b => j1 (rnf L b)) t' k → Own j1 t k := fun k ⟨b, x, l, hb, hl, e⟩ => ⟨_, _, l, (tabR_get htab b x hb).1, hl, e⟩
    have hok : ∀ k, okc C (Own j1 t) w' k → okc C (Own (fun b => j1 (rnf L b)) t') w' k := fun k hk => ⟨hk.1, fun hn => hk.2.1 (hown k hn), hk.2.2⟩
    refine ⟨fun b => j1 (rnf L b), t', n', r', ?_, (hv.mono (fun k hk => ⟨hok k hk, rfl⟩) (fun b h => ⟨rfl, h⟩)).unrn r' rfl hb, hK⟩
    exact {
      nb := by rw [h1]; exact hnx
      low := fun b x hb => (tabR_get htab b x hb).2.1
      blk := fun b x hb => by
        obtain ⟨e1, e2, e3⟩ := tabR_get htab b x hb
        have := (hm.blk _ _ e1).mono (ok' := okc C (Own (fun b => j1 (rnf L b)) t') w') (fun k hk => ⟨hok k hk, rfl⟩) (fun b h => ⟨rfl, h⟩) (hm.low _ _ e1) (fun _ _ => rfl)
        exact this.unrn e3
      apart := fun b b' x x' l l' hb hb' hne hl hl' => hm.apart _ _ _ _ l l' (tabR_get htab b x hb).1 (tabR_get htab b' x' hb').1 (injR_get hinj b b' x x' hb hb' hne) hl hl'
      agree := fun b hb => by
        show j1 (rnf L b) = _
        rw [rnf_lo hlo b (by rw [h1] at hb; exact hb)]; exact hm.agree b hb
      own := fun k hk => hm.own k (hown k hk)
      ownG := fun k hk => hm.ownG k (hown k hk)
      size := hm.size
      keep := hm.keep
      os := hm.os
      tape := hm.tape
      output := hm.output
      glob := hm.glob
      rd := hm.rd }

theorem Weak.nilBox (b k s : Nat) {cs : List V} (hb : aget σ.tab b = some (.box cs)) (hk : cs[k]? = some (.p (.v (.slice none 0 0)))) :
    Weak WG σ { σ with tab := aset (aset σ.tab b (.box (cs.set k (.osl σ.nx s 0 0 none)))) σ.nx (.arr s [] true), nx := σ.nx + 1 } := by
  intro C j a w hr
  have hm := hr.mem
  have hbn : b < σ.nx := hm.low b _ hb
  have hget : ∀ c y, aget (aset (aset σ.tab b (.box (cs.set k (.osl σ.nx s 0 0 none)))) σ.nx (.arr s [] true)) c = some y →
      (c = σ.nx ∧ y = .arr s [] true) ∨ (c ≠ σ.nx ∧ c = b ∧ y = .box (cs.set k (.osl σ.nx s 0 0 none))) ∨ (c ≠ σ.nx ∧ c ≠ b ∧ aget σ.tab c = some y) := fun c y hc => by
    rw [aget_aset] at hc
    by_cases e : c = σ.nx
    · rw [if_pos e] at hc; cases hc; exact .inl ⟨e, rfl⟩
    · rw [if_neg e, aget_aset] at hc
      by_cases e2 : c = b
      · rw [if_pos e2] at hc; cases hc; exact .inr (.inl ⟨e, e2, rfl⟩)
      · rw [if_neg e2] at hc; exact .inr (.inr ⟨e, e2, hc⟩)
  have hjlt : ∀ {c}, c < σ.nx → jset j σ.nx none c = j c := fun h => jset_lt _ h
  have old : ∀ c y, aget (aset (aset σ.tab b (.box (cs.set k (.osl σ.nx s 0 0 none)))) σ.nx (.arr s [] true)) c = some y → c ≠ σ.nx → ∃ z, aget σ.tab c = some z := fun c y hc hne => by
    rcases hget c y hc with ⟨h, _⟩ | ⟨_, rfl, _⟩ | ⟨_, _, h⟩
    · exact absurd h hne
    · exact ⟨_, hb⟩
    · exact ⟨_, h⟩
  have hown : ∀ q, Own (jset j σ.nx none) (aset (aset σ.tab b (.box (cs.set k (.osl σ.nx s 0 0 none)))) σ.nx (.arr s [] true)) q → Own j σ.tab q := by
    rintro q ⟨c, y, l, hc, hl, rfl⟩
    by_cases e : c = σ.nx
    · subst e; rw [jset_same] at hl; cases hl
    · obtain ⟨z, hz⟩ := old c y hc e
      rw [hjlt (hm.low c z hz)] at hl
      exact ⟨c, z, l, hz, hl, rfl⟩
  have hok : ∀ q, okc C (Own j σ.tab) w q → okc C (Own (jset j σ.nx none) (aset (aset σ.tab b (.box (cs.set k (.osl σ.nx s 0 0 none)))) σ.nx (.arr s [] true))) w q := fun q hq => ⟨hq.1, fun hn => hq.2.1 (hown q hn), hq.2.2⟩
  have val : ∀ v m, VR w (okc C (Own j σ.tab) w) j σ.nx v m → VR w (okc C (Own (jset j σ.nx none) (aset (aset σ.tab b (.box (cs.set k (.osl σ.nx s 0 0 none)))) σ.nx (.arr s [] true))) w) (jset j σ.nx none) (σ.nx + 1) v m := fun v m hv =>
    hv.mono (fun q hq => ⟨hok q hq, rfl⟩) (fun c hc => ⟨hjlt hc, Nat.lt_succ_of_lt hc⟩)
  refine ⟨jset j σ.nx none, ⟨?_, hr.lo, Nat.le_succ_of_le hr.lx, fun t v ht => let ⟨m, h1, h2⟩ := hr.env t v ht; ⟨m, h1, val v m h2⟩, hr.n, hr.defers.mono (fun q hq => ⟨hok q hq, rfl⟩)⟩⟩
  exact {
    nb := Nat.le_succ_of_le hm.nb
    low := fun c y hc => by
      rcases hget c y hc with ⟨h, _⟩ | ⟨_, rfl, _⟩ | ⟨_, _, h⟩
      · subst h; exact Nat.lt_succ_self _
      · exact Nat.lt_succ_of_lt hbn
      · exact Nat.lt_succ_of_lt (hm.low c y h)
    blk := fun c y hc => by
      rcases hget c y hc with ⟨rfl, rfl⟩ | ⟨_, rfl, rfl⟩ | ⟨_, _, h⟩
      · exact .inl ⟨jset_same _ _, rfl, rfl⟩
      · obtain ⟨l, ms, e, fr, hl, hh, hfr, hs, h1, hrel⟩ := hm.blk c _ hb
        refine ⟨l, ms, e, fr, (hjlt hbn).trans hl, hh, hfr, by simpa using hs, fun i x hi => ?_, fun i x hi => ?_⟩
        · rw [List.getElem?_set] at hi
          split at hi
          · split at hi
            · cases hi; rfl
            · cases hi
          · exact h1 i x hi
        · rw [List.getElem?_set] at hi
          split at hi
          · rename_i e; subst e
            split at hi
            · cases hi
              have := hrel k _ hk
              cases this with
              | p hp =>
                generalize hq : ms.getD (l.off + k) undef = q at hp ⊢
                cases hp
                exact .oslNil (Nat.lt_succ_self _) (jset_same _ _)
            · cases hi
          · exact val x _ (hrel i x hi)
      · exact (hm.blk c y h).mono (fun q hq => ⟨hok q hq, rfl⟩) (fun q hq => ⟨hjlt hq, Nat.lt_succ_of_lt hq⟩) (hm.low c y h) (fun _ _ => rfl)
    apart := fun c c' y y' l l' hc hc' hne hl hl' => by
      by_cases e : c = σ.nx
      · subst e; rw [jset_same] at hl; cases hl
      by_cases e' : c' = σ.nx
      · subst e'; rw [jset_same] at hl'; cases hl'
      obtain ⟨z, hz⟩ := old c y hc e
      obtain ⟨z', hz'⟩ := old c' y' hc' e'
      rw [hjlt (hm.low c z hz)] at hl
      rw [hjlt (hm.low c' z' hz')] at hl'
      exact hm.apart c c' z z' l l' hz hz' hne hl hl'
    agree := fun c hc => by rw [hjlt (by have := hm.nb; omega)]; exact hm.agree c hc
    own := fun q hq => hm.own q (hown q hq)
    ownG := fun q hq => hm.ownG q (hown q hq)
    size := hm.size
    keep := hm.keep
    os := hm.os
    tape := hm.tape
    output := hm.output
    glob := hm.glob
    rd := hm.rd }
theorem Weak.nilTmp (k s : Nat) (hk : aget σ.env k = some (.p (.v (.slice none 0 0)))) :
    Weak WG σ { σ with env := aset σ.env k (.osl σ.nx s 0 0 none), tab := aset σ.tab σ.nx (.arr s [] true), nx := σ.nx + 1 } := by
  intro C j a w hr
  have hm := hr.mem
  have hget : ∀ c y, aget (aset σ.tab σ.nx (.arr s [] true)) c = some y →
      (c = σ.nx ∧ y = .arr s [] true) ∨ (c ≠ σ.nx ∧ aget σ.tab c = some y) := fun c y hc => by
    rw [aget_aset] at hc
    by_cases e : c = σ.nx
    · rw [if_pos e] at hc; cases hc; exact .inl ⟨e, rfl⟩
    · rw [if_neg e] at hc; exact .inr ⟨e, hc⟩
  have hjlt : ∀ {c}, c < σ.nx → jset j σ.nx none c = j c := fun h => jset_lt _ h
  have hown : ∀ q, Own (jset j σ.nx none) (aset σ.tab σ.nx (.arr s [] true)) q → Own j σ.tab q := by
    rintro q ⟨c, y, l, hc, hl, rfl⟩
    rcases hget c y hc with ⟨rfl, _⟩ | ⟨e, h⟩
    · rw [jset_same] at hl; cases hl
    · rw [hjlt (hm.low c y h)] at hl
      exact ⟨c, y, l, h, hl, rfl⟩
  have hok : ∀ q, okc C (Own j σ.tab) w q → okc C (Own (jset j σ.nx none) (aset σ.tab σ.nx (.arr s [] true))) w q := fun q hq => ⟨hq.1, fun hn => hq.2.1 (hown q hn), hq.2.2⟩
  have val : ∀ v m, VR w (okc C (Own j σ.tab) w) j σ.nx v m → VR w (okc C (Own (jset j σ.nx none) (aset σ.tab σ.nx (.arr s [] true))) w) (jset j σ.nx none) (σ.nx + 1) v m := fun v m hv =>
    hv.mono (fun q hq => ⟨hok q hq, rfl⟩) (fun c hc => ⟨hjlt hc, Nat.lt_succ_of_lt hc⟩)
  refine ⟨jset j σ.nx none, ⟨?_, hr.lo, Nat.le_succ_of_le hr.lx, fun t v ht => ?_, hr.n, hr.defers.mono (fun q hq => ⟨hok q hq, rfl⟩)⟩⟩
  · exact {
      nb := Nat.le_succ_of_le hm.nb
      low := fun c y hc => by
        rcases hget c y hc with ⟨h, _⟩ | ⟨_, h⟩
        · subst h; exact Nat.lt_succ_self _
        · exact Nat.lt_succ_of_lt (hm.low c y h)
      blk := fun c y hc => by
        rcases hget c y hc with ⟨rfl, rfl⟩ | ⟨_, h⟩
        · exact .inl ⟨jset_same _ _, rfl, rfl⟩
        · exact (hm.blk c y h).mono (fun q hq => ⟨hok q hq, rfl⟩) (fun q hq => ⟨hjlt hq, Nat.lt_succ_of_lt hq⟩) (hm.low c y h) (fun _ _ => rfl)
      apart := fun c c' y y' l l' hc hc' hne hl hl' => by
        rcases hget c y hc with ⟨rfl, _⟩ | ⟨e, h⟩
        · rw [jset_same] at hl; cases hl
        rcases hget c' y' hc' with ⟨rfl, _⟩ | ⟨e', h'⟩
        · rw [jset_same] at hl'; cases hl'
        rw [hjlt (hm.low c y h)] at hl
        rw [hjlt (hm.low c' y' h')] at hl'
        exact hm.apart c c' y y' l l' h h' hne hl hl'
      agree := fun c hc => by rw [hjlt (by have := hm.nb; omega)]; exact hm.agree c hc
      own := fun q hq => hm.own q (hown q hq)
      ownG := fun q hq => hm.ownG q (hown q hq)
      size := hm.size
      keep := hm.keep
      os := hm.os
      tape := hm.tape
      output := hm.output
      glob := hm.glob
      rd := hm.rd }
  · rw [aget_aset] at ht
    split at ht
    · rename_i e; subst e; cases ht
      obtain ⟨m, h1, h2⟩ := hr.env _ _ hk
      refine ⟨m, h1, ?_⟩
      cases h2 with
      | p hp => cases hp; exact .oslNil (Nat.lt_succ_self _) (jset_same _ _)
    · obtain ⟨m, h1, h2⟩ := hr.env t v ht
      exact ⟨m, h1, val v m h2⟩
theorem T_nilT (k s : Nat) {c : Code} (hk : aget σ.env k = some (.p (.v (.slice none 0 0))))
    (h : T P WG c { σ with env := aset σ.env k (.osl σ.nx s 0 0 none), tab := aset σ.tab σ.nx (.arr s [] true), nx := σ.nx + 1 } Q) : T P WG c σ Q := T_weak (Weak.nilTmp k s hk) h
theorem T_nilBox (b k s : Nat) {cs : List V} {c : Code} (hb : aget σ.tab b = some (.box cs)) (hk : cs[k]? = some (.p (.v (.slice none 0 0))))
    (h : T P WG c { σ with tab := aset (aset σ.tab b (.box (cs.set k (.osl σ.nx s 0 0 none)))) σ.nx (.arr s [] true), nx := σ.nx + 1 } Q) : T P WG c σ Q := T_weak (Weak.nilBox b k s hb hk) h
end
end Go.Gp

namespace Go.Gp
open Go.RowKit
section
variable {P : Program} {WG : World}
def softV : PV → PV → Prop
  | .v (.slice none 0 0), .sl _ xs => xs = []
  | a, b => a = b
def softL : List PV → List PV → Prop
  | [], [] => True
  | a :: l, b :: m => softV a b ∧ softL l m
  | _, _ => False
def soft1 : PV → PV → Prop
  | .agg a, .agg b => softL a b
  | a, b => softV a b
def softA : List PV → List PV → Prop
  | [], [] => True
  | a :: l, b :: m => soft1 a b ∧ softA l m
  | _, _ => False

theorem softV_pr {w : World} {ok : Nat → Prop} {a b : PV} {m : Value} (h : softV a b) (hp : PR w ok a m) : PR w ok b m := by
  unfold softV at h
  split at h
  · subst h; cases hp; exact .nil
  · subst h; exact hp
theorem softV_one {a b : PV} (h : softV a b) : a.one = b.one := by
  unfold softV at h
  split at h
  · rfl
  · subst h; rfl
theorem softL_get : ∀ {a b : List PV}, softL a b → a.length = b.length ∧ ∀ (i : Nat) y, b[i]? = some y → ∃ x, a[i]? = some x ∧ softV x y
  | [], [], _ => ⟨rfl, fun i y h => by simp at h⟩
  | x :: l, y :: m, h => by
    obtain ⟨h1, h2⟩ := softL_get h.2
    refine ⟨by simp [h1], fun i z hz => ?_⟩
    cases i with
    | zero => simp at hz; subst hz; exact ⟨x, rfl, h.1⟩
    | succ i => exact h2 i z (by simpa using hz)
  | [], _ :: _, h => h.elim
  | _ :: _, [], h => h.elim
theorem soft1_pr {w : World} {ok : Nat → Prop} {a b : PV} {m : Value} (h : soft1 a b) (hp : PR w ok a m) : PR w ok b m := by
  unfold soft1 at h
  split at h
  · obtain ⟨h1, h2⟩ := softL_get h
    cases hp with
    | agg hlen hone hrel =>
      refine .agg (hlen.trans h1) (fun i c hi => ?_) (fun i c hi => ?_)
      · obtain ⟨x, hx, hs⟩ := h2 i c hi
        rw [← softV_one hs]; exact hone i x hx
      · obtain ⟨x, hx, hs⟩ := h2 i c hi
        exact softV_pr hs (hrel i x hx)
  · exact softV_pr h hp
theorem softA_get : ∀ {a b : List PV}, softA a b → a.length = b.length ∧ ∀ (i : Nat) y, b[i]? = some y → ∃ x, a[i]? = some x ∧ soft1 x y
  | [], [], _ => ⟨rfl, fun i y h => by simp at h⟩
  | x :: l, y :: m, h => by
    obtain ⟨h1, h2⟩ := softA_get h.2
    refine ⟨by simp [h1], fun i z hz => ?_⟩
    cases i with
    | zero => simp at hz; subst hz; exact ⟨x, rfl, h.1⟩
    | succ i => exact h2 i z (by simpa using hz)
  | [], _ :: _, h => h.elim
  | _ :: _, [], h => h.elim

theorem softA_vrs {w : World} {ok : Nat → Prop} {j : Nat → Option Loc} {nx : Nat} {ps qs : List PV} {ms : Array Value} (h : softA ps qs) (hv : VRs w ok j nx (ps.map .p) ms) : VRs w ok j nx (qs.map .p) ms := by
  obtain ⟨h1, h2⟩ := softA_get h
  obtain ⟨ha, hb⟩ := hv
  refine ⟨by simpa [h1] using ha, fun i v hi => ?_⟩
  simp only [List.getElem?_map, Option.map_eq_some_iff] at hi
  obtain ⟨y, hy, rfl⟩ := hi
  obtain ⟨x, hx, hs⟩ := h2 i y hy
  have := hb i (.p x) (by simp [hx])
  cases this with
  | p hp => exact .p (soft1_pr hs hp)

theorem FV.soft {f : FuncId} {ps qs : List PV} {r : V} (h : FV P WG f qs r) (hs : softA ps qs) : FV P WG f ps r :=
  fun tab nx C j w ms h1 h2 h3 h4 hm hv => h tab nx C j w ms h1 h2 h3 h4 hm (softA_vrs hs hv)
end
end Go.Gp

namespace Go.Gp
open Go.RowKit
section
variable {P : Program} {WG : World} {σ : St} {Q : VX → St → Prop}
def loopQ (P : Program) (WG : World) (Q : VX → St → Prop) (σ : St) : V → Tab → Nat → Prop := fun _ t n =>
  match aget t σ.nx with
  | some (.lp .ready _ _) => Q .normal ⟨σ.env, adel t σ.nx, n, σ.lo, σ.n⟩
  | some (.lp (.done c) _ _) => T P WG c ⟨σ.env, adel t σ.nx, n, σ.lo, σ.n⟩ Q
  | _ => False

theorem ERel.moves {C : Ctx} {j j' : Nat → Option Loc} {a : Act} {w w' : World} {t : Tab} {n : Nat} (hr : ERel WG C j σ a w) (hm : Moves WG C σ.lo j σ.tab σ.nx w j' t n w') : ERel WG C j' ⟨σ.env, t, n, σ.lo, σ.n⟩ a w' :=
  ⟨hm.mem, hr.lo, hm.lx, fun t v hv => let ⟨m, a1, a2⟩ := hr.env t v hv; ⟨m, a1, hm.keep _ _ a2⟩, hr.n, hr.defers.mono hm.okk⟩

theorem Moves.below {C : Ctx} {j : Nat → Option Loc} {tab : Tab} {nx lo : Nat} {w w' : World} (h : MemR WG C j tab nx w) (hlx : lo ≤ nx) (hb : Below w.heap.size w w') : Moves WG C lo j tab nx w j tab nx w' :=
  let ⟨a, b, _⟩ := h.below hb
  ⟨a, hlx, fun x m hv => hv.mono b (fun b hb => ⟨rfl, hb⟩), b⟩

theorem Moves.del {C : Ctx} {j : Nat → Option Loc} {tab : Tab} {nx lo : Nat} {w : World} (h : MemR WG C j tab nx w) (hlx : lo ≤ nx) (b : Nat) : Moves WG C lo j tab nx w j (adel tab b) nx w :=
  let ⟨a, k⟩ := h.del b
  ⟨a, hlx, fun x m hv => hv.mono k (fun b hb => ⟨rfl, hb⟩), k⟩

theorem T_rangeFunc {g : Operand} {ps : Array Nat} {asg bd : Code} {v : V} {f : FuncId} {fs cs : List V} (hx : ev σ g = some v) (hc : cloOf v = some (f, fs, cs)) (hf : callable P f = true)
    (h : CallT P WG f (fs ++ [.yld σ.nx] ++ cs) (aset σ.tab σ.nx (.lp .ready ⟨ps, asg, bd, σ.n⟩ σ.env)) (σ.nx + 1) (loopQ P WG Q σ) (fun r t n => Q (.panic r) ⟨σ.env, t, n, σ.lo, σ.n⟩)) : T P WG (.rangeFunc g ps asg bd) σ Q := by
  intro C j a w hr
  refine wpIn_rangeFunc fun fn _ => ?_
  obtain ⟨ms, ns, hm, hms, hns⟩ := (hr.ev hx).cloOf hc

  obtain ⟨l, mark, wd, rec, hen, hbel, hl, hrs, hrp, hrps, hra, hrb, hrt, hmark⟩ : ∃ (l : Nat) (mark : List Deferred) (wd : World) (rec : Loop),
      (Instr.enterLoop fn a.tmps ps asg bd (fw C.rnd).round).run P w = .ok (l, mark) (wd.alloc (.loop rec)) ∧ Below w.heap.size w wd ∧ l = wd.heap.size ∧ rec.state = .ready ∧ rec.pending = none ∧ rec.params = ps ∧ rec.assign = asg ∧ rec.body = bd ∧ rec.tmps = a.tmps ∧
      ((C.rnd.isSome = true ∧ mark = []) ∨ (C.rnd = none ∧ mark = [markOf w.heap.size] ∧ w.heap.size < wd.heap.size ∧ wd.heap[w.heap.size]? = some (.deferred (some [])))) := by
    cases hrn : C.rnd with
    | none =>
      refine ⟨_, _, w.alloc (.deferred (some [])), _, run_enterLoop_outer fn a.tmps ps asg bd, (Below.refl _ w).alloc (Nat.le_refl _) _, by rw [World.size_alloc], rfl, rfl, rfl, rfl, rfl, rfl, .inr ⟨rfl, rfl, by rw [World.size_alloc]; omega, World.alloc_heap_new _ _⟩⟩
    | some l0 =>
      obtain ⟨_, _, r0, hr0⟩ := hr.defers.rnd l0 hrn
      exact ⟨_, _, w, _, run_enterLoop_inner hr0 fn a.tmps ps asg bd, Below.refl _ w, rfl, rfl, rfl, rfl, rfl, rfl, rfl, .inl ⟨rfl, rfl⟩⟩
  have mv0 : Moves WG C σ.lo j σ.tab σ.nx w j σ.tab σ.nx wd := Moves.below hr.mem hr.lx hbel
  have hr0 := hr.moves mv0
  let L : Loc := ⟨wd.heap.size, 0, 0⟩
  have hxl : BlkR (wd.alloc (.loop rec)) (okc C (Own j σ.tab) wd) (jset j σ.nx (some L)) (σ.nx + 1) σ.nx (.lp .ready ⟨ps, asg, bd, σ.n⟩ σ.env) := by
    refine ⟨L, rec, jset_same _ _, World.alloc_heap_new _ _, ⟨hrs, hrp⟩, hrps, hra, hrb, by rw [hrt]; exact hr.n, fun t v ht => ?_⟩
    obtain ⟨m, a1, a2⟩ := hr0.env t v ht
    exact ⟨m, by rw [hrt]; exact a1, a2.mono (fun k hk => ⟨hk, Below.heap_alloc wd _ k hk.1⟩) (fun b hb => ⟨jset_lt _ hb, Nat.lt_succ_of_lt hb⟩)⟩
  obtain ⟨hm1, hk1⟩ := mv0.mem.alloc (.loop rec) (.lp .ready ⟨ps, asg, bd, σ.n⟩ σ.env) L rfl hxl
  have mv1 : Moves WG C σ.lo j σ.tab σ.nx wd (jset j σ.nx (some L)) (aset σ.tab σ.nx (.lp .ready ⟨ps, asg, bd, σ.n⟩ σ.env)) (σ.nx + 1) (wd.alloc (.loop rec)) :=
    ⟨hm1, Nat.le_succ_of_le hr.lx, fun x m hv => hv.mono hk1 (fun b hb => ⟨jset_lt _ hb, Nat.lt_succ_of_lt hb⟩), hk1⟩
  have mvA := mv0.trans mv1
  have hr1 : ERel WG C (jset j σ.nx (some L)) ⟨σ.env, aset σ.tab σ.nx (.lp .ready ⟨ps, asg, bd, σ.n⟩ σ.env), σ.nx + 1, σ.lo, σ.n⟩ { a with defers := mark ++ a.defers } (wd.alloc (.loop rec)) := by
    have h0 := hr.moves mvA
    refine ⟨h0.mem, h0.lo, h0.lx, h0.env, h0.n, ?_⟩
    rcases hmark with ⟨hq, rfl⟩ | ⟨hq, rfl, hs, hd⟩
    · exact h0.defers
    · obtain ⟨Ds, e1, e2, e3⟩ := h0.defers.defers
      obtain ⟨Ds', e1', _, e3'⟩ := hr.defers.defers
      have hDs : Ds' = Ds := by
        have : Ds'.map markOf ++ C.base = Ds.map markOf ++ C.base := e1'.symm.trans e1
        have h2 := List.append_cancel_right this
        exact (List.map_inj_right (fun x y h => by simpa [markOf] using h)).1 h2
      subst hDs
      refine ⟨⟨w.heap.size :: Ds', by simp only [List.map_cons, List.cons_append, List.nil_append]; rw [← e1], List.nodup_cons.2 ⟨fun hin => ?_, e2⟩, fun D hD => ?_⟩, fun l0 hl0 => by rw [hq] at hl0; cases hl0⟩
      · have := (e3' _ hin).1.1; omega
      · rcases List.mem_cons.1 hD with rfl | hD
        · have hsz : C.w0.heap.size ≤ w.heap.size := hr.mem.size
          have hh : (wd.alloc (.loop rec)).heap[w.heap.size]? = some (.deferred (some [])) := (Below.heap_alloc wd _ _ hs).trans hd
          refine ⟨⟨by rw [World.size_alloc]; omega, fun hn => ?_, .inr (.inr hsz)⟩, hsz, hh⟩
          obtain ⟨b, x, l2, hb, hl2, he⟩ := hn
          simp only [aget_aset] at hb
          by_cases e : b = σ.nx
          · subst e; rw [jset_same] at hl2; cases hl2; simp only [L] at he; omega
          · rw [if_neg e] at hb
            rw [jset_lt _ (hr.mem.low b x hb)] at hl2
            have := (hr.mem.blk b x hb).lt hl2
            omega
        · exact e3 D hD
  have hms1 : VRs (wd.alloc (.loop rec)) (okc C (Own (jset j σ.nx (some L)) (aset σ.tab σ.nx (.lp .ready ⟨ps, asg, bd, σ.n⟩ σ.env))) (wd.alloc (.loop rec))) (jset j σ.nx (some L)) (σ.nx + 1) (fs ++ [.yld σ.nx] ++ cs) (ms ++ #[.func (.yield l) #[] #[]] ++ ns) := by
    refine VRs.append (VRs.append ⟨hms.1, fun i v hv => mvA.keep _ _ (hms.2 i v hv)⟩ ⟨rfl, fun i v hv => ?_⟩) ⟨hns.1, fun i v hv => mvA.keep _ _ (hns.2 i v hv)⟩
    rcases i with _ | i
    · simp at hv; subst hv
      have := VR.yld (w := wd.alloc (.loop rec)) (ok := okc C (Own (jset j σ.nx (some L)) (aset σ.tab σ.nx (.lp .ready ⟨ps, asg, bd, σ.n⟩ σ.env))) (wd.alloc (.loop rec))) (j := jset j σ.nx (some L)) (nx := σ.nx + 1) (b := σ.nx) (l := L) (Nat.lt_succ_self _) (jset_same _ _)
      rw [hl]; exact this
    · simp at hv
  refine ⟨l, mark, wd.alloc (.loop rec), { target := .fn (.func f) ns, args := ms ++ #[.func (.yield l) #[] #[]] }, wd.alloc (.loop rec), f, ms ++ #[.func (.yield l) #[] #[]] ++ ns, wd.alloc (.loop rec), hen, ?_, fun _ _ => trivial, ?_, fun hd => by simp [fw, Fence.wide] at hd, ?_⟩
  · simp only [resolve, hm, Deferred.ofValue, Sem.run_bind, Sem.run_pure, Result.andThen_ok]
    simp [Act.eval]
  · simp only [invoke, run_call_enter hf]
  have hargs' : VRs (wd.alloc (.loop rec)) (okc (subC C (jset j σ.nx (some L)) (aset σ.tab σ.nx (.lp .ready ⟨ps, asg, bd, σ.n⟩ σ.env)) (σ.nx + 1) (wd.alloc (.loop rec))) (Own (jset j σ.nx (some L)) (aset σ.tab σ.nx (.lp .ready ⟨ps, asg, bd, σ.n⟩ σ.env))) (wd.alloc (.loop rec))) (jset j σ.nx (some L)) (σ.nx + 1) (fs ++ [.yld σ.nx] ++ cs) (ms ++ #[.func (.yield l) #[] #[]] ++ ns) :=
    ⟨hms1.1, fun i v hv => (hms1.2 i v hv).mono (fun k hk => ⟨⟨hk.1, hk.2.1, .inl hk⟩, rfl⟩) (fun b hb => ⟨rfl, hb⟩)⟩
  refine calls_fw ((h (subC C (jset j σ.nx (some L)) (aset σ.tab σ.nx (.lp .ready ⟨ps, asg, bd, σ.n⟩ σ.env)) (σ.nx + 1) (wd.alloc (.loop rec))) (jset j σ.nx (some L)) _ _ rfl rfl rfl rfl hm1.sub hargs').mono fun e w' he => ?_)
  cases e with
  | outgrown => exact he.elim
  | panicked ch =>
    obtain ⟨j', tab', nx', r, m, h1, rfl, h2, h3⟩ := he
    have mv2 := hm1.unsub hr.lo (Nat.le_succ_of_le hr.lx) h1
    exact ⟨.panic r, ⟨σ.env, tab', nx', σ.lo, σ.n⟩, j', .panic (h2.mono (fun k hk => ⟨okc_sub hm1 hk, rfl⟩) (fun b hb => ⟨rfl, hb⟩)), hr1.moves (σ := ⟨σ.env, _, σ.nx + 1, σ.lo, σ.n⟩) mv2, h3⟩
  | returned m =>
    obtain ⟨j', tab', nx', r, h1, h2, h3⟩ := he
    have mv2 := hm1.unsub hr.lo (Nat.le_succ_of_le hr.lx) h1
    have hj2 : j' σ.nx = some L := (h1.agree σ.nx (Nat.lt_succ_self _)).trans (jset_same _ _)
    have hr2 := hr1.moves (σ := ⟨σ.env, _, σ.nx + 1, σ.lo, σ.n⟩) mv2
    have over : ∀ (s : LSt) (c : LpC) (env : List (Nat × V)) (jump : Option Code), aget tab' σ.nx = some (.lp s c env) → (∀ q : Loop, s.is q → q.state ≠ .busy ∧ q.pending = jump) →
        ∃ w4, (Instr.endLoop l).run P w' = .ok jump w4 ∧ ERel WG C j' ⟨σ.env, adel tab' σ.nx, nx', σ.lo, σ.n⟩ { a with defers := mark ++ a.defers } w4 := by
      intro s c env jump hb hs
      obtain ⟨l', q, hl', hh, hst, _⟩ := mv2.mem.blk σ.nx _ hb
      have e : l' = L := by rw [hj2] at hl'; exact (Option.some.inj hl').symm
      subst e
      obtain ⟨hs1, hs2⟩ := hs q hst
      have mv3 := mv2.mem.turnLp (s' := .over) (r' := { q with state := .exhausted }) mv2.lx hb hj2 hh rfl rfl rfl rfl trivial
      have mv4 := Moves.del mv3.mem mv3.lx σ.nx
      have hd : adel (aset tab' σ.nx (.lp .over c env)) σ.nx = adel tab' σ.nx := by
        have : ∀ t : Tab, adel (aset t σ.nx (.lp .over c env)) σ.nx = adel t σ.nx := by
          intro t
          induction t with
          | nil => simp [aset, adel]
          | cons p r ih =>
            obtain ⟨k, z⟩ := p
            by_cases e : k = σ.nx
            · simp [aset, adel, e]
            · simp only [aset, if_neg e, adel, ih]
        exact this _
      rw [hd] at mv4
      refine ⟨_, ?_, hr2.moves (σ := ⟨σ.env, tab', nx', σ.lo, σ.n⟩) (mv3.trans mv4)⟩
      rw [← hs2, hl]; exact run_endLoop hh hs1
    unfold loopQ at h3
    split at h3
    · rename_i c env hb
      obtain ⟨w4, h4, h5⟩ := over _ _ _ none hb (fun q hq => ⟨by rw [hq.1]; simp, hq.2⟩)
      exact ⟨none, w4, h4, .normal, _, j', .normal, h5, h3⟩
    · rename_i c q env hb
      obtain ⟨w4, h4, h5⟩ := over _ _ _ (some c) hb (fun q hq => ⟨by rw [hq.1]; simp, hq.2⟩)
      exact ⟨some c, w4, h4, h3 C j' _ w4 h5⟩
    · exact h3.elim

theorem loopQ_eq (σ : St) (r : V) (t : Tab) (n : Nat) : loopQ P WG Q σ r t n = (match aget t σ.nx with
  | some (.lp .ready _ _) => Q .normal ⟨σ.env, adel t σ.nx, n, σ.lo, σ.n⟩
  | some (.lp (.done c) _ _) => T P WG c ⟨σ.env, adel t σ.nx, n, σ.lo, σ.n⟩ Q
  | _ => False) := rfl
theorem roundQ_normal (K : V → Tab → Nat → Prop) (b : Nat) (c : LpC) (env : List (Nat × V)) (σ : St) : roundQ K b c env .normal σ = (aget σ.tab b = none → K (.p (.v (.bool true))) (aset σ.tab b (.lp .ready c env)) σ.nx) := rfl
theorem roundQ_ret (K : V → Tab → Nat → Prop) (b : Nat) (c : LpC) (env : List (Nat × V)) (σ : St) : roundQ K b c env .ret σ = (aget σ.tab b = none → K (.p (.v (.bool false))) (aset σ.tab b (.lp (.done .ret) c env)) σ.nx) := rfl
theorem roundQ_exit (K : V → Tab → Nat → Prop) (b : Nat) (c : LpC) (env : List (Nat × V)) (i : Nat) (σ : St) : roundQ K b c env (.exit i) σ = (aget σ.tab b = none → K (.p (.v (.bool false))) (aset σ.tab b (.lp (.done (.exit i)) c env)) σ.nx) := rfl
theorem roundQ_goto (K : V → Tab → Nat → Prop) (b : Nat) (c : LpC) (env : List (Nat × V)) (i : Nat) (σ : St) : roundQ K b c env (.goto i) σ = (aget σ.tab b = none → K (.p (.v (.bool false))) (aset σ.tab b (.lp (.done (.goto i)) c env)) σ.nx) := rfl

end
end Go.Gp
