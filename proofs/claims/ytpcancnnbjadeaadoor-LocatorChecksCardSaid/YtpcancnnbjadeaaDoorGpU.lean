/-
  Own memory seen as data.
-/
import Derived.Test.YtpcancnnbjadeaaDoorGpS
set_option linter.unusedSimpArgs false
set_option linter.unusedVariables false
namespace Go.Gp
open Go.RowKit

/-- A value over local memory, as the data that it shows. -/
def snap1 (tab : Tab) : V → Option PV
  | .p x => some x
  | .osl b s lo len _ =>
    match aget tab b with
    | some (.arr s' xs _) => if s' = s ∧ lo + len ≤ xs.length then some (.sl s ((xs.drop lo).take len)) else none
    | _ => none
  | .zc => some (.sl 1 [])
  | _ => none
def snapL (tab : Tab) : List V → Option (List PV)
  | [] => some []
  | x :: r => match snap1 tab x, snapL tab r with | some y, some l => some (y :: l) | _, _ => none
/-- Rows, pairs too. -/
def snap (tab : Tab) : V → Option V
  | .agg cs => match snapL tab cs with | some l => some (.p (.agg l)) | none => none
  | .ifc t x => match snap1 tab x with | some y => some (.p (.ifc t y)) | none => none
  | x => match snap1 tab x with | some y => some (.p y) | none => none
def snapT (tab : Tab) : List V → Option (List V)
  | [] => some []
  | x :: r => match snap tab x, snapT tab r with | some y, some l => some (y :: l) | _, _ => none
def snapR (tab : Tab) : V → Option V
  | .tup vs => match snapT tab vs with | some l => some (.tup l) | none => none
  | x => snap tab x

section
variable {P : Program} {WG : World}

theorem VR.snap1 {C : Ctx} {j : Nat → Option Loc} {tab : Tab} {nx : Nat} {w : World} {ok : Nat → Prop} (hm : MemR WG C j tab nx w) (hok : ∀ k, okc C (Own j tab) w k → ok k) (hown : ∀ k, Own j tab k → ok k) {v : V} {m : Value} {y : PV}
    (hv : VR w (okc C (Own j tab) w) j nx v m) (h : snap1 tab v = some y) : PR w ok y m := by
  have hmono : ∀ {x m}, PR w (okc C (Own j tab) w) x m → PR w ok x m := fun h => h.mono (fun k hk => ⟨hok k hk, rfl⟩)
  cases v with
  | p x => simp only [Gp.snap1] at h; cases h; cases hv with | p hp => exact hmono hp
  | zc => simp only [Gp.snap1] at h; cases h; cases hv; exact .nil
  | osl b s lo len cap =>
    simp only [Gp.snap1] at h
    split at h
    · rename_i s' xs gr hb
      split at h
      · rename_i hc
        obtain ⟨rfl, hle⟩ := hc
        cases h
        have hblk := hm.blk b _ hb
        cases hv with
        | oslNil => simp only [List.take_zero]; exact .nil
        | oslEnd => simp only [List.take_zero]; exact .nil
        | @osl b s lo len cap l c q hbn hl hq hlen hcp hsm hn =>
          rcases hblk with ⟨hl', _⟩ | ⟨l', ms, e, fr, hl', hh, hfr, hs, hx, hg, h0, h1, hr⟩
          · rw [hl] at hl'; cases hl'
          · obtain rfl : l' = l := by rw [hl] at hl'; exact (Option.some.inj hl').symm
            have hget : ∀ (i : Nat) x, ((xs.drop lo).take len)[i]? = some x → xs[lo + i]? = some x ∧ i < len := fun i x hi => by
              have h3 := (List.getElem?_eq_some_iff.1 hi).1
              simp at h3
              rw [List.getElem?_take] at hi
              rw [if_pos (by omega), List.getElem?_drop] at hi
              exact ⟨hi, by omega⟩
            have hmul : ∀ i k, l'.off + ((lo + i) * s' + k) = q + (i * s' + k) := fun i k => by rw [hq, Nat.add_mul]; omega
            refine .sl (fun k => ms.getD (q + k) undef) (by simp; omega) (hown _ ⟨b, _, l', hb, hl, rfl⟩) hlen (fun k hk => ?_) (fun i x hx' => h0 _ x (hget i x hx').1) (fun i k x y hx' hy => h1 _ k x y (hget i x hx').1 hy) (fun i k x y hx' hy => ?_)
            · have h4 : lo * s' + len * s' ≤ l'.cap * s' := by rw [← Nat.add_mul]; exact Nat.mul_le_mul_right _ (by omega)
              rw [cell_row hh, Array.getElem?_eq_getElem (by omega)]
              simp [Array.getD, show q + k < ms.size by omega]
            · have h5 := hr _ k x y (hget i x hx').1 hy
              rw [hmul] at h5
              exact hmono h5
      · cases h
    · cases h
  | _ => simp [Gp.snap1] at h

theorem snap1_one {tab : Tab} {v : V} {y : PV} (h : Gp.snap1 tab v = some y) (h1 : v.one = true) : y.one = true := by
  cases v with
  | p x => simp only [Gp.snap1] at h; cases h; exact h1
  | zc => simp only [Gp.snap1] at h; cases h; rfl
  | osl b s lo len cap =>
    simp only [Gp.snap1] at h
    split at h
    · split at h
      · cases h; rfl
      · cases h
    · cases h
  | _ => simp [Gp.snap1] at h
theorem snapL_get {tab : Tab} : ∀ {cs : List V} {l : List PV}, snapL tab cs = some l → l.length = cs.length ∧ ∀ (i : Nat) y, l[i]? = some y → ∃ c, cs[i]? = some c ∧ Gp.snap1 tab c = some y
  | [], l, h => by simp [snapL] at h; subst h; simp
  | c :: r, l, h => by
    simp only [snapL] at h
    split at h
    · rename_i y l' hy hl
      cases h
      obtain ⟨h1, h2⟩ := snapL_get hl
      refine ⟨by simp [h1], fun i z hz => ?_⟩
      rcases i with _ | i
      · simp at hz; subst hz; exact ⟨c, rfl, hy⟩
      · simpa using h2 i z (by simpa using hz)
    · cases h
theorem snapT_get {tab : Tab} : ∀ {cs : List V} {l : List V}, snapT tab cs = some l → l.length = cs.length ∧ ∀ (i : Nat) y, l[i]? = some y → ∃ c, cs[i]? = some c ∧ Gp.snap tab c = some y
  | [], l, h => by simp [snapT] at h; subst h; simp
  | c :: r, l, h => by
    simp only [snapT] at h
    split at h
    · rename_i y l' hy hl
      cases h
      obtain ⟨h1, h2⟩ := snapT_get hl
      refine ⟨by simp [h1], fun i z hz => ?_⟩
      rcases i with _ | i
      · simp at hz; subst hz; exact ⟨c, rfl, hy⟩
      · simpa using h2 i z (by simpa using hz)
    · cases h

theorem VR.snap {C : Ctx} {j : Nat → Option Loc} {tab : Tab} {nx : Nat} {w : World} {ok : Nat → Prop} (hm : MemR WG C j tab nx w) (hok : ∀ k, okc C (Own j tab) w k → ok k) (hown : ∀ k, Own j tab k → ok k) {v y : V} {m : Value}
    (hv : VR w (okc C (Own j tab) w) j nx v m) (h : Gp.snap tab v = some y) {j' : Nat → Option Loc} {nx' : Nat} : VR w ok j' nx' y m := by
  have one : ∀ {v y}, VR w (okc C (Own j tab) w) j nx v m → (match Gp.snap1 tab v with | some y => some (V.p y) | none => none) = some y → VR w ok j' nx' y m := by
    intro v y hv h
    split at h
    · rename_i z hz; cases h; exact .p (hv.snap1 hm hok hown hz)
    · cases h
  cases v with
  | agg cs =>
    simp only [Gp.snap] at h
    split at h
    · rename_i l hl
      cases h
      obtain ⟨h1, h2⟩ := snapL_get hl
      cases hv with
      | agg hlen hone hrel =>
        refine .p (.agg (hlen.trans h1.symm) (fun i c hi => ?_) (fun i c hi => ?_))
        · obtain ⟨d, hd, hs⟩ := h2 i c hi; exact snap1_one hs (hone i d hd)
        · obtain ⟨d, hd, hs⟩ := h2 i c hi; exact (hrel i d hd).snap1 hm hok hown hs
    · cases h
  | ifc t x =>
    simp only [Gp.snap] at h
    split at h
    · rename_i z hz
      cases h
      cases hv with
      | ifc hx => exact .p (.ifc (hx.snap1 hm hok hown hz))
    · cases h
  | _ => exact one hv h

theorem VR.snapR {C : Ctx} {j : Nat → Option Loc} {tab : Tab} {nx : Nat} {w : World} {ok : Nat → Prop} (hm : MemR WG C j tab nx w) (hok : ∀ k, okc C (Own j tab) w k → ok k) (hown : ∀ k, Own j tab k → ok k) {v y : V} {m : Value}
    (hv : VR w (okc C (Own j tab) w) j nx v m) (h : Gp.snapR tab v = some y) {j' : Nat → Option Loc} {nx' : Nat} : VR w ok j' nx' y m := by
  cases v with
  | tup vs =>
    simp only [Gp.snapR] at h
    split at h
    · rename_i l hl
      cases h
      obtain ⟨h1, h2⟩ := snapT_get hl
      cases hv with
      | tup hlen hrel =>
        refine .tup (hlen.trans h1.symm) (fun i c hi => ?_)
        obtain ⟨d, hd, hs⟩ := h2 i c hi; exact (hrel i d hd).snap hm hok hown hs
    · cases h
  | _ => exact hv.snap hm hok hown h

/-- At the end own memory is let go; what the result shows of it is data from then on. -/
theorem CallT.pureS {f : FuncId} {ps : List PV} {r : V} (hp : pureR r = true) (h : CallT P WG f (ps.map .p) [] 0 (fun r' t _ => Gp.snapR t r' = some r) noP) : FV P WG f ps r := by
  intro tab nx
  have h0 : CallT P WG f (ps.map .p) [] 0 (fun r' t n => r' = r ∧ t = [] ∧ n = 0) noP := by
    intro C j w ms h1 h2 h3 h4 hm hvs
    refine (h C j w ms h1 h2 h3 h4 hm hvs).mono fun e w' he => ?_
    cases e with
    | panicked ch => obtain ⟨_, _, _, _, _, _, _, _, d⟩ := he; exact d.elim
    | outgrown => exact he.elim
    | returned m =>
      obtain ⟨j', t, n, r', a, b, hs⟩ := he
      have hno : ∀ (j : Nat → Option Loc) k, ¬ Own j ([] : Tab) k := fun j k ⟨b, x, l, hb, _⟩ => by simp [aget] at hb
      have hok : ∀ k, okc C (Own j' t) w' k → okc C (Own j' []) w' k := fun k hk => ⟨hk.1, hno j' k, hk.2.2⟩
      have hown : ∀ k, Own j' t k → okc C (Own j' []) w' k := fun k hk => by
        refine ⟨a.own_lt hk, hno j' k, .inr ?_⟩
        rcases a.own k hk with h5 | h5
        · rw [h3] at h5; exact (hno j k h5).elim
        · exact h5
      refine ⟨j', [], 0, _, ?_, b.snapR a hok hown hs, rfl, rfl, rfl⟩
      exact {
          nb := by rw [h1]; exact Nat.le_refl _
          low := fun b x hb => by simp [aget] at hb
          blk := fun b x hb => by simp [aget] at hb
          apart := fun b b' x x' l l' hb => by simp [aget] at hb
          agree := fun b hb => by rw [h1] at hb; exact absurd hb (Nat.not_lt_zero _)
          own := fun k hk => (hno j' k hk).elim
          ownG := fun k hk => (hno j' k hk).elim
          size := a.size
          keep := a.keep
          os := a.os
          tape := a.tape
          output := a.output
          glob := a.glob
          rd := a.rd }
  refine h0.frame (fun r' t n hq => ?_) (fun r' t n hq => hq)
  obtain ⟨rfl, rfl, rfl⟩ := hq
  exact ⟨V.sh_pure hp, by simp [tsh], rfl⟩

end
end Go.Gp
