/-
  The chapter's examples.
  What joining, splitting and containing have to do with each other.
-/
import Derived.Test.YtpcancnnbjadeaaDoorMD
set_option linter.unusedSimpArgs false
set_option linter.unusedVariables false
set_option maxRecDepth 20000
namespace Go.Proofs.YtpcancnnbjadeaaDoor
open Go Go.Gp

set_option maxHeartbeats 4000000 in
theorem refused_fv (WG : World) (g : GW WG) (ge : GE WG) (s : ByteArray) : FV Tryd.prog WG 32 [.v (.string s)] (vB (decide (lParse s = none))) := by
  refine CallT.pure rfl (CallT_fn Tryd.func32 (rs := [.tmp 2]) (n := 17) rfl rfl (Nat.le_of_ble_eq_true rfl) rfl ?_)
  simp only [push_cast, reduceIte, Nat.reduceEqDiff, Nat.reduceAdd, Nat.reduceLT, Nat.reduceLeDiff, reduceCtorEq, Int.reduceToNat]
  refine parse_call (lParse_ct0 WG g ge s) (fun h => ?_) (fun l h => ?_)
  · simp only [locZ, push_cast, reduceIte, Nat.reduceEqDiff, Nat.reduceAdd, Nat.reduceLT, Nat.reduceLeDiff, reduceCtorEq, Int.reduceToNat]
    refine ⟨vB true, (sameZ_fv WG).q rfl, ?_⟩
    simp only [push_cast, reduceIte, Nat.reduceEqDiff, Nat.reduceAdd, Nat.reduceLT, Nat.reduceLeDiff, reduceCtorEq, Int.reduceToNat]
    simp [h]
  · have hpl := (val_of (lParse_some h).1).parts
    simp only [locO, arrO, push_cast, reduceIte, Nat.reduceEqDiff, Nat.reduceAdd, Nat.reduceLT, Nat.reduceLeDiff, reduceCtorEq, Int.reduceToNat]
    refine ⟨vB false, fun hx => absurd hx (by decide), ?_⟩
    simp only [push_cast, reduceIte, Nat.reduceEqDiff, Nat.reduceAdd, Nat.reduceLT, Nat.reduceLeDiff, reduceCtorEq, Int.reduceToNat]
    simp [h]

theorem refT (WG : World) (g : GW WG) (ge : GE WG) {s : ByteArray} (h : lParse s = none) {tab : Tab} {nx : Nat} : CallQ Tryd.prog WG 32 [vS s] tab nx (vB true) := by
  have := (refused_fv WG g ge s).q (tab := tab) (nx := nx) rfl
  rw [h] at this
  simpa using this

/-- A locator without parts, told by nil. -/
def locN (l : Locator) : PV := .agg [pU8 l.scheme, pS l.host, pI l.port, .v (.slice none 0 0), pB l.dir]
theorem sameS_fv (WG : World) (l : Locator) (h : l.parts.length < 1000) : FV Tryd.prog WG 17 [locP l, locP l] (vB true) := by
  simpa using same_fv WG l l h

def rOne : Locator := ⟨1, ⟨#[114, 101, 112, 111, 46, 101, 120, 97, 109, 112, 108, 101]⟩, 0, [⟨#[99, 97]⟩, ⟨#[111, 110, 101, 46, 99, 101, 114]⟩], false⟩
def rTwo : Locator := ⟨2, ⟨#[114, 101, 112, 111, 46, 101, 120, 97, 109, 112, 108, 101]⟩, 8443, [], true⟩

set_option maxHeartbeats 8000000 in
theorem alive_fv (WG : World) (g : GW WG) (ge : GE WG) : FV Tryd.prog WG 26 [] (vB true) := by
  refine CallT.pure rfl (CallT_fn Tryd.func26 (rs := [.tmp 0]) (n := 68) rfl rfl (Nat.le_of_ble_eq_true rfl) rfl ?_)
  simp only [push_cast, reduceIte, Nat.reduceEqDiff, Nat.reduceAdd, Nat.reduceLT, Nat.reduceLeDiff, reduceCtorEq, Int.reduceToNat]
  refine parse_call (lParse_ct0 WG g ge _) (fun h => absurd h (by decide +kernel)) (fun l h => ?_)
  obtain rfl : l = rOne := Option.some.inj (h.symm.trans (by decide +kernel))
  simp only [locO, arrO, push_cast, reduceIte, Nat.reduceEqDiff, Nat.reduceAdd, Nat.reduceLT, Nat.reduceLeDiff, reduceCtorEq, Int.reduceToNat]
  refine parse_call (lParse_ct0 WG g ge _) (fun h => absurd h (by decide +kernel)) (fun l h => ?_)
  obtain rfl : l = rTwo := Option.some.inj (h.symm.trans (by decide +kernel))
  simp only [locO, arrO, push_cast, reduceIte, Nat.reduceEqDiff, Nat.reduceAdd, Nat.reduceLT, Nat.reduceLeDiff, reduceCtorEq, Int.reduceToNat]
  refine (lwithin_fv WG g ge _ _).call rfl ?_
  rw [show withinO _ _ = (true, 0) by decide +kernel]
  simp only [eq_self, push_cast, reduceIte, Nat.reduceEqDiff, Nat.reduceAdd, Nat.reduceLT, Nat.reduceLeDiff, reduceCtorEq, Int.reduceToNat]
  refine ⟨_, (lkind_fv WG _ (by decide)).q rfl, ?_⟩
  rw [show kindI _ = 1 by decide +kernel]
  simp only [eq_self, push_cast, reduceIte, Nat.reduceEqDiff, Nat.reduceAdd, Nat.reduceLT, Nat.reduceLeDiff, reduceCtorEq, Int.reduceToNat]
  refine ⟨vB true, CallT.borrow (sameS_fv WG rOne (by decide)) rfl ?_, ?_⟩
  · simp [snapT, snap, snapL, snap1, aget, locP, rOne]
  simp only [eq_self, push_cast, reduceIte, Nat.reduceEqDiff, Nat.reduceAdd, Nat.reduceLT, Nat.reduceLeDiff, reduceCtorEq, Int.reduceToNat]
  refine ⟨vB true, CallT.borrow (ps := [locP rTwo, locN rTwo]) ((sameS_fv WG rTwo (by decide)).soft (by simp [softA, soft1, softL, softV, locP, locC, locN, rTwo])) rfl ?_, ?_⟩
  · simp [snapT, snap, snapL, snap1, aget, locP, locN, rTwo]
  simp only [eq_self, push_cast, reduceIte, Nat.reduceEqDiff, Nat.reduceAdd, Nat.reduceLT, Nat.reduceLeDiff, reduceCtorEq, Int.reduceToNat]
  iterate 6
    refine ⟨vB true, refT WG g ge (by decide +kernel), ?_⟩
    simp only [eq_self, push_cast, reduceIte, Nat.reduceEqDiff, Nat.reduceAdd, Nat.reduceLT, Nat.reduceLeDiff, reduceCtorEq, Int.reduceToNat]
end Go.Proofs.YtpcancnnbjadeaaDoor

namespace Go.Proofs.YtpcancnnbjadeaaDoor
open Go Go.Gp

theorem back_iff {l : Locator} (h : checkI l = 0) : lParse (refW l) = some l := (parse_iff _ _).2 ⟨h, rfl⟩

theorem splitO_dir {s : ByteArray} {l : Locator} (h : lParse s = some l) (hd : l.dir = true) : splitO s = (eB, eB, 2) := by
  simp only [splitO, h, hd, if_true]
theorem splitO_file {s : ByteArray} {l : Locator} (h : lParse s = some l) (hd : l.dir = false) : splitO s = (refW ⟨l.scheme, l.host, l.port, l.parts.take (l.parts.length - 1), true⟩, l.parts.getD (l.parts.length - 1) eB, 0) := by
  simp only [splitO, h, hd, Bool.false_eq_true, if_false]

/-- What is joined: the directory, the name. -/
theorem join_some {s t u : ByteArray} (h : joinO s t = (u, 0)) : ∃ l, lParse s = some l ∧ l.dir = true ∧ nameB t = true ∧ lParse u = some ⟨l.scheme, l.host, l.port, l.parts ++ [t], false⟩ := by
  unfold joinO at h
  cases hl : lParse s with
  | none => rw [hl] at h; cases h
  | some l =>
    rw [hl] at h
    simp only at h
    by_cases hd : l.dir = false ∨ nameB t = false
    · rw [if_pos hd] at h; cases h
    · rw [if_neg hd] at h
      rw [not_or, Bool.not_eq_false, Bool.not_eq_false] at hd
      unfold textO at h
      by_cases hc : checkI ⟨l.scheme, l.host, l.port, l.parts ++ [t], false⟩ = 0
      · rw [if_pos hc, Prod.mk.injEq] at h
        exact ⟨l, rfl, hd.1, hd.2, (parse_iff _ _).2 ⟨hc, h.1⟩⟩
      · rw [if_neg hc, Prod.mk.injEq] at h
        exact absurd h.2 hc

theorem join_split {s t u : ByteArray} (h : joinO s t = (u, 0)) : splitO u = (s, t, 0) ∧ withinO s u = (true, 0) ∧ nameB t = true := by
  obtain ⟨l, h1, h2, h3, h4⟩ := join_some h
  have hw := ((parse_iff _ _).1 h1).2
  have hl : (⟨l.scheme, l.host, l.port, l.parts, true⟩ : Locator) = l := by rw [← h2]
  refine ⟨?_, ?_, h3⟩
  · rw [splitO_file h4 rfl]
    simp only [List.length_append, List.length_singleton, Nat.add_sub_cancel, List.take_left, hl, hw]
    simp
  · simp only [withinO, h1, h4, h2, if_true]
    simp [holdsB]

theorem join_of {s t : ByteArray} {l : Locator} (h1 : lParse s = some l) (h2 : l.dir = true) (h3 : nameB t = true) : joinO s t = textO ⟨l.scheme, l.host, l.port, l.parts ++ [t], false⟩ := by
  simp only [joinO, h1, h2, h3, Bool.true_eq_false, or_self, if_false]

theorem check_split {l : Locator} {p : List ByteArray} {n : ByteArray} (h : checkI l = 0) (hp : l.parts = p ++ [n]) (hd : l.dir = false) : checkI ⟨l.scheme, l.host, l.port, p, true⟩ = 0 := by
  have v := val_of h
  have hlen : l.parts.length = p.length + 1 := by rw [hp]; simp
  have hsz : (refW ⟨l.scheme, l.host, l.port, p, true⟩).size ≤ (refW l).size := by
    have e1 : refW l = wrParts (wr1 l) p ++ bsl' ++ n := by
      rw [refW, hd, hp, if_neg (by simp), wrParts_snoc]
    have e2 : refW ⟨l.scheme, l.host, l.port, p, true⟩ = wrParts (wr1 l) p ++ bsl' := by
      rw [refW, if_pos (by simp)]; rfl
    rw [e1, e2]; simp only [ByteArray.size_append]; omega
  have hb : badB l = false := by
    cases hb : badB l with
    | false => rfl
    | true =>
      unfold checkI at h
      rw [if_neg (by have := v.parts; omega), if_pos hb] at h
      cases h
  have hb2 : badB ⟨l.scheme, l.host, l.port, p, true⟩ = false := by
    simp only [badB, Bool.or_eq_false_iff] at hb ⊢
    simp [hb]
  unfold checkI
  have := v.parts; have := v.size
  rw [if_neg (by simp only; omega), if_neg (by simp [hb2]), if_neg, if_neg (by omega)]
  simp only [List.any_eq_true, Bool.not_eq_true', not_exists, not_and, Bool.not_eq_false]
  exact fun q hq => v.part q (by rw [hp]; exact List.mem_append_left _ hq)

theorem split_join {s d n : ByteArray} (h : splitO s = (d, n, 0)) : joinO d n = (s, 0) := by
  unfold splitO at h
  cases hl : lParse s with
  | none => rw [hl] at h; cases h
  | some l =>
    rw [hl] at h
    simp only at h
    cases hd : l.dir with
    | true => rw [hd, if_pos rfl] at h; cases h
    | false =>
      rw [hd, if_neg Bool.false_ne_true, Prod.mk.injEq, Prod.mk.injEq] at h
      obtain ⟨rfl, rfl, _⟩ := h
      obtain ⟨hc, hw⟩ := (parse_iff _ _).1 hl
      have hlen := val_len hc hd
      have hp : l.parts = l.parts.take (l.parts.length - 1) ++ [l.parts.getD (l.parts.length - 1) eB] := by
        rw [List.getD_eq_getElem?_getD, List.getElem?_eq_getElem (by omega), Option.getD_some]
        have := List.take_concat_get (l := l.parts) (i := l.parts.length - 1) (by omega)
        rw [show l.parts.length - 1 + 1 = l.parts.length by omega, List.take_length] at this
        simpa using this.symm
      have hc2 := check_split hc hp hd
      rw [join_of (back_iff hc2) rfl ((val_of hc).part _ (by
        rw [List.getD_eq_getElem?_getD, List.getElem?_eq_getElem (by omega), Option.getD_some]; exact List.getElem_mem _))]
      simp only
      rw [← hp, show (⟨l.scheme, l.host, l.port, l.parts, false⟩ : Locator) = l by rw [← hd], textO, if_pos hc, hw]

theorem split_none {s : ByteArray} (h : (splitO s).2.2 ≠ 0) : (splitO s).1 = eB ∧ (splitO s).2.1 = eB := by
  unfold splitO at h ⊢
  split
  · exact ⟨rfl, rfl⟩
  · split
    · exact ⟨rfl, rfl⟩
    · rename_i h1 h2; simp only [h1, h2] at h; exact absurd rfl h

/-- What containing means, where it is said. -/
theorem within_zero {s t : ByteArray} (h : (withinO s t).2 = 0) : ∃ d l, lParse s = some d ∧ lParse t = some l ∧ d.dir = true ∧ (withinO s t).1 = holdsB d l := by
  unfold withinO at h ⊢
  split at h
  · rename_i d l h1 h2
    rw [h1, h2]
    split at h
    · rename_i hd; exact ⟨d, l, rfl, rfl, hd, by simp only [hd, if_true]⟩
    · cases h
  · cases h
theorem within_bad {s t : ByteArray} (h : (withinO s t).2 ≠ 0) : (withinO s t).1 = false := by
  unfold withinO at h ⊢
  split
  · rename_i d l h1 h2
    rw [h1, h2] at h
    simp only at h ⊢
    split
    · rename_i hd; rw [if_pos hd] at h; exact absurd rfl h
    · rfl
  · rfl
theorem holds_iff {d l : Locator} : holdsB d l = true ↔ d.scheme = l.scheme ∧ d.host = l.host ∧ d.port = l.port ∧ d.parts.length ≤ l.parts.length ∧ l.parts.take d.parts.length = d.parts ∧ (d.parts.length < l.parts.length ∨ l.dir = true) := by
  simp only [holdsB, Bool.and_eq_true, Bool.or_eq_true, decide_eq_true_eq, and_assoc]
theorem within_self {a : ByteArray} (h : (withinO a a).2 = 0) : (withinO a a).1 = true := by
  obtain ⟨d, l, h1, h2, h3, h4⟩ := within_zero h
  obtain rfl : d = l := Option.some.inj (h1.symm.trans h2)
  rw [h4, holds_iff]
  exact ⟨rfl, rfl, rfl, Nat.le_refl _, List.take_length, .inr h3⟩
theorem within_anti {a b : ByteArray} (h1 : withinO a b = (true, 0)) (h2 : withinO b a = (true, 0)) : a = b := by
  obtain ⟨d, l, p1, p2, p3, p4⟩ := within_zero (by rw [h1])
  obtain ⟨l', d', q1, q2, q3, q4⟩ := within_zero (by rw [h2])
  obtain rfl : l = l' := Option.some.inj (p2.symm.trans q1)
  obtain rfl : d = d' := Option.some.inj (p1.symm.trans q2)
  rw [h1] at p4; rw [h2] at q4
  obtain ⟨e1, e2, e3, e4, e5, _⟩ := holds_iff.1 p4.symm
  obtain ⟨f1, f2, f3, f4, f5, _⟩ := holds_iff.1 q4.symm
  have hpp : d.parts = l.parts := by rw [← e5, show d.parts.length = l.parts.length by omega, List.take_length]
  have : d = l := by
    cases d; cases l
    simp only at e1 e2 e3 hpp p3 q3
    subst e1; subst e2; subst e3; subst hpp; subst p3; subst q3; rfl
  subst this
  rw [← ((parse_iff _ _).1 p1).2, ← ((parse_iff _ _).1 p2).2]
theorem within_trans {a b c : ByteArray} (h1 : withinO a b = (true, 0)) (h2 : withinO b c = (true, 0)) (h3 : (withinO a c).2 = 0) : (withinO a c).1 = true := by
  obtain ⟨d, l, p1, p2, p3, p4⟩ := within_zero (by rw [h1])
  obtain ⟨l', m, q1, q2, q3, q4⟩ := within_zero (by rw [h2])
  obtain ⟨d', m', r1, r2, r3, r4⟩ := within_zero h3
  obtain rfl : l = l' := Option.some.inj (p2.symm.trans q1)
  obtain rfl : d = d' := Option.some.inj (p1.symm.trans r1)
  obtain rfl : m = m' := Option.some.inj (q2.symm.trans r2)
  rw [h1] at p4; rw [h2] at q4
  obtain ⟨e1, e2, e3, e4, e5, e6⟩ := holds_iff.1 p4.symm
  obtain ⟨f1, f2, f3, f4, f5, f6⟩ := holds_iff.1 q4.symm
  rw [r4, holds_iff]
  refine ⟨e1.trans f1, e2.trans f2, e3.trans f3, by omega, ?_, ?_⟩
  · have h6 : l.parts.take d.parts.length = m.parts.take d.parts.length := by
      rw [← f5, List.take_take]; congr 1; omega
    rw [← h6, e5]
  · rcases f6 with h | h
    · exact .inl (by omega)
    · exact .inr h

set_option maxHeartbeats 8000000 in
theorem once_fv (WG : World) (g : GW WG) (ge : GE WG) (s : ByteArray) : FV Tryd.prog WG 7 [.v (.string s)] (vB true) := by
  refine CallT.pure rfl (CallT_fn Tryd.func7 (rs := [.tmp 2]) (n := 49) rfl rfl (Nat.le_of_ble_eq_true rfl) rfl ?_)
  simp only [push_cast, reduceIte, Nat.reduceEqDiff, Nat.reduceAdd, Nat.reduceLT, Nat.reduceLeDiff, reduceCtorEq, Int.reduceToNat]
  refine (alive_fv WG g ge).call rfl ?_
  simp only [push_cast, reduceIte, Nat.reduceEqDiff, Nat.reduceAdd, Nat.reduceLT, Nat.reduceLeDiff, reduceCtorEq, Int.reduceToNat]
  refine fun h1 => ?_
  have hs : s.size ≤ 500 := by simp at h1; omega
  refine parse_call (lParse_ct0 WG g ge s) (fun h => ?_) (fun l h => ?_)
  · simp only [locZ, push_cast, reduceIte, Nat.reduceEqDiff, Nat.reduceAdd, Nat.reduceLT, Nat.reduceLeDiff, reduceCtorEq, Int.reduceToNat]
    refine ⟨fun _ => ⟨vB true, (sameZ_fv WG).q rfl, ?_⟩, fun h => absurd h (by decide)⟩
    simp only [push_cast, reduceIte, Nat.reduceEqDiff, Nat.reduceAdd, Nat.reduceLT, Nat.reduceLeDiff, reduceCtorEq, Int.reduceToNat]
  · have hc := (lParse_some h).1
    have hw := (lParse_some h).2
    have hpl := (val_of hc).parts
    simp only [locO, arrO, push_cast, reduceIte, Nat.reduceEqDiff, Nat.reduceAdd, Nat.reduceLT, Nat.reduceLeDiff, reduceCtorEq, Int.reduceToNat]
    refine (ltext_fv WG g _ (val_ok hc)).lend (textV_flat _) (by simp [snapT, snap, snapL, snap1, aget, locP]; exact List.take_of_length_le (by simp)) ?_
    rw [textV_eq, textO, if_pos hc, hw]
    simp only [push_cast, reduceIte, Nat.reduceEqDiff, Nat.reduceAdd, Nat.reduceLT, Nat.reduceLeDiff, reduceCtorEq, Int.reduceToNat]
    simp [strEq]

set_option maxHeartbeats 8000000 in
theorem back_fv (WG : World) (g : GW WG) (ge : GE WG) (l : Locator) : FV Tryd.prog WG 6 [locP l] (vB true) := by
  refine CallT.pure rfl (CallT_fn Tryd.func6 (rs := [.tmp 2]) (n := 54) rfl rfl (Nat.le_of_ble_eq_true rfl) rfl ?_)
  simp only [locP, push_cast, reduceIte, Nat.reduceEqDiff, Nat.reduceAdd, Nat.reduceLT, Nat.reduceLeDiff, reduceCtorEq, Int.reduceToNat]
  refine (alive_fv WG g ge).call rfl ?_
  simp only [push_cast, reduceIte, Nat.reduceEqDiff, Nat.reduceAdd, Nat.reduceLT, Nat.reduceLeDiff, reduceCtorEq, Int.reduceToNat]
  refine (great_fv WG l).call rfl ?_
  simp only [push_cast, reduceIte, Nat.reduceEqDiff, Nat.reduceAdd, Nat.reduceLT, Nat.reduceLeDiff, reduceCtorEq, Int.reduceToNat]
  refine fun h1 => ?_
  have hk := okL_of h1
  refine (ltext_fv WG g l hk).call rfl ?_
  by_cases hc : checkI l = 0
  · rw [textV_eq, textO, if_pos hc]
    simp only [push_cast, reduceIte, Nat.reduceEqDiff, Nat.reduceAdd, Nat.reduceLT, Nat.reduceLeDiff, reduceCtorEq, Int.reduceToNat]
    refine parse_call (lParse_ct0 WG g ge _) (fun h => by rw [back_iff hc] at h; cases h) (fun l' h => ?_)
    obtain rfl : l = l' := Option.some.inj ((back_iff hc).symm.trans h)
    have hpl := (val_of hc).parts
    have hsz := (val_of hc).size
    simp only [locO, arrO, push_cast, reduceIte, Nat.reduceEqDiff, Nat.reduceAdd, Nat.reduceLT, Nat.reduceLeDiff, reduceCtorEq, Int.reduceToNat]
    refine ⟨vB true, CallT.borrow (sameS_fv WG l (by omega)) rfl ?_, ?_⟩
    · simp [snapT, snap, snapL, snap1, aget, locP]; exact List.take_of_length_le (by simp)
    simp only [push_cast, reduceIte, Nat.reduceEqDiff, Nat.reduceAdd, Nat.reduceLT, Nat.reduceLeDiff, reduceCtorEq, Int.reduceToNat]
    simp; omega
  · rw [textV_eq, textO, if_neg hc]
    simp only [push_cast, reduceIte, Nat.reduceEqDiff, Nat.reduceAdd, Nat.reduceLT, Nat.reduceLeDiff, reduceCtorEq, Int.reduceToNat]
    refine ⟨fun _ => ⟨_, fun _ => (lcheck_fv WG g l hk).q rfl, ?_⟩, fun h => ?_⟩
    · simp only [push_cast, reduceIte, Nat.reduceEqDiff, Nat.reduceAdd, Nat.reduceLT, Nat.reduceLeDiff, reduceCtorEq, Int.reduceToNat]
      simp [strEq, eB]
    · simp only [Bool.not_eq_false', decide_eq_true_eq] at h
      exact absurd h hc
end Go.Proofs.YtpcancnnbjadeaaDoor
