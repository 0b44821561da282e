/-
  Pure: the program's host is the reference's.
-/
import Derived.Test.YtpcancnnbjadeaaDoorLk
set_option linter.unusedSimpArgs false
set_option linter.unusedVariables false
namespace Go.Proofs.YtpcancnnbjadeaaDoor
open Go Go.Gp

theorem get_list {s : ByteArray} {k : Nat} (h : k < s.size) : s.data.toList[k]? = some (bAt s k) := by
  unfold bAt
  have h' : k < s.data.toList.length := by rw [len_list]; exact h
  rw [List.getD_eq_getElem?_getD, List.getElem?_eq_getElem h']; rfl
theorem get_none {s : ByteArray} {k : Nat} (h : s.size ≤ k) : s.data.toList[k]? = none := List.getElem?_eq_none (by rw [len_list]; exact h)
theorem u8_eq (c : UInt8) (n : Nat) (h : n < 256) : ((c.toNat : Int) = (n : Int)) ↔ c = UInt8.ofNat n := by
  rw [← UInt8.toNat_inj, UInt8.toNat_ofNat']
  omega

theorem hostBad_at (s : ByteArray) (i : Nat) (h : i < s.size) : hostBad s i = badAt true s.data.toList i := by
  have e0 : cAt s (i : Int) = ((bAt s i).toNat : Int) := by simp [cAt]
  have e45 : decide (cAt s (i : Int) = 45) = decide (bAt s i = 45) := by rw [e0]; exact decide_eq_decide.2 (u8_eq _ 45 (by decide))
  have e46 : decide (cAt s (i : Int) = 46) = decide (bAt s i = 46) := by rw [e0]; exact decide_eq_decide.2 (u8_eq _ 46 (by decide))
  have el : letterB (cAt s (i : Int)) = letU (bAt s i) := by rw [e0]; rfl
  have ef : firstB s i = (match (generalizing := false) i with | 0 => true | k + 1 => decide (s.data.toList[k]? = some 46)) := by
    cases i with
    | zero => simp [firstB]
    | succ k =>
      have : cAt s (((k + 1 : Nat) : Int) - 1) = ((bAt s k).toNat : Int) := by
        have : ((((k + 1 : Nat) : Int) - 1)).toNat = k := by omega
        rw [cAt, this]
      have e1 : decide (((bAt s k).toNat : Int) = 46) = decide (bAt s k = 46) := decide_eq_decide.2 (u8_eq _ 46 (by decide))
      simp only [firstB, this, e1, get_list (show k < s.size by omega), Option.some.injEq]
      rw [decide_eq_false (show ¬ ((k + 1 : Nat) : Int) = 0 by omega)]; rfl
  have eL : lastB s i = (match s.data.toList[i + 1]? with | none => true | some d => decide (d = 46)) := by
    rcases Nat.lt_or_ge (i + 1) s.size with h1 | h1
    · have : cAt s ((i : Int) + 1) = ((bAt s (i + 1)).toNat : Int) := by
        have : ((i : Int) + 1).toNat = i + 1 := by omega
        rw [cAt, this]
      have e1 : decide (((bAt s (i + 1)).toNat : Int) = 46) = decide (bAt s (i + 1) = 46) := decide_eq_decide.2 (u8_eq _ 46 (by decide))
      simp only [lastB, this, e1, get_list h1]
      rw [decide_eq_false (show ¬ (i : Int) = s.size - 1 by omega)]; rfl
    · rw [get_none h1]
      simp only [lastB]
      rw [decide_eq_true (show (i : Int) = s.size - 1 by omega)]; rfl
  simp only [hostBad, badAt, get_list h, e45, e46, el, ef, eL, badU]
  cases i <;> rfl

theorem hostB_ok (s : ByteArray) : hostB s = (decide (1 ≤ s.size ∧ s.size ≤ 60) && okR true s.data.toList) := by
  have : decide (∀ i, i < s.size → hostBad s i = false) = okR true s.data.toList := by
    rw [Bool.eq_iff_iff, decide_eq_true_eq, okR_iff]
    refine ⟨fun h i => ?_, fun h i hi => by rw [hostBad_at s i hi]; exact h i⟩
    rcases Nat.lt_or_ge i s.size with h1 | h1
    · rw [← hostBad_at s i h1]; exact h i h1
    · simp only [badAt, get_none h1]
  rw [hostB, this]

theorem lowB_eq (c : UInt8) : lowB c.toNat = lowU c := by
  have h45 : decide (c = 45) = decide (c.toNat = 45) := decide_eq_decide.2 (by rw [← UInt8.toNat_inj]; rfl)
  rw [lowU, h45, letU]
  generalize c.toNat = n
  rw [Bool.eq_iff_iff]
  simp only [lowB, classOf, letterB, decide_eq_true_eq, Bool.or_eq_true, Bool.and_eq_true]
  split
  · exact ⟨fun _ => .inl (by omega), fun _ => by decide⟩
  · split
    · exact ⟨fun h => absurd h (by decide), fun h => by omega⟩
    · split
      · rename_i h; exact ⟨fun _ => .inr h, fun _ => by decide⟩
      · split
        · exact ⟨fun h => absurd h (by decide), fun h => by omega⟩
        · split
          · exact ⟨fun h => absurd h (by decide), fun h => by omega⟩
          · exact ⟨fun h => absurd h (by decide), fun h => by omega⟩

theorem sufL (c : UInt8) (l : List UInt8) : ([c] : List UInt8).isSuffixOf l = decide (l.getLast? = some c) := by
  rw [Bool.eq_iff_iff, List.isSuffixOf_iff_suffix, decide_eq_true_eq]
  refine ⟨fun ⟨t, ht⟩ => by rw [← ht]; simp, fun h => ?_⟩
  obtain ⟨t, ht⟩ := List.getLast?_eq_some_iff.1 h
  exact ⟨t, ht.symm⟩
theorem preL (c : UInt8) (l : List UInt8) : ([c] : List UInt8).isPrefixOf l = decide (l.head? = some c) := by
  cases l with
  | nil => simp [List.isPrefixOf]
  | cons d l =>
    simp only [List.isPrefixOf, List.head?_cons, Option.some.injEq]
    by_cases h : c = d
    · subst h; simp
    · have h' : ¬ d = c := fun e => h e.symm
      simp [h, h']

theorem labelB_eq (s : ByteArray) : labelB s = labelL s.data.toList := by
  have e1 : strEq s ⟨#[]⟩ = s.data.toList.isEmpty := by
    rw [Bool.eq_iff_iff, strEq_iff, List.isEmpty_iff]
    exact ⟨fun h => by rw [h], fun h => bytes_ext (by rw [h])⟩
  have e4 : decide (∀ i, i < s.size → lowB (bAt s i).toNat = true) = s.data.toList.all lowU := by
    rw [Bool.eq_iff_iff, decide_eq_true_eq, List.all_eq_true]
    refine ⟨fun h x hx => ?_, fun h i hi => ?_⟩
    · obtain ⟨k, hk⟩ := List.mem_iff_getElem?.1 hx
      have hlt : k < s.size := by
        rcases Nat.lt_or_ge k s.size with h1 | h1
        · exact h1
        · rw [get_none h1] at hk; cases hk
      rw [get_list hlt] at hk; cases hk
      rw [← lowB_eq]; exact h k hlt
    · rw [lowB_eq]; exact h _ (List.mem_of_getElem? (get_list hi))
  simp only [labelB, labelL, e1, e4, Lib.hasPrefix, Lib.hasSuffix, sufL, preL, decide_not]

theorem lhostB_eq (s : ByteArray) : lhostB s = hostB s := by
  rw [hostB_ok, lhostB]
  by_cases h : 1 ≤ s.size ∧ s.size ≤ 60
  · rw [decide_eq_true h, Bool.true_and, Bool.true_and]
    have hne : s.data.toList ≠ [] := fun e => by have := len_list s; rw [e] at this; simp at this; omega
    rw [(okR_spl _).1 hne, ← splitB_spl 46 _ s rfl, List.all_map]
    show (labelsOf s).all labelB = (labelsOf s).all (labelL ∘ fun x => x.data.toList)
    congr 1
    funext p
    exact labelB_eq p
  · rw [decide_eq_false h, Bool.false_and, Bool.false_and]
end Go.Proofs.YtpcancnnbjadeaaDoor
