/-
  Pure: the two readings of a host agree.
-/
import Derived.Test.YtpcancnnbjadeaaDoorLj
set_option linter.unusedSimpArgs false
set_option linter.unusedVariables false
namespace Go.Proofs.YtpcancnnbjadeaaDoor
open Go Go.Gp

/-- The pieces between the bytes 'c'. -/
def spl (c : UInt8) : List UInt8 → List (List UInt8)
  | [] => [[]]
  | b :: l => if b = c then [] :: spl c l else
    match spl c l with
    | h :: t => (b :: h) :: t
    | [] => [[b]]
theorem spl_cons (c : UInt8) (l : List UInt8) : ∃ h t, spl c l = h :: t := by
  cases l with
  | nil => exact ⟨_, _, rfl⟩
  | cons b l =>
    simp only [spl]
    split
    · exact ⟨_, _, rfl⟩
    · split <;> exact ⟨_, _, rfl⟩
theorem index_one (b c : UInt8) (l : List UInt8) : Lib.index (b :: l) [c] = if b = c then 0 else if Lib.index l [c] = -1 then -1 else Lib.index l [c] + 1 := by
  rw [Lib.index]
  by_cases h : b = c
  · subst h; simp [List.isPrefixOf]
  · have : (c == b) = false := by simpa using fun e => h e.symm
    simp [List.isPrefixOf, this, h]
theorem spl_index (c : UInt8) : ∀ l : List UInt8, (Lib.index l [c] = -1 → spl c l = [l]) ∧ ∀ i : Nat, Lib.index l [c] = i → spl c l = l.take i :: spl c (l.drop (i + 1))
  | [] => by
    refine ⟨fun _ => rfl, fun i h => ?_⟩
    have : Lib.index [] [c] = -1 := by simp [Lib.index]
    omega
  | b :: l => by
    obtain ⟨h1, h2⟩ := spl_index c l
    have hge := Lib.index_ge l [c]
    rw [index_one]
    by_cases h : b = c
    · rw [if_pos h]
      refine ⟨fun h => by omega, fun i hi => ?_⟩
      have : i = 0 := by omega
      subst this
      simp [spl, h]
    · rw [if_neg h]
      refine ⟨fun hm => ?_, fun i hi => ?_⟩
      · split at hm
        · rename_i hm'; simp [spl, h, h1 hm']
        · omega
      · split at hi
        · omega
        · obtain ⟨k, rfl⟩ : ∃ k, i = k + 1 := ⟨i - 1, by omega⟩
          have := h2 k (by omega)
          simp [spl, h, this]

theorem extract_list (s : ByteArray) (a b : Nat) : (s.extract a b).data.toList = (s.data.toList.drop a).take (b - a) := by
  simp [ByteArray.data_extract, List.extract_eq_take_drop]
theorem splitB_spl (c : UInt8) : ∀ (k : Nat) (s : ByteArray), Lib.countB s ⟨#[c]⟩ = k → (Lib.splitB ⟨#[c]⟩ 0 k s).map (·.data.toList) = spl c s.data.toList
  | 0, s, hk => by
    rcases Lib.indexB_cases s ⟨#[c]⟩ with hix | ⟨i, hix, _⟩
    · have := (spl_index c s.data.toList).1 hix
      rw [this]; rfl
    · have := Lib.countB_hit s ⟨#[c]⟩ i (Nat.le_refl 1) hix; omega
  | k + 1, s, hk => by
    rcases Lib.indexB_cases s ⟨#[c]⟩ with hix | ⟨i, hix, _⟩
    · have := Lib.countB_miss s ⟨#[c]⟩ hix; omega
    · have h1 := Lib.countB_hit s ⟨#[c]⟩ i (Nat.le_refl 1) hix
      have h2 := (spl_index c s.data.toList).2 i hix
      have h3 := splitB_spl c k (s.extract (i + (⟨#[c]⟩ : ByteArray).size) s.size) (by omega)
      have h4 : (s.extract (i + (⟨#[c]⟩ : ByteArray).size) s.size).data.toList = s.data.toList.drop (i + 1) := Lib.extract_to_end s _
      rw [Lib.splitB_hit _ 0 k s i hix, List.map_cons, h3, h4, h2, extract_list]
      simp

def letU (c : UInt8) : Bool := letterB c.toNat
/-- What is wrong with a byte of a host. -/
def badU (c : UInt8) (first last : Bool) : Bool := (!letU c && !decide (c = 45) && !decide (c = 46)) || (decide (c = 46) && (first || last)) || (decide (c = 45) && (first || last))
def lastOf : List UInt8 → Bool
  | [] => true
  | d :: _ => decide (d = 46)
def okR : Bool → List UInt8 → Bool
  | _, [] => true
  | f, c :: l => !badU c f (lastOf l) && okR (decide (c = 46)) l
def badAt (f : Bool) (l : List UInt8) (i : Nat) : Bool :=
  match l[i]? with
  | none => false
  | some c => badU c (match i with | 0 => f | k + 1 => decide (l[k]? = some 46)) (match l[i + 1]? with | none => true | some d => decide (d = 46))
theorem okR_iff : ∀ (l : List UInt8) (f : Bool), okR f l = true ↔ ∀ i, badAt f l i = false
  | [], f => by simp [okR, badAt]
  | c :: l, f => by
    simp only [okR, Bool.and_eq_true, Bool.not_eq_true', okR_iff l]
    have e0 : badAt f (c :: l) 0 = badU c f (lastOf l) := by
      cases l <;> simp [badAt, lastOf]
    have e1 : ∀ i, badAt f (c :: l) (i + 1) = badAt (decide (c = 46)) l i := by
      intro i
      cases i with
      | zero => cases l <;> simp [badAt]
      | succ i => simp [badAt]
    refine ⟨fun ⟨h1, h2⟩ i => ?_, fun h => ⟨by rw [← e0]; exact h 0, fun i => by rw [← e1]; exact h (i + 1)⟩⟩
    cases i with
    | zero => rw [e0]; exact h1
    | succ i => rw [e1]; exact h2 i

def lowU (c : UInt8) : Bool := letU c || decide (c = 45)
def labelL (p : List UInt8) : Bool := !p.isEmpty && decide (p.head? ≠ some 45) && decide (p.getLast? ≠ some 45) && p.all lowU

theorem okR_spl : ∀ l : List UInt8, (l ≠ [] → okR true l = (spl 46 l).all labelL) ∧ ∀ h t, spl 46 l = h :: t → okR false l = (h.all lowU && decide (h.getLast? ≠ some 45) && t.all labelL)
  | [] => ⟨fun h => absurd rfl h, fun h t e => by simp [spl] at e; obtain ⟨rfl, rfl⟩ := e; simp [okR]⟩
  | c :: l => by
    obtain ⟨h1, h2⟩ := okR_spl l
    obtain ⟨h, t, e⟩ := spl_cons 46 l
    have h3 := h2 h t e
    by_cases hc : c = 46
    · subst hc
      have hl : letU 46 = false := by decide
      have e' : spl 46 (46 :: l) = [] :: spl 46 l := by simp [spl]
      refine ⟨fun _ => ?_, fun h' t' e1 => ?_⟩
      · rw [e']; simp [okR, badU, labelL]
      · rw [e'] at e1
        injection e1 with e2 e3
        subst e2 e3
        cases l with
        | nil => simp [okR, badU, lastOf, spl, labelL]
        | cons d l =>
          have := h1 (by simp)
          by_cases hd : d = 46
          · subst hd; simp [okR, badU, lastOf, spl, labelL]
          · simp [okR, badU, lastOf, hd, hl] at this ⊢
            rw [this]
    · have e' : spl 46 (c :: l) = (c :: h) :: t := by simp [spl, hc, e]
      have hlast : lastOf l = h.isEmpty := by
        cases l with
        | nil => simp [spl] at e; obtain ⟨rfl, rfl⟩ := e; rfl
        | cons d l =>
          obtain ⟨a, b, e2⟩ := spl_cons 46 l
          by_cases hd : d = 46
          · subst hd; simp [spl] at e; obtain ⟨rfl, _⟩ := e; simp [lastOf]
          · simp [spl, hd, e2] at e; obtain ⟨rfl, _⟩ := e; simp [lastOf, hd]
      have hgl : (c :: h).getLast? = if h.isEmpty then some c else h.getLast? := by
        cases h <;> simp
      have h45 : letU 45 = false := by decide
      refine ⟨fun _ => ?_, fun h' t' e1 => ?_⟩
      · rw [e']
        simp only [okR, hc, decide_false, h3, List.all_cons, labelL, hgl, badU, hlast]
        by_cases hm : c = 45
        · subst hm; simp [h45]
        · cases hh : h with
          | nil => cases hu : letU c <;> simp [lowU, hm, hu]
          | cons a b => cases hu : letU c <;> simp [lowU, hm, hu, Bool.and_comm, Bool.and_assoc, Bool.and_left_comm]
      · rw [e'] at e1
        injection e1 with e2 e3
        subst e2 e3
        simp only [okR, hc, decide_false, h3, List.all_cons, hgl, badU, hlast]
        by_cases hm : c = 45
        · subst hm
          cases hh : h with
          | nil => simp [h45]
          | cons a b => simp [h45, lowU]
        · cases hh : h with
          | nil => cases hu : letU c <;> simp [lowU, hm, hu]
          | cons a b => cases hu : letU c <;> simp [lowU, hm, hu]
end Go.Proofs.YtpcancnnbjadeaaDoor
