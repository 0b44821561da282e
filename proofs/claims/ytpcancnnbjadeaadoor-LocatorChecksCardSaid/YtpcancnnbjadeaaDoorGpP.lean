/-
  Regions that draw their order: what is evaluated in the listed order holds in every order that the edges allow.
-/
import Derived.Test.YtpcancnnbjadeaaDoorGpO
import Derived.Orders
set_option linter.unusedSimpArgs false
set_option linter.unusedVariables false
namespace Go.Gp
open Go.RowKit

/-! ### Who waits for whom. -/
def ancStep (o : Oper) (tbl : List Nat) : Nat :=
  o.after.toList.foldl (fun acc e => if Region.binds .any e then acc ||| 2 ^ e.on ||| tbl.getD e.on 0 else acc) 0
def ancTbl : List Oper → List Nat → List Nat
  | [], tbl => tbl
  | o :: l, tbl => ancTbl l (tbl ++ [ancStep o tbl])
def reach (tbl : List Nat) (j i : Nat) : Bool := (tbl.getD i 0).testBit j

def Closed (ops : Array Oper) (L : Nat → Prop) : Prop := ∀ (i : Nat) o, ops[i]? = some o → L i → ∀ e ∈ o.after, Region.binds .any e = true → L e.on

section
variable {ops : Array Oper}

def TblOk (ops : Array Oper) (tbl : List Nat) : Prop := ∀ i j, i < tbl.length → (tbl.getD i 0).testBit j = true → ∀ L : Nat → Prop, Closed ops L → L i → L j

theorem anc_fold (tbl : List Nat) (j : Nat) : ∀ (l : List Edge) (acc : Nat),
    (l.foldl (fun acc e => if Region.binds .any e then acc ||| 2 ^ e.on ||| tbl.getD e.on 0 else acc) acc).testBit j = true →
    acc.testBit j = true ∨ ∃ e ∈ l, Region.binds .any e = true ∧ (e.on = j ∨ (tbl.getD e.on 0).testBit j = true)
  | [], acc, h => .inl h
  | e :: l, acc, h => by
    simp only [List.foldl_cons] at h
    rcases anc_fold tbl j l _ h with h | ⟨e', h1, h2⟩
    · by_cases hb : Region.binds .any e = true
      · rw [if_pos hb] at h
        simp only [Nat.testBit_or, Bool.or_eq_true, Nat.testBit_two_pow, decide_eq_true_eq] at h
        rcases h with (h | h) | h
        · exact .inl h
        · exact .inr ⟨e, List.mem_cons_self, hb, .inl h⟩
        · exact .inr ⟨e, List.mem_cons_self, hb, .inr h⟩
      · rw [if_neg hb] at h; exact .inl h
    · exact .inr ⟨e', List.mem_cons_of_mem _ h1, h2⟩

theorem anc_ok : ∀ (l : List Oper) (tbl : List Nat), (∀ q, ops[tbl.length + q]? = l[q]?) → TblOk ops tbl → TblOk ops (ancTbl l tbl)
  | [], _, _, h => h
  | o :: l, tbl, hl, h => by
    refine anc_ok l _ (fun q => ?_) (fun i j hi hb L hc hL => ?_)
    · have := hl (q + 1)
      rw [List.getElem?_cons_succ] at this
      rw [← this]; simp only [List.length_append, List.length_cons, List.length_nil]; congr 1; omega
    · simp only [List.length_append, List.length_cons, List.length_nil] at hi
      by_cases e : i < tbl.length
      · have : (tbl ++ [ancStep o tbl]).getD i 0 = tbl.getD i 0 := by
          simp only [List.getD_eq_getElem?_getD]; rw [List.getElem?_append_left e]
        rw [this] at hb
        exact h i j e hb L hc hL
      · have hi' : i = tbl.length := by omega
        subst hi'
        have : (tbl ++ [ancStep o tbl]).getD tbl.length 0 = ancStep o tbl := by simp [List.getD_eq_getElem?_getD]
        rw [this] at hb
        have ho : ops[tbl.length]? = some o := by simpa using hl 0
        rcases anc_fold tbl j _ _ hb with h0 | ⟨e', h1, h2, h3⟩
        · simp at h0
        · have hL' := hc _ o ho hL e' (by simpa using h1) h2
          rcases h3 with rfl | h3
          · exact hL'
          · by_cases e2 : e'.on < tbl.length
            · exact h _ j e2 h3 L hc hL'
            · rw [List.getD_eq_getElem?_getD, List.getElem?_eq_none (by omega)] at h3
              simp at h3

theorem reach_spec {i j : Nat} (h : reach (ancTbl ops.toList []) j i = true) {L : Nat → Prop} (hc : Closed ops L) (hL : L i) : L j := by
  by_cases hi : i < (ancTbl ops.toList []).length
  · exact anc_ok (ops := ops) ops.toList [] (fun q => by simp) (fun i j hi => by simp at hi) i j hi h L hc hL
  · unfold reach at h
    rw [List.getD_eq_getElem?_getD, List.getElem?_eq_none (by omega)] at h
    simp at h

def pairOk (ops : Array Oper) (tbl : List Nat) (i j : Nat) (o p : Oper) : Bool :=
  match p.dst with
  | none => true
  | some d => (i == j || o.dst != some d) && (!(o.looksAt ops).contains d || i == j || (if j < i then reach tbl j i else reach tbl i j))

/-- The order in which the operations are listed is one of those that may be drawn; who reads a slot is ordered to who writes it; so are those that touch memory. -/
def drawOk (ops : Array Oper) (M : List Nat) : Bool :=
  ((List.range ops.size).all fun i => match ops[i]? with
    | none => true
    | some o => o.after.all (fun e => !Region.binds .any e || decide (e.on < i)) &&
      (List.range ops.size).all fun j => match ops[j]? with
        | none => true
        | some p => pairOk ops (ancTbl ops.toList []) i j o p) &&
  M.all fun m => M.all fun m' => m == m' || (if m < m' then reach (ancTbl ops.toList []) m m' else reach (ancTbl ops.toList []) m' m)

structure DrawOk (ops : Array Oper) (M : List Nat) : Prop where
  before : ∀ (i : Nat) o, ops[i]? = some o → ∀ e ∈ o.after, Region.binds .any e = true → e.on < i
  dst : ∀ (i j : Nat) o p d, ops[i]? = some o → ops[j]? = some p → i ≠ j → p.dst = some d → o.dst ≠ some d
  look : ∀ (i j : Nat) o p d, ops[i]? = some o → ops[j]? = some p → i ≠ j → p.dst = some d → d ∈ o.looksAt ops → if j < i then reach (ancTbl ops.toList []) j i = true else reach (ancTbl ops.toList []) i j = true
  mem : ∀ m ∈ M, ∀ m' ∈ M, m < m' → reach (ancTbl ops.toList []) m m' = true

theorem drawOk_spec {M : List Nat} (h : drawOk ops M = true) : DrawOk ops M := by
  simp only [drawOk, Bool.and_eq_true, List.all_eq_true, List.mem_range] at h
  obtain ⟨h1, h2⟩ := h
  have lt : ∀ {i : Nat} {o}, ops[i]? = some o → i < ops.size := fun h => (Array.getElem?_eq_some_iff.1 h).1
  have key : ∀ {i : Nat} {o}, ops[i]? = some o → (∀ e ∈ o.after, Region.binds .any e = true → e.on < i) ∧ ∀ {j : Nat} {p}, ops[j]? = some p → pairOk ops (ancTbl ops.toList []) i j o p = true := by
    intro i o ho
    have := h1 i (lt ho)
    simp only [ho, Bool.and_eq_true, List.all_eq_true, List.mem_range] at this
    refine ⟨fun e he hb => ?_, fun hp => ?_⟩
    · have h3 := Array.all_eq_true_iff_forall_mem.1 this.1 e he
      simpa [hb] using h3
    · rename_i j p
      have h3 := this.2 j (lt hp)
      simpa [hp] using h3
  refine ⟨fun i o ho => (key ho).1, fun i j o p d ho hp hne hd => ?_, fun i j o p d ho hp hne hd hl => ?_, fun m hm m' hm' hlt => ?_⟩
  · have := (key ho).2 hp
    simp only [pairOk, hd, Bool.and_eq_true, Bool.or_eq_true, beq_iff_eq, bne_iff_ne] at this
    exact this.1.resolve_left hne
  · have := (key ho).2 hp
    simp only [pairOk, hd, Bool.and_eq_true, Bool.or_eq_true, beq_iff_eq, Bool.not_eq_true'] at this
    have h3 := (this.2.resolve_left (fun h => h.elim (fun h => by simp [hl] at h) hne))
    split <;> simp_all
  · have h3 := h2 m hm m' hm'
    simp only [Bool.or_eq_true, beq_iff_eq] at h3
    have := h3.resolve_left (by omega)
    simpa [hlt] using this
end

end Go.Gp
