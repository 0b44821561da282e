/-
  Octets of numbers, strings, lists and short digests, and what reads them. No program in sight.
  A certificate as octets, and back. No program in sight.
  The octets of a certificate are valid. No program in sight.
-/
import Derived.Test.YtgekglfmianoeaaGreatDoorOA
import Derived.Test.YtgekglfmianoeaaGreatDoorCB
set_option linter.unusedSimpArgs false
set_option linter.unusedVariables false
set_option maxRecDepth 20000
namespace Go.Proofs.YtgekglfmianoeaaGreatDoor
open Go Go.Gp
theorem numP_snoc (l : List UInt8) (c : UInt8) : numP (l ++ [c]) = numP l * 256 + c.toNat := by
  unfold numP; rw [List.foldl_append]; rfl
theorem numP_numF : ∀ (k x : Nat), x < 256 ^ k → numP (numF k x) = x
  | 0, x, h => by have : x = 0 := by simpa using h
                  subst this; rfl
  | k + 1, x, h => by
    rw [numF]
    split
    · rename_i h0; subst h0; rfl
    · rw [numP_snoc, numP_numF k (x / 256) (by rw [Nat.pow_succ] at h; exact Nat.div_lt_of_lt_mul (by omega)), ou8_mod]
      omega
theorem numP_numB {x : Nat} (h : x < 18446744073709551616) : numP (numB x) = x := numP_numF 9 x (by omega)
theorem numF_head : ∀ (k x : Nat), x < 256 ^ k → (numF k x).head? ≠ some 0
  | 0, x, h => by simp [numF]
  | k + 1, x, h => by
    rw [numF]
    split
    · simp
    · rename_i h0
      have hx : x / 256 < 256 ^ k := by rw [Nat.pow_succ] at h; exact Nat.div_lt_of_lt_mul (by omega)
      have ih := numF_head k (x / 256) hx
      cases hl : numF k (x / 256) with
      | nil =>
        have e := numP_numF k (x / 256) hx
        rw [hl] at e
        have e0 : x / 256 = 0 := by rw [← e]; rfl
        intro hc
        simp only [List.nil_append, List.head?_cons, Option.some.injEq] at hc
        have := congrArg UInt8.toNat hc
        rw [ou8_mod] at this
        have : x % 256 = 0 := this
        omega
      | cons a r => rw [hl] at ih; simpa using ih
theorem numB_head {x : Nat} (h : x < 18446744073709551616) : (numB x).head? ≠ some 0 := numF_head 9 x (by omega)
theorem numF_length : ∀ k x : Nat, (numF k x).length ≤ k
  | 0, x => by simp [numF]
  | k + 1, x => by
    rw [numF]
    split
    · simp
    · have := numF_length k (x / 256); simp; omega
theorem numB_le8 {x : Nat} (h : x < 18446744073709551616) : (numB x).length ≤ 8 := by
  rw [numB, numF_eq 9 8 x (by omega) (by omega)]; exact numF_length 8 x
theorem numP_pos : ∀ (l : List UInt8), l ≠ [] → l.head? ≠ some 0 → numP l ≠ 0 := by
  intro l
  have key : ∀ (r : List UInt8) (a : Nat), a ≠ 0 → r.foldl (fun n c => n * 256 + c.toNat) a ≠ 0 := by
    intro r
    induction r with
    | nil => intro a h; exact h
    | cons x r ih => intro a h; exact ih (a * 256 + x.toNat) (by omega)
  cases l with
  | nil => intro h; exact absurd rfl h
  | cons x r =>
    intro _ h
    refine key r (0 * 256 + x.toNat) ?_
    have : x.toNat ≠ 0 := fun e => h (by simp only [List.head?_cons, Option.some.injEq]; exact UInt8.toNat_inj.1 e)
    omega
theorem numP_lt' (l : List UInt8) : numP l < 256 ^ l.length := by
  have key : ∀ (l : List UInt8) (a : Nat), l.foldl (fun n c => n * 256 + c.toNat) a < (a + 1) * 256 ^ l.length := by
    intro l
    induction l with
    | nil => intro a; simp
    | cons x r ih =>
      intro a
      simp only [List.foldl_cons, List.length_cons]
      have h1 := ih (a * 256 + x.toNat)
      have h2 : x.toNat < 256 := x.toNat_lt
      have h3 : (a * 256 + x.toNat + 1) * 256 ^ r.length ≤ ((a + 1) * 256) * 256 ^ r.length := Nat.mul_le_mul_right _ (by omega)
      rw [Nat.pow_succ, Nat.mul_comm (256 ^ r.length) 256, ← Nat.mul_assoc]
      omega
  have := key l 0
  simpa [numP] using this
theorem numB_numP : ∀ (k : Nat) (l : List UInt8), l.length ≤ k → k ≤ 8 → l.head? ≠ some 0 → numB (numP l) = l
  | 0, l, hk, _, _ => by
    have : l = [] := List.length_eq_zero_iff.1 (by omega)
    subst this; rfl
  | k + 1, l, hk, hk8, hh => by
    rcases List.eq_nil_or_concat l with rfl | ⟨r, c, rfl⟩
    · rfl
    · simp only [List.concat_eq_append] at hk hh ⊢
      have hlt : numP (r ++ [c]) < 256 ^ 8 := Nat.lt_of_lt_of_le (numP_lt' _) (Nat.pow_le_pow_right (by decide) (by simp only [List.length_append, List.length_cons, List.length_nil] at hk ⊢; omega))
      have hpos := numP_pos (r ++ [c]) (by simp) hh
      rw [numB_step hpos (by omega), numP_snoc]
      have hc : c.toNat < 256 := c.toNat_lt
      have e1 : (numP r * 256 + c.toNat) / 256 = numP r := by omega
      have e2 : UInt8.ofNat (numP r * 256 + c.toNat) = c := by
        apply UInt8.toNat_inj.1; rw [ou8_mod]; omega
      rw [e1, e2, numB_numP k r (by simp at hk; omega) (by omega) (by
        cases r with
        | nil => simp
        | cons a r => simpa using hh)]

def numO (t : UInt8) (x : Nat) : Oct := .mk t (numB x) []
def strO (t : UInt8) (s : List UInt8) : Oct := .mk t s []
def seqO (t : UInt8) (l : List Oct) : Oct := .mk t [] l
def okNum (t : UInt8) (m : Nat) (v : Oct) : Bool := decide (v.tag = t) && v.list.isEmpty && decide (v.bytes.length ≤ 8) && !decide (v.bytes.head? = some 0) && decide (numP v.bytes ≤ m)
def okHead (t : UInt8) (v : Oct) : Bool := decide (v.tag = t) && v.list.isEmpty && decide (v.bytes.length ≤ 8) && !decide (v.bytes.head? = some 0)
theorem okNum_head (t : UInt8) (m : Nat) (v : Oct) : okNum t m v = (okHead t v && decide (numP v.bytes ≤ m)) := rfl
def getNum (t : UInt8) (m : Nat) (v : Oct) : Nat := if okNum t m v then numP v.bytes else 0
def okStr (t : UInt8) (m : Nat) (v : Oct) : Bool := decide (v.tag = t) && v.list.isEmpty && decide (v.bytes.length ≤ m)
def getStr (t : UInt8) (m : Nat) (v : Oct) : List UInt8 := if okStr t m v then v.bytes else []
def okSeq (t : UInt8) (lo hi : Nat) (v : Oct) : Bool := decide (v.tag = t) && v.bytes.isEmpty && decide (lo ≤ v.list.length) && decide (v.list.length ≤ hi)
def zO : Oct := .mk 0 [] []
def getSeq (t : UInt8) (lo hi : Nat) (v : Oct) : List Oct := if okSeq t lo hi v then v.list else List.replicate lo zO
theorem getNum_le (t : UInt8) (m : Nat) (v : Oct) : getNum t m v ≤ m := by
  unfold getNum
  split
  · rename_i h; simp only [okNum, Bool.and_eq_true, decide_eq_true_eq] at h; exact h.2
  · omega
theorem okNum_O (t : UInt8) {m x : Nat} (h : x ≤ m) (hx : x < 18446744073709551616) : okNum t m (numO t x) = true ∧ getNum t m (numO t x) = x := by
  have : okNum t m (numO t x) = true := by
    simp [okNum, numO, Oct.tag, Oct.list, Oct.bytes, numP_numB hx, numB_head hx, numB_le8 hx, h]
  refine ⟨this, ?_⟩
  rw [getNum, if_pos this]
  exact numP_numB hx
theorem O_okNum {t : UInt8} {m : Nat} {v : Oct} (h : okNum t m v = true) : numO t (getNum t m v) = v := by
  rw [getNum, if_pos h]
  simp only [okNum, Bool.and_eq_true, decide_eq_true_eq, List.isEmpty_iff, Bool.not_eq_true', decide_eq_false_iff_not] at h
  obtain ⟨t', b, l⟩ := v
  simp only [Oct.tag, Oct.list, Oct.bytes] at h ⊢
  obtain ⟨⟨⟨⟨rfl, rfl⟩, h3⟩, h4⟩, h5⟩ := h
  rw [numO, numB_numP 8 b h3 (Nat.le_refl _) h4]
theorem okStr_O (t : UInt8) {m : Nat} {s : List UInt8} (h : s.length ≤ m) : okStr t m (strO t s) = true ∧ getStr t m (strO t s) = s := by
  have : okStr t m (strO t s) = true := by simp [okStr, strO, Oct.tag, Oct.list, Oct.bytes, h]
  exact ⟨this, by rw [getStr, if_pos this]; rfl⟩
theorem O_okStr {t : UInt8} {m : Nat} {v : Oct} (h : okStr t m v = true) : strO t (getStr t m v) = v := by
  rw [getStr, if_pos h]
  simp only [okStr, Bool.and_eq_true, decide_eq_true_eq, List.isEmpty_iff] at h
  obtain ⟨t', b, l⟩ := v
  simp only [Oct.tag, Oct.list, Oct.bytes] at h ⊢
  obtain ⟨⟨rfl, rfl⟩, h3⟩ := h
  rfl
theorem getStr_le (t : UInt8) (m : Nat) (v : Oct) : (getStr t m v).length ≤ m := by
  unfold getStr
  split
  · rename_i h; simp only [okStr, Bool.and_eq_true, decide_eq_true_eq] at h; exact h.2
  · simp
theorem okSeq_O (t : UInt8) {lo hi : Nat} {l : List Oct} (h1 : lo ≤ l.length) (h2 : l.length ≤ hi) : okSeq t lo hi (seqO t l) = true ∧ getSeq t lo hi (seqO t l) = l := by
  have : okSeq t lo hi (seqO t l) = true := by simp [okSeq, seqO, Oct.tag, Oct.list, Oct.bytes, h1, h2]
  exact ⟨this, by rw [getSeq, if_pos this]; rfl⟩
theorem O_okSeq {t : UInt8} {lo hi : Nat} {v : Oct} (h : okSeq t lo hi v = true) : seqO t (getSeq t lo hi v) = v := by
  rw [getSeq, if_pos h]
  simp only [okSeq, Bool.and_eq_true, decide_eq_true_eq, List.isEmpty_iff] at h
  obtain ⟨t', b, l⟩ := v
  simp only [Oct.tag, Oct.list, Oct.bytes] at h ⊢
  obtain ⟨⟨⟨rfl, rfl⟩, h3⟩, h4⟩ := h
  rfl
theorem getSeq_len {t : UInt8} {lo hi : Nat} (h : lo ≤ hi) (v : Oct) : lo ≤ (getSeq t lo hi v).length ∧ (getSeq t lo hi v).length ≤ hi := by
  unfold getSeq
  split
  · rename_i h; simp only [okSeq, Bool.and_eq_true, decide_eq_true_eq] at h; exact ⟨h.1.2, h.2⟩
  · simp [h]

def joinB (l : List (List Nat)) : List UInt8 := l.flatMap fun x => x.map UInt8.ofNat
def padB (x : List Nat) : List Nat := x ++ List.replicate (16 - x.length) 0
def cutF : Nat → List UInt8 → List (List Nat)
  | 0, _ => []
  | k + 1, l => if l = [] then [] else padB ((l.take 16).map UInt8.toNat) :: cutF k (l.drop 16)
def cutH (l : List UInt8) : List (List Nat) := cutF l.length l
theorem joinB_cons (x : List Nat) (l : List (List Nat)) : joinB (x :: l) = x.map UInt8.ofNat ++ joinB l := rfl
theorem joinB_len : ∀ (l : List (List Nat)), (∀ x ∈ l, x.length = 16) → (joinB l).length = 16 * l.length
  | [], _ => rfl
  | x :: r, h => by
    rw [joinB_cons, List.length_append, List.length_map, h x (by simp), joinB_len r fun y hy => h y (by simp [hy])]
    simp only [List.length_cons]; omega
theorem toNat_map {x : List Nat} (h : ∀ y ∈ x, y < 256) : (x.map UInt8.ofNat).map UInt8.toNat = x := by
  rw [List.map_map]
  conv => rhs; rw [← List.map_id x]
  exact List.map_congr_left fun y hy => by simp only [Function.comp, id, ou8_nat (h y hy)]
theorem ofNat_map (l : List UInt8) : (l.map UInt8.toNat).map UInt8.ofNat = l := by
  rw [List.map_map]
  conv => rhs; rw [← List.map_id l]
  exact List.map_congr_left fun y _ => by simp only [Function.comp, id, ou8_of]
theorem padB_16 {x : List Nat} (h : x.length = 16) : padB x = x := by simp [padB, h]
theorem cut_join : ∀ (l : List (List Nat)) (k : Nat), (∀ x ∈ l, x.length = 16 ∧ ∀ y ∈ x, y < 256) → l.length ≤ k → cutF k (joinB l) = l
  | [], k, _, _ => by cases k <;> rfl
  | x :: r, 0, _, hk => by simp at hk
  | x :: r, k + 1, h, hk => by
    obtain ⟨h1, h2⟩ := h x (by simp)
    have hl : (x.map UInt8.ofNat).length = 16 := by rw [List.length_map, h1]
    have hne : ¬ x.map UInt8.ofNat ++ joinB r = [] := fun e => by have := congrArg List.length e; rw [List.length_append, hl] at this; simp at this
    rw [cutF, joinB_cons, if_neg hne, List.take_left' hl, List.drop_left' hl, toNat_map h2, padB_16 h1, cut_join r _ (fun y hy => h y (by simp [hy])) (by simpa using hk)]
theorem cutH_join {l : List (List Nat)} (h : ∀ x ∈ l, x.length = 16 ∧ ∀ y ∈ x, y < 256) : cutH (joinB l) = l := by
  unfold cutH
  exact cut_join l _ h (by rw [joinB_len l fun x hx => (h x hx).1]; omega)
theorem join_cut : ∀ (m k : Nat) (l : List UInt8), l.length = 16 * m → m ≤ k → joinB (cutF k l) = l
  | 0, k, l, h, _ => by
    have : l = [] := List.length_eq_zero_iff.1 (by omega)
    subst this; cases k <;> rfl
  | m + 1, 0, l, h, hk => by omega
  | m + 1, k + 1, l, h, hk => by
    have hne : ¬ l = [] := fun e => by rw [e, List.length_nil] at h; omega
    have h16 : ((l.take 16).map UInt8.toNat).length = 16 := by rw [List.length_map, List.length_take]; omega
    rw [cutF, if_neg hne, joinB_cons, padB_16 h16, ofNat_map, join_cut m k _ (by rw [List.length_drop]; omega) (by omega), List.take_append_drop]
theorem join_cutH {l : List UInt8} (h : l.length % 16 = 0) : joinB (cutH l) = l := join_cut (l.length / 16) _ l (by omega) (by omega)
theorem cutF_all : ∀ (k : Nat) (l : List UInt8), ∀ x ∈ cutF k l, x.length = 16 ∧ ∀ y ∈ x, y < 256
  | 0, l, x, h => by simp [cutF] at h
  | k + 1, l, x, h => by
    rw [cutF] at h
    split at h
    · simp at h
    · rcases List.mem_cons.1 h with rfl | h
      · refine ⟨by rw [padB, List.length_append, List.length_replicate, List.length_map, List.length_take]; omega, fun y hy => ?_⟩
        rcases List.mem_append.1 hy with hy | hy
        · obtain ⟨u, _, rfl⟩ := List.mem_map.1 hy
          exact u.toNat_lt
        · rw [(List.mem_replicate.1 hy).2]; omega
      · exact cutF_all k _ x h
theorem cutH_all (l : List UInt8) : ∀ x ∈ cutH l, x.length = 16 ∧ ∀ y ∈ x, y < 256 := cutF_all _ l
theorem cutF_len : ∀ (k : Nat) (l : List UInt8), l.length ≤ 16 * k → (cutF k l).length = (l.length + 15) / 16
  | 0, l, h => by simp [cutF]; omega
  | k + 1, l, h => by
    rw [cutF]
    split
    · rename_i e; subst e; rfl
    · rename_i e
      have : l.length ≠ 0 := fun h => e (List.length_eq_zero_iff.1 h)
      rw [List.length_cons, cutF_len k _ (by rw [List.length_drop]; omega), List.length_drop]; omega
theorem cutH_len (l : List UInt8) : (cutH l).length = (l.length + 15) / 16 := cutF_len _ l (by omega)
def okShorts (t : UInt8) (v : Oct) : Bool := okStr t 65536 v && decide ((getStr t 65536 v).length % 16 = 0)
def getShorts (t : UInt8) (v : Oct) : List (List Nat) := cutH (getStr t 65536 v)
theorem okShorts_O (t : UInt8) {l : List (List Nat)} (h : ∀ x ∈ l, x.length = 16 ∧ ∀ y ∈ x, y < 256) (hn : l.length ≤ 4096) : okShorts t (strO t (joinB l)) = true ∧ getShorts t (strO t (joinB l)) = l := by
  have hl := joinB_len l fun x hx => (h x hx).1
  obtain ⟨h1, h2⟩ := okStr_O t (m := 65536) (s := joinB l) (by omega)
  refine ⟨by rw [okShorts, h1, h2, hl]; simp, by rw [getShorts, h2, cutH_join h]⟩
theorem O_okShorts {t : UInt8} {v : Oct} (h : okShorts t v = true) : strO t (joinB (getShorts t v)) = v := by
  simp only [okShorts, Bool.and_eq_true, decide_eq_true_eq] at h
  rw [getShorts, join_cutH h.2, O_okStr h.1]
end Go.Proofs.YtgekglfmianoeaaGreatDoor

namespace Go.Proofs.YtgekglfmianoeaaGreatDoor
open Go Go.Gp
def spanO (s : Nat × Nat) : Oct := seqO 133 [numO 1 (hiN s.1), numO 2 (loN s.1), numO 3 (hiN s.2), numO 4 (loN s.2)]
def asO (s : Nat × Nat) : Oct := seqO 133 [numO 1 s.1, numO 2 s.2]
def atO (l : List Oct) (i : Nat) : Oct := l.getD i zO
abbrev spanL (x : Oct) : List Oct := getSeq 133 4 4 x
abbrev asL (x : Oct) : List Oct := getSeq 133 2 2 x
theorem spanL_len (x : Oct) : (spanL x).length = 4 := by have := getSeq_len (t := 133) (Nat.le_refl 4) x; exact Nat.le_antisymm this.2 this.1
theorem asL_len (x : Oct) : (asL x).length = 2 := by have := getSeq_len (t := 133) (Nat.le_refl 2) x; exact Nat.le_antisymm this.2 this.1
def okSpanO (x : Oct) : Bool := okSeq 133 4 4 x && okNum 1 18446744073709551615 (atO (spanL x) 0) && okNum 2 18446744073709551615 (atO (spanL x) 1) && okNum 3 18446744073709551615 (atO (spanL x) 2) && okNum 4 18446744073709551615 (atO (spanL x) 3)
def getSpanO (x : Oct) : Nat × Nat := (getNum 1 18446744073709551615 (atO (spanL x) 0) * 18446744073709551616 + getNum 2 18446744073709551615 (atO (spanL x) 1), getNum 3 18446744073709551615 (atO (spanL x) 2) * 18446744073709551616 + getNum 4 18446744073709551615 (atO (spanL x) 3))
def okAsO (x : Oct) : Bool := okSeq 133 2 2 x && okNum 1 4294967295 (atO (asL x) 0) && okNum 2 4294967295 (atO (asL x) 1)
def getAsO (x : Oct) : Nat × Nat := (getNum 1 4294967295 (atO (asL x) 0), getNum 2 4294967295 (atO (asL x) 1))
def okAddrs (v : Oct) : Bool := okSeq 129 0 200 v && (getSeq 129 0 200 v).all okSpanO
def getAddrs (v : Oct) : List (Nat × Nat) := (getSeq 129 0 200 v).map getSpanO
def okAss (v : Oct) : Bool := okSeq 129 0 200 v && (getSeq 129 0 200 v).all okAsO
def getAss (v : Oct) : List (Nat × Nat) := (getSeq 129 0 200 v).map getAsO
theorem list2 {l : List Oct} (h : l.length = 2) : l = [atO l 0, atO l 1] := by
  match l, h with
  | [a, b], _ => rfl
theorem list3 {l : List Oct} (h : l.length = 3) : l = [atO l 0, atO l 1, atO l 2] := by
  match l, h with
  | [a, b, c], _ => rfl
theorem list4 {l : List Oct} (h : l.length = 4) : l = [atO l 0, atO l 1, atO l 2, atO l 3] := by
  match l, h with
  | [a, b, c, d], _ => rfl
theorem list14 {l : List Oct} (h : l.length = 14) : l = [atO l 0, atO l 1, atO l 2, atO l 3, atO l 4, atO l 5, atO l 6, atO l 7, atO l 8, atO l 9, atO l 10, atO l 11, atO l 12, atO l 13] := by
  match l, h with
  | [a, b, c, d, e, f, g, h, i, j, k, l, m, n], _ => rfl
theorem hi_of {a b : Nat} (h : b < 18446744073709551616) : hiN (a * 18446744073709551616 + b) = a := by unfold hiN; omega
theorem lo_of {a b : Nat} (h : b < 18446744073709551616) : loN (a * 18446744073709551616 + b) = b := by unfold loN; omega
theorem okSpan_O {s : Nat × Nat} (h1 : s.1 < 340282366920938463463374607431768211456) (h2 : s.2 < 340282366920938463463374607431768211456) : okSpanO (spanO s) = true ∧ getSpanO (spanO s) = s := by
  have a1 := hiN_lt h1
  have a2 := loN_lt s.1
  have a3 := hiN_lt h2
  have a4 := loN_lt s.2
  obtain ⟨e1, e2⟩ := okSeq_O 133 (lo := 4) (hi := 4) (l := [numO 1 (hiN s.1), numO 2 (loN s.1), numO 3 (hiN s.2), numO 4 (loN s.2)]) (by simp) (by simp)
  obtain ⟨b1, c1⟩ := okNum_O 1 (m := 18446744073709551615) (x := hiN s.1) (by omega) a1
  obtain ⟨b2, c2⟩ := okNum_O 2 (m := 18446744073709551615) (x := loN s.1) (by omega) a2
  obtain ⟨b3, c3⟩ := okNum_O 3 (m := 18446744073709551615) (x := hiN s.2) (by omega) a3
  obtain ⟨b4, c4⟩ := okNum_O 4 (m := 18446744073709551615) (x := loN s.2) (by omega) a4
  constructor
  · simp only [okSpanO, spanO, spanL, e1, e2, atO, List.getD_cons_zero, List.getD_cons_succ, b1, b2, b3, b4, Bool.and_true]
  · simp only [getSpanO, spanO, spanL, e2, atO, List.getD_cons_zero, List.getD_cons_succ, c1, c2, c3, c4]
    rw [← addr_split, ← addr_split]
theorem O_okSpan {x : Oct} (h : okSpanO x = true) : spanO (getSpanO x) = x := by
  simp only [okSpanO, Bool.and_eq_true] at h
  obtain ⟨⟨⟨⟨h0, h1⟩, h2⟩, h3⟩, h4⟩ := h
  have g2 := getNum_le 2 18446744073709551615 (atO (spanL x) 1)
  have g4 := getNum_le 4 18446744073709551615 (atO (spanL x) 3)
  rw [spanO, getSpanO, hi_of (by omega), lo_of (by omega), hi_of (by omega), lo_of (by omega), O_okNum h1, O_okNum h2, O_okNum h3, O_okNum h4, ← list4 (spanL_len x)]
  exact O_okSeq h0
theorem getSpan_lt (x : Oct) : (getSpanO x).1 < 340282366920938463463374607431768211456 ∧ (getSpanO x).2 < 340282366920938463463374607431768211456 := by
  have g1 := getNum_le 1 18446744073709551615 (atO (spanL x) 0)
  have g2 := getNum_le 2 18446744073709551615 (atO (spanL x) 1)
  have g3 := getNum_le 3 18446744073709551615 (atO (spanL x) 2)
  have g4 := getNum_le 4 18446744073709551615 (atO (spanL x) 3)
  simp only [getSpanO]
  omega
theorem okAs_O {s : Nat × Nat} (h1 : s.1 < 4294967296) (h2 : s.2 < 4294967296) : okAsO (asO s) = true ∧ getAsO (asO s) = s := by
  obtain ⟨e1, e2⟩ := okSeq_O 133 (lo := 2) (hi := 2) (l := [numO 1 s.1, numO 2 s.2]) (by simp) (by simp)
  obtain ⟨b1, c1⟩ := okNum_O 1 (m := 4294967295) (x := s.1) (by omega) (by omega)
  obtain ⟨b2, c2⟩ := okNum_O 2 (m := 4294967295) (x := s.2) (by omega) (by omega)
  constructor
  · simp only [okAsO, asO, asL, e1, e2, atO, List.getD_cons_zero, List.getD_cons_succ, b1, b2, Bool.and_true]
  · simp only [getAsO, asO, asL, e2, atO, List.getD_cons_zero, List.getD_cons_succ, c1, c2]
theorem O_okAs {x : Oct} (h : okAsO x = true) : asO (getAsO x) = x := by
  simp only [okAsO, Bool.and_eq_true] at h
  obtain ⟨⟨h0, h1⟩, h2⟩ := h
  rw [asO, getAsO, O_okNum h1, O_okNum h2, ← list2 (asL_len x)]
  exact O_okSeq h0
theorem getAs_lt (x : Oct) : (getAsO x).1 < 4294967296 ∧ (getAsO x).2 < 4294967296 := by
  have g1 := getNum_le 1 4294967295 (atO (asL x) 0)
  have g2 := getNum_le 2 4294967295 (atO (asL x) 1)
  simp only [getAsO]
  omega
theorem map_back {α β : Type} {f : α → β} {g : β → α} : ∀ {l : List β}, (∀ x ∈ l, f (g x) = x) → (l.map g).map f = l
  | [], _ => rfl
  | x :: r, h => by rw [List.map_cons, List.map_cons, h x (by simp), map_back fun y hy => h y (by simp [hy])]
theorem okAddrs_O {l : List (Nat × Nat)} (hl : ∀ s ∈ l, s.1 < 340282366920938463463374607431768211456 ∧ s.2 < 340282366920938463463374607431768211456) (hn : l.length ≤ 200) : okAddrs (seqO 129 (l.map spanO)) = true ∧ getAddrs (seqO 129 (l.map spanO)) = l := by
  obtain ⟨e1, e2⟩ := okSeq_O 129 (lo := 0) (hi := 200) (l := l.map spanO) (by omega) (by simpa using hn)
  constructor
  · rw [okAddrs, e1, e2, Bool.true_and, List.all_map, List.all_eq_true]
    exact fun s hs => (okSpan_O (hl s hs).1 (hl s hs).2).1
  · rw [getAddrs, e2]
    exact map_back fun s hs => (okSpan_O (hl s hs).1 (hl s hs).2).2
theorem O_okAddrs {v : Oct} (h : okAddrs v = true) : seqO 129 ((getAddrs v).map spanO) = v := by
  simp only [okAddrs, Bool.and_eq_true, List.all_eq_true] at h
  rw [getAddrs, map_back fun x hx => O_okSpan (h.2 x hx), O_okSeq h.1]
theorem okAss_O {l : List (Nat × Nat)} (hl : ∀ s ∈ l, s.1 < 4294967296 ∧ s.2 < 4294967296) (hn : l.length ≤ 200) : okAss (seqO 129 (l.map asO)) = true ∧ getAss (seqO 129 (l.map asO)) = l := by
  obtain ⟨e1, e2⟩ := okSeq_O 129 (lo := 0) (hi := 200) (l := l.map asO) (by omega) (by simpa using hn)
  constructor
  · rw [okAss, e1, e2, Bool.true_and, List.all_map, List.all_eq_true]
    exact fun s hs => (okAs_O (hl s hs).1 (hl s hs).2).1
  · rw [getAss, e2]
    exact map_back fun s hs => (okAs_O (hl s hs).1 (hl s hs).2).2
theorem O_okAss {v : Oct} (h : okAss v = true) : seqO 129 ((getAss v).map asO) = v := by
  simp only [okAss, Bool.and_eq_true, List.all_eq_true] at h
  rw [getAss, map_back fun x hx => O_okAs (h.2 x hx), O_okSeq h.1]

abbrev bsL (s : ByteArray) : List UInt8 := s.data.toList
def rootL (r : Nat → Nat) : List Nat := [r 0, r 1, r 2, r 3, r 4, r 5, r 6, r 7, r 8, r 9, r 10, r 11, r 12, r 13, r 14, r 15]
def flagN (a b : Bool) : Nat := (if a then 1 else 0) + (if b then 2 else 0)
def resO (r : Res) : Oct := seqO 130 [seqO 129 (r.v4.map spanO), seqO 129 (r.v6.map spanO), seqO 129 (r.as_.map asO)]
def bodyO (c : Crt) : Oct := seqO 128 [numO 1 c.serial, strO 2 (bsL c.issuer), strO 3 (bsL c.subject), numO 4 c.frm.toNat, numO 5 c.til.toNat, strO 6 (joinB [rootL c.root]), numO 7 c.height.toNat, numO 8 (flagN c.ca c.inherit), resO c.res,
  strO 9 (bsL c.repo), strO 10 (bsL c.manifest), strO 11 (bsL c.notify), strO 12 (bsL c.crl), strO 13 (bsL c.parent)]
def sigO (s : Sig) : Oct := seqO 131 [numO 1 s.index.toNat, strO 2 (joinB s.chains), strO 3 (joinB s.path)]
def wholeO (c : Crt) : Oct := seqO 132 [bodyO c, sigO c.sig]

abbrev whD (v : Oct) : List Oct := getSeq 132 2 2 v
abbrev bdD (v : Oct) : List Oct := getSeq 128 14 14 (atO (whD v) 0)
abbrev sgD (v : Oct) : List Oct := getSeq 131 3 3 (atO (whD v) 1)
abbrev rsD (v : Oct) : List Oct := getSeq 130 3 3 (atO (bdD v) 8)
theorem whD_len (v : Oct) : (whD v).length = 2 := by have := getSeq_len (t := 132) (Nat.le_refl 2) v; exact Nat.le_antisymm this.2 this.1
theorem bdD_len (v : Oct) : (bdD v).length = 14 := by have := getSeq_len (t := 128) (Nat.le_refl 14) (atO (whD v) 0); exact Nat.le_antisymm this.2 this.1
theorem sgD_len (v : Oct) : (sgD v).length = 3 := by have := getSeq_len (t := 131) (Nat.le_refl 3) (atO (whD v) 1); exact Nat.le_antisymm this.2 this.1
theorem rsD_len (v : Oct) : (rsD v).length = 3 := by have := getSeq_len (t := 130) (Nat.le_refl 3) (atO (bdD v) 8); exact Nat.le_antisymm this.2 this.1
def baL (l : List UInt8) : ByteArray := ⟨l.toArray⟩
def strD (t : UInt8) (m : Nat) (v : Oct) : ByteArray := baL (getStr t m v)
def rootD (l : List (List Nat)) (i : Nat) : Nat := match l with | [x] => x.getD i 0 | _ => 0
def sigD (l : List Oct) : Sig := ⟨getNum 1 16 (atO l 0), getShorts 2 (atO l 1), getShorts 3 (atO l 2)⟩
def okSigD (l : List Oct) : Bool := okNum 1 16 (atO l 0) && okShorts 2 (atO l 1) && okShorts 3 (atO l 2)
def cB (l : List Oct) (r : List Oct) (s : Sig) : Crt where
  serial := getNum 1 18446744073709551615 (atO l 0)
  issuer := strD 2 40 (atO l 1)
  subject := strD 3 40 (atO l 2)
  frm := getNum 4 1099511627776 (atO l 3)
  til := getNum 5 1099511627776 (atO l 4)
  root := rootD (getShorts 6 (atO l 5))
  height := getNum 7 4 (atO l 6)
  ca := decide (getNum 8 3 (atO l 7) % 2 = 1)
  inherit := decide (getNum 8 3 (atO l 7) / 2 = 1)
  res := ⟨getAddrs (atO r 0), getAddrs (atO r 1), getAss (atO r 2)⟩
  repo := strD 9 200 (atO l 9)
  manifest := strD 10 200 (atO l 10)
  notify := strD 11 200 (atO l 11)
  crl := strD 12 200 (atO l 12)
  parent := strD 13 200 (atO l 13)
  sig := s
def okBo (l : List Oct) (r : List Oct) : Bool := okNum 1 18446744073709551615 (atO l 0) && okStr 2 40 (atO l 1) && okStr 3 40 (atO l 2) && okNum 4 1099511627776 (atO l 3) && okNum 5 1099511627776 (atO l 4) && okShorts 6 (atO l 5) && decide ((getShorts 6 (atO l 5)).length = 1) && okNum 7 4 (atO l 6) && okNum 8 3 (atO l 7) &&
  okSeq 130 3 3 (atO l 8) && okAddrs (atO r 0) && okAddrs (atO r 1) && okAss (atO r 2) && okStr 9 200 (atO l 9) && okStr 10 200 (atO l 10) && okStr 11 200 (atO l 11) && okStr 12 200 (atO l 12) && okStr 13 200 (atO l 13)
def cD (v : Oct) : Crt := cB (bdD v) (rsD v) (sigD (sgD v))
def okD (v : Oct) : Bool := okSeq 132 2 2 v && okSeq 128 14 14 (atO (whD v) 0) && okSeq 131 3 3 (atO (whD v) 1) && okBo (bdD v) (rsD v) && okSigD (sgD v)

structure BodyT (c : Crt) : Prop where
  serial : c.serial < 18446744073709551616
  issuer : c.issuer.size ≤ 40
  subject : c.subject.size ≤ 40
  frm : 0 ≤ c.frm ∧ c.frm ≤ 1099511627776
  til : 0 ≤ c.til ∧ c.til ≤ 1099511627776
  root : ∀ x ∈ rootL c.root, x < 256
  height : 0 ≤ c.height ∧ c.height ≤ 4
  v4 : ∀ s ∈ c.res.v4, s.1 < 340282366920938463463374607431768211456 ∧ s.2 < 340282366920938463463374607431768211456
  v6 : ∀ s ∈ c.res.v6, s.1 < 340282366920938463463374607431768211456 ∧ s.2 < 340282366920938463463374607431768211456
  as_ : ∀ s ∈ c.res.as_, s.1 < 4294967296 ∧ s.2 < 4294967296
  n4 : c.res.v4.length ≤ 200
  n6 : c.res.v6.length ≤ 200
  nas : c.res.as_.length ≤ 200
  repo : c.repo.size ≤ 200
  manifest : c.manifest.size ≤ 200
  notify : c.notify.size ≤ 200
  crl : c.crl.size ≤ 200
  parent : c.parent.size ≤ 200
structure SigT (s : Sig) : Prop where
  index : 0 ≤ s.index ∧ s.index ≤ 16
  chains : ∀ x ∈ s.chains, x.length = 16 ∧ ∀ y ∈ x, y < 256
  path : ∀ x ∈ s.path, x.length = 16 ∧ ∀ y ∈ x, y < 256
  nc : s.chains.length ≤ 60
  np : s.path.length ≤ 60
def rootC' (r : Nat → Nat) (i : Nat) : Nat := (rootL r).getD i 0
theorem baL_bs (s : ByteArray) : baL (bsL s) = s := by
  cases s; rfl
theorem bsL_ba (l : List UInt8) : bsL (baL l) = l := rfl
theorem bsL_len (s : ByteArray) : (bsL s).length = s.size := rfl
theorem flag_of (a b : Bool) : flagN a b ≤ 3 ∧ decide (flagN a b % 2 = 1) = a ∧ decide (flagN a b / 2 = 1) = b := by cases a <;> cases b <;> decide
theorem flag_back {n : Nat} (h : n ≤ 3) : flagN (decide (n % 2 = 1)) (decide (n / 2 = 1)) = n := by
  have : n = 0 ∨ n = 1 ∨ n = 2 ∨ n = 3 := by omega
  rcases this with rfl | rfl | rfl | rfl <;> decide
theorem toNat_ofNat' (n : Nat) : (n : Int).toNat = n := Int.toNat_natCast n
theorem okSig_O {s : Sig} (h : SigT s) : okSigD (getSeq 131 3 3 (sigO s)) = true ∧ sigD (getSeq 131 3 3 (sigO s)) = s ∧ okSeq 131 3 3 (sigO s) = true := by
  obtain ⟨e1, e2⟩ := okSeq_O 131 (lo := 3) (hi := 3) (l := [numO 1 s.index.toNat, strO 2 (joinB s.chains), strO 3 (joinB s.path)]) (by simp) (by simp)
  have hi := h.index
  obtain ⟨b1, c1⟩ := okNum_O 1 (m := 16) (x := s.index.toNat) (by omega) (by omega)
  obtain ⟨b2, c2⟩ := okShorts_O 2 h.chains (by have := h.nc; omega)
  obtain ⟨b3, c3⟩ := okShorts_O 3 h.path (by have := h.np; omega)
  refine ⟨?_, ?_, e1⟩
  · simp only [sigO, e2, okSigD, atO, List.getD_cons_zero, List.getD_cons_succ, b1, b2, b3, Bool.and_true]
  · simp only [sigO, e2, sigD, atO, List.getD_cons_zero, List.getD_cons_succ, c1, c2, c3]
    have : ((s.index.toNat : Nat) : Int) = s.index := by omega
    rw [this]
theorem okBody_O {c : Crt} (h : BodyT c) (s : Sig) : okBo (getSeq 128 14 14 (bodyO c)) (getSeq 130 3 3 (resO c.res)) = true ∧ cB (getSeq 128 14 14 (bodyO c)) (getSeq 130 3 3 (resO c.res)) s = { c with root := rootC' c.root, sig := s } ∧ okSeq 128 14 14 (bodyO c) = true ∧ atO (getSeq 128 14 14 (bodyO c)) 8 = resO c.res := by
  obtain ⟨e1, e2⟩ := okSeq_O 128 (lo := 14) (hi := 14) (l := [numO 1 c.serial, strO 2 (bsL c.issuer), strO 3 (bsL c.subject), numO 4 c.frm.toNat, numO 5 c.til.toNat, strO 6 (joinB [rootL c.root]), numO 7 c.height.toNat, numO 8 (flagN c.ca c.inherit), resO c.res,
    strO 9 (bsL c.repo), strO 10 (bsL c.manifest), strO 11 (bsL c.notify), strO 12 (bsL c.crl), strO 13 (bsL c.parent)]) (by simp) (by simp)
  obtain ⟨f1, f2⟩ := okSeq_O 130 (lo := 3) (hi := 3) (l := [seqO 129 (c.res.v4.map spanO), seqO 129 (c.res.v6.map spanO), seqO 129 (c.res.as_.map asO)]) (by simp) (by simp)
  have hs := h.serial
  have hf := h.frm
  have ht := h.til
  have hh := h.height
  obtain ⟨g1, g2, g3⟩ := flag_of c.ca c.inherit
  obtain ⟨b0, c0⟩ := okNum_O 1 (m := 18446744073709551615) (x := c.serial) (by omega) hs
  obtain ⟨b1, c1⟩ := okStr_O 2 (m := 40) (s := bsL c.issuer) (by rw [bsL_len]; exact h.issuer)
  obtain ⟨b2, c2⟩ := okStr_O 3 (m := 40) (s := bsL c.subject) (by rw [bsL_len]; exact h.subject)
  obtain ⟨b3, c3⟩ := okNum_O 4 (m := 1099511627776) (x := c.frm.toNat) (by omega) (by omega)
  obtain ⟨b4, c4⟩ := okNum_O 5 (m := 1099511627776) (x := c.til.toNat) (by omega) (by omega)
  obtain ⟨b5, c5⟩ := okShorts_O 6 (l := [rootL c.root]) (by
    intro x hx
    obtain rfl := List.mem_singleton.1 hx
    exact ⟨rfl, h.root⟩) (by simp)
  obtain ⟨b6, c6⟩ := okNum_O 7 (m := 4) (x := c.height.toNat) (by omega) (by omega)
  obtain ⟨b7, c7⟩ := okNum_O 8 (m := 3) (x := flagN c.ca c.inherit) g1 (by omega)
  obtain ⟨b8, c8⟩ := okAddrs_O h.v4 h.n4
  obtain ⟨b9, c9⟩ := okAddrs_O h.v6 h.n6
  obtain ⟨b10, c10⟩ := okAss_O h.as_ h.nas
  obtain ⟨b11, c11⟩ := okStr_O 9 (m := 200) (s := bsL c.repo) (by rw [bsL_len]; exact h.repo)
  obtain ⟨b12, c12⟩ := okStr_O 10 (m := 200) (s := bsL c.manifest) (by rw [bsL_len]; exact h.manifest)
  obtain ⟨b13, c13⟩ := okStr_O 11 (m := 200) (s := bsL c.notify) (by rw [bsL_len]; exact h.notify)
  obtain ⟨b14, c14⟩ := okStr_O 12 (m := 200) (s := bsL c.crl) (by rw [bsL_len]; exact h.crl)
  obtain ⟨b15, c15⟩ := okStr_O 13 (m := 200) (s := bsL c.parent) (by rw [bsL_len]; exact h.parent)
  have k1 : ((c.frm.toNat : Nat) : Int) = c.frm := by omega
  have k2 : ((c.til.toNat : Nat) : Int) = c.til := by omega
  have k3 : ((c.height.toNat : Nat) : Int) = c.height := by omega
  refine ⟨?_, ?_, e1, ?_⟩
  · simp only [bodyO, e2]
    simp only [resO, f2, okBo, atO, List.getD_cons_zero, List.getD_cons_succ, b0, b1, b2, b3, b4, b5, c5, b6, b7, f1, b8, b9, b10, b11, b12, b13, b14, b15, Bool.and_true, List.length_cons, List.length_nil, decide_true]
  · simp only [bodyO, e2]
    simp only [resO, f2, cB, atO, strD, List.getD_cons_zero, List.getD_cons_succ, c0, c1, c2, c3, c4, c5, c6, c7, c8, c9, c10, c11, c12, c13, c14, c15, baL_bs, g2, g3, k1, k2, k3]
    rfl
  · simp only [bodyO, e2, atO, List.getD_cons_zero, List.getD_cons_succ]
theorem okD_O {c : Crt} (h : BodyT c) (hs : SigT c.sig) : okD (wholeO c) = true ∧ cD (wholeO c) = { c with root := rootC' c.root } := by
  obtain ⟨e1, e2⟩ := okSeq_O 132 (lo := 2) (hi := 2) (l := [bodyO c, sigO c.sig]) (by simp) (by simp)
  obtain ⟨a1, a2, a3, a4⟩ := okBody_O h c.sig
  obtain ⟨b1, b2, b3⟩ := okSig_O hs
  have w0 : atO (whD (wholeO c)) 0 = bodyO c := by simp only [whD, wholeO, e2, atO, List.getD_cons_zero]
  have w1 : atO (whD (wholeO c)) 1 = sigO c.sig := by simp only [whD, wholeO, e2, atO, List.getD_cons_zero, List.getD_cons_succ]
  constructor
  · rw [okD, wholeO, e1, ← wholeO]
    simp only [bdD, rsD, sgD, w0, w1, a3, b3, a4, a1, b1, Bool.and_true]
  · simp only [cD, bdD, rsD, sgD, w0, w1, a4, b2, a2]
theorem root_back {l : List (List Nat)} (h : l.length = 1) (h2 : ∀ x ∈ l, x.length = 16) : [rootL (rootD l)] = l := by
  match l, h with
  | [x], _ =>
    have := h2 x (by simp)
    match x, this with
    | [_, _, _, _, _, _, _, _, _, _, _, _, _, _, _, _], _ => rfl
theorem O_okD {v : Oct} (h : okD v = true) : wholeO (cD v) = v := by
  simp only [okD, okBo, okSigD, Bool.and_eq_true, decide_eq_true_eq] at h
  obtain ⟨⟨⟨⟨h0, h1⟩, h2⟩, b⟩, ⟨s0, s1⟩, s2⟩ := h
  obtain ⟨⟨⟨⟨⟨⟨⟨⟨⟨⟨⟨⟨⟨⟨⟨⟨⟨b0, b1⟩, b2⟩, b3⟩, b4⟩, b5⟩, b5'⟩, b6⟩, b7⟩, b8⟩, b9⟩, b10⟩, b11⟩, b12⟩, b13⟩, b14⟩, b15⟩, b16⟩ := b
  have eb : bodyO (cD v) = atO (whD v) 0 := by
    simp only [bodyO, cD, cB, resO, strD, bsL_ba, toNat_ofNat', flag_back (getNum_le 8 3 _), O_okNum b0, O_okStr b1, O_okStr b2, O_okNum b3, O_okNum b4, root_back b5' (fun x hx => (cutH_all _ x hx).1), O_okShorts b5, O_okNum b6, O_okNum b7,
      O_okAddrs b9, O_okAddrs b10, O_okAss b11, O_okStr b12, O_okStr b13, O_okStr b14, O_okStr b15, O_okStr b16]
    rw [← list3 (l := rsD v) (rsD_len v), O_okSeq b8, ← list14 (l := bdD v) (bdD_len v), O_okSeq h1]
  have es : sigO (cD v).sig = atO (whD v) 1 := by
    simp only [sigO, cD, cB, sigD, toNat_ofNat', O_okNum s0, O_okShorts s1, O_okShorts s2]
    rw [← list3 (l := sgD v) (sgD_len v), O_okSeq h2]
  rw [wholeO, eb, es, ← list2 (l := whD v) (whD_len v), O_okSeq h0]
end Go.Proofs.YtgekglfmianoeaaGreatDoor

namespace Go.Proofs.YtgekglfmianoeaaGreatDoor
open Go Go.Gp
structure Vd (x : Oct) (n d s : Nat) : Prop where
  count : countO x ≤ n
  depth : depthO x ≤ d
  shape : shape0 x = true
  tags : tagsO x = true
  size : sizeO x ≤ s
structure VdL (x : List Oct) (n d s : Nat) : Prop where
  count : countL x ≤ n
  depth : depthL x ≤ d
  shape : shape0L x = true
  tags : tagsL x = true
  size : sizeL x ≤ s
theorem lenB_4 (n : Nat) : (lenB n).length ≤ 4 := by
  rw [lenB_len]; repeat' split
  all_goals omega
theorem VdL.nil {d : Nat} : VdL [] 0 d 0 := ⟨by simp [countL], by simp [depthL], rfl, rfl, by simp [sizeL]⟩
theorem VdL.cons {x : Oct} {l : List Oct} {n n' d s s' : Nat} (h : Vd x n d s) (hl : VdL l n' d s') : VdL (x :: l) (n + n') d (s + s') :=
  ⟨by have := h.count; have := hl.count; simp only [countL]; omega, by have := h.depth; have := hl.depth; simp only [depthL]; omega, by simp only [shape0L, h.shape, hl.shape, Bool.and_true], by simp only [tagsL, h.tags, hl.tags, Bool.and_true],
    by have := h.size; have := hl.size; simp only [sizeL]; omega⟩
theorem VdL.map {α : Type} {f : α → Oct} {n d s : Nat} : ∀ {l : List α}, (∀ x ∈ l, Vd (f x) n d s) → VdL (l.map f) (n * l.length) d (s * l.length)
  | [], _ => VdL.nil
  | x :: r, h => by
    have := VdL.cons (h x (by simp)) (VdL.map (l := r) fun y hy => h y (by simp [hy]))
    rw [List.map_cons, List.length_cons, Nat.mul_succ, Nat.mul_succ, Nat.add_comm _ n, Nat.add_comm _ s]
    exact this
theorem Vd.mono {x : Oct} {n d s n' d' s' : Nat} (h : Vd x n d s) (hn : n ≤ n') (hd : d ≤ d') (hs : s ≤ s') : Vd x n' d' s' :=
  ⟨Nat.le_trans h.count hn, Nat.le_trans h.depth hd, h.shape, h.tags, Nat.le_trans h.size hs⟩
theorem Vd.seq {t : UInt8} {l : List Oct} {n d s : Nat} (ht : 128 ≤ t.toNat) (h : VdL l n d s) : Vd (seqO t l) (n + 1) (d + 1) (s + 5) := by
  have h0 : t ≠ 0 := fun e => by rw [e] at ht; exact absurd ht (by decide)
  have := lenB_4 (([] : List UInt8).length + sizeL l)
  exact ⟨by have := h.count; simp only [seqO, countO]; omega, by have := h.depth; simp only [seqO, depthO]; omega, by simp [seqO, shape0, shape1, h.shape, ht], by simp [seqO, tagsO, h.tags, h0],
    by have := h.size; simp only [seqO, sizeO, List.length_nil] at this ⊢; simp only [List.length_nil] at *; omega⟩
theorem Vd.str {t : UInt8} {l : List UInt8} (ht : t.toNat < 128) (h0 : t ≠ 0) (d : Nat) : Vd (strO t l) 1 (d + 1) (l.length + 5) := by
  have := lenB_4 (l.length + sizeL [])
  exact ⟨by simp [strO, countO, countL], by simp [strO, depthO, depthL], by simp [strO, shape0, shape1, shape0L, ht], by simp [strO, tagsO, tagsL, h0], by simp only [strO, sizeO, sizeL] at this ⊢; omega⟩
theorem Vd.num {t : UInt8} (x : Nat) (ht : t.toNat < 128) (h0 : t ≠ 0) (d : Nat) : Vd (numO t x) 1 (d + 1) 14 :=
  (Vd.str (l := numB x) ht h0 d).mono (Nat.le_refl _) (Nat.le_refl _) (by have := numF_length 9 x; unfold numB; omega)

theorem spanO_vd (s : Nat × Nat) : Vd (spanO s) 5 2 61 :=
  Vd.seq (by decide) (VdL.cons (Vd.num _ (by decide) (by decide) 0) (VdL.cons (Vd.num _ (by decide) (by decide) 0) (VdL.cons (Vd.num _ (by decide) (by decide) 0) (VdL.cons (Vd.num _ (by decide) (by decide) 0) VdL.nil))))
theorem asO_vd (s : Nat × Nat) : Vd (asO s) 3 2 33 :=
  Vd.seq (by decide) (VdL.cons (Vd.num _ (by decide) (by decide) 0) (VdL.cons (Vd.num _ (by decide) (by decide) 0) VdL.nil))
theorem resO_vd {r : Res} (h4 : r.v4.length ≤ 200) (h6 : r.v6.length ≤ 200) (ha : r.as_.length ≤ 200) : Vd (resO r) 2610 4 31100 := by
  have k1 : Vd (seqO 129 (r.v4.map spanO)) _ _ _ := Vd.seq (by decide) (VdL.map fun s _ => spanO_vd s)
  have k2 : Vd (seqO 129 (r.v6.map spanO)) _ _ _ := Vd.seq (by decide) (VdL.map fun s _ => spanO_vd s)
  have k3 : Vd (seqO 129 (r.as_.map asO)) _ _ _ := Vd.seq (by decide) (VdL.map fun s _ => asO_vd s)
  exact (Vd.seq (by decide) (VdL.cons k1 (VdL.cons k2 (VdL.cons k3 VdL.nil)))).mono (by omega) (by omega) (by omega)
theorem bodyO_vd {c : Crt} (h : BodyT c) : Vd (bodyO c) 2700 5 33000 := by
  have h1 := h.issuer
  have h2 := h.subject
  have h3 := h.repo
  have h4 := h.manifest
  have h5 := h.notify
  have h6 := h.crl
  have h7 := h.parent
  have hr : (joinB [rootL c.root]).length = 16 := by rw [joinB_len _ (by intro x hx; obtain rfl := List.mem_singleton.1 hx; rfl)]; rfl
  rw [← bsL_len] at h1 h2 h3 h4 h5 h6 h7
  refine (Vd.seq (d := 4) (by decide) (VdL.cons (Vd.num _ (by decide) (by decide) 3) (VdL.cons (Vd.str (by decide) (by decide) 3) (VdL.cons (Vd.str (by decide) (by decide) 3) (VdL.cons (Vd.num _ (by decide) (by decide) 3) (VdL.cons (Vd.num _ (by decide) (by decide) 3)
    (VdL.cons (Vd.str (by decide) (by decide) 3) (VdL.cons (Vd.num _ (by decide) (by decide) 3) (VdL.cons (Vd.num _ (by decide) (by decide) 3) (VdL.cons (resO_vd h.n4 h.n6 h.nas) (VdL.cons (Vd.str (by decide) (by decide) 3) (VdL.cons (Vd.str (by decide) (by decide) 3)
    (VdL.cons (Vd.str (by decide) (by decide) 3) (VdL.cons (Vd.str (by decide) (by decide) 3) (VdL.cons (Vd.str (by decide) (by decide) 3) VdL.nil))))))))))))))).mono (by omega) (by omega) (by omega)
theorem sigO_vd {s : Sig} (h : SigT s) : Vd (sigO s) 10 5 2000 := by
  have e1 := joinB_len s.chains fun x hx => (h.chains x hx).1
  have e2 := joinB_len s.path fun x hx => (h.path x hx).1
  have n1 := h.nc
  have n2 := h.np
  exact (Vd.seq (d := 4) (by decide) (VdL.cons (Vd.num _ (by decide) (by decide) 3) (VdL.cons (Vd.str (by decide) (by decide) 3) (VdL.cons (Vd.str (by decide) (by decide) 3) VdL.nil)))).mono (by omega) (by omega) (by omega)
theorem wholeO_vd {c : Crt} (h : BodyT c) (hs : SigT c.sig) : Vd (wholeO c) 2711 6 35005 := Vd.seq (by decide) (VdL.cons (bodyO_vd h) (VdL.cons (sigO_vd hs) VdL.nil))
theorem Vd.valid {x : Oct} {n d s : Nat} (h : Vd x n d s) (hn : n ≤ 4000) (hd : d ≤ 12) (hs : s ≤ 65536) : validO x = true := by
  have := h.count
  have := h.depth
  have := h.size
  simp only [validO, h.shape, h.tags, Bool.and_true, Bool.and_eq_true, decide_eq_true_eq]
  omega
theorem wholeO_valid {c : Crt} (h : BodyT c) (hs : SigT c.sig) : validO (wholeO c) = true := (wholeO_vd h hs).valid (by omega) (by omega) (by omega)
end Go.Proofs.YtgekglfmianoeaaGreatDoor
