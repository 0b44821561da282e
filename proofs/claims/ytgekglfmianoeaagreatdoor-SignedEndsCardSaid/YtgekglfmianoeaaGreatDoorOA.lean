/-
  Octets in plain Lean: encoding, decoding, and that these are inverse. No program in sight.
  Octets: lengths of numbers, numbers as bytes.
-/
import Derived.Test.YtgekglfmianoeaaGreatDoorKD
import Derived.Test.YtgekglfmianoeaaGreatDoorCA
set_option linter.unusedSimpArgs false
set_option linter.unusedVariables false
set_option maxRecDepth 20000
namespace Go.Proofs.YtgekglfmianoeaaGreatDoor
open Go Go.Gp
inductive Oct where
  | mk (tag : UInt8) (bytes : List UInt8) (list : List Oct)
def Oct.tag : Oct → UInt8 | .mk t _ _ => t
def Oct.bytes : Oct → List UInt8 | .mk _ b _ => b
def Oct.list : Oct → List Oct | .mk _ _ l => l

def lenB (n : Nat) : List UInt8 :=
  if n < 128 then [UInt8.ofNat n] else if n < 256 then [129, UInt8.ofNat n] else if n < 65536 then [130, UInt8.ofNat (n / 256), UInt8.ofNat n] else [131, UInt8.ofNat (n / 65536), UInt8.ofNat (n / 256), UInt8.ofNat n]

mutual
def enc : Oct → List UInt8
  | .mk t b l => t :: (lenB (b ++ encL l).length ++ (b ++ encL l))
def encL : List Oct → List UInt8
  | [] => []
  | x :: r => enc x ++ encL r
end
mutual
def sizeO : Oct → Nat
  | .mk _ b l => 1 + (lenB (b.length + sizeL l)).length + (b.length + sizeL l)
def sizeL : List Oct → Nat
  | [] => 0
  | x :: r => sizeO x + sizeL r
end
mutual
def countO : Oct → Nat
  | .mk _ _ l => 1 + countL l
def countL : List Oct → Nat
  | [] => 0
  | x :: r => countO x + countL r
end
mutual
def depthO : Oct → Nat
  | .mk _ _ l => depthL l + 1
def depthL : List Oct → Nat
  | [] => 0
  | x :: r => max (depthO x) (depthL r)
end
def shape1 (t : UInt8) (b : List UInt8) (l : List Oct) : Bool := (decide (128 ≤ t.toNat) || l.isEmpty) && (decide (t.toNat < 128) || b.isEmpty)
mutual
def shape0 : Oct → Bool
  | .mk t b l => shape1 t b l && shape0L l
def shape0L : List Oct → Bool
  | [] => true
  | x :: r => shape0 x && shape0L r
end
mutual
def tagsO : Oct → Bool
  | .mk t _ l => decide (t ≠ 0) && tagsL l
def tagsL : List Oct → Bool
  | [] => true
  | x :: r => tagsO x && tagsL r
end
mutual
theorem enc_length : ∀ x : Oct, (enc x).length = sizeO x
  | .mk t b l => by simp only [enc, sizeO, List.length_cons, List.length_append, encL_length l]; omega
theorem encL_length : ∀ l : List Oct, (encL l).length = sizeL l
  | [] => rfl
  | x :: r => by simp only [encL, sizeL, List.length_append, enc_length x, encL_length r]
end
def numP (l : List UInt8) : Nat := l.foldl (fun n c => n * 256 + c.toNat) 0
def headP : List UInt8 → Option (UInt8 × Nat × List UInt8)
  | t :: k :: r =>
    if k.toNat < 128 then some (t, k.toNat, r) else
    if k.toNat < 129 ∨ 131 < k.toNat ∨ r.length < k.toNat - 128 then none else
    if (lenB (numP (r.take (k.toNat - 128)))).length = k.toNat - 127 then some (t, numP (r.take (k.toNat - 128)), r.drop (k.toNat - 128)) else none
  | _ => none
theorem ou8_nat {n : Nat} (h : n < 256) : (UInt8.ofNat n).toNat = n := by simp [UInt8.toNat_ofNat']; omega
theorem ou8_mod (n : Nat) : (UInt8.ofNat n).toNat = n % 256 := by simp [UInt8.toNat_ofNat']
theorem ou8_of (b : UInt8) : UInt8.ofNat b.toNat = b := by simp
theorem ou8_eq {a : UInt8} {n : Nat} (h : a.toNat = n % 256) : a = UInt8.ofNat n := by
  apply UInt8.toNat_inj.1; rw [ou8_mod, h]
theorem head_enc (t : UInt8) {n : Nat} (r : List UInt8) (h : n < 16777216) : headP (t :: (lenB n ++ r)) = some (t, n, r) := by
  by_cases h1 : n < 128
  · have : lenB n = [UInt8.ofNat n] := by rw [lenB, if_pos h1]
    rw [this]
    simp only [List.cons_append, List.nil_append, headP, ou8_nat (show n < 256 by omega), if_pos h1]
  · by_cases h2 : n < 256
    · have hl : lenB n = [129, UInt8.ofNat n] := by rw [lenB, if_neg h1, if_pos h2]
      have e : numP ((UInt8.ofNat n :: r).take 1) = n := by simp [numP, ou8_nat h2]
      rw [hl]
      simp only [List.cons_append, List.nil_append, headP, show (129 : UInt8).toNat = 129 from rfl]
      rw [if_neg (by omega), if_neg (by simp only [List.length_cons]; omega)]
      simp only [Nat.reduceSub, e, hl, List.length_cons, List.length_nil, List.drop_succ_cons, List.drop_zero, if_pos]
    · by_cases h3 : n < 65536
      · have hl : lenB n = [130, UInt8.ofNat (n / 256), UInt8.ofNat n] := by rw [lenB, if_neg h1, if_neg h2, if_pos h3]
        have e : numP ((UInt8.ofNat (n / 256) :: UInt8.ofNat n :: r).take 2) = n := by simp [numP, ou8_mod]; omega
        rw [hl]
        simp only [List.cons_append, List.nil_append, headP, show (130 : UInt8).toNat = 130 from rfl]
        rw [if_neg (by omega), if_neg (by simp only [List.length_cons]; omega)]
        simp only [Nat.reduceSub, e, hl, List.length_cons, List.length_nil, List.drop_succ_cons, List.drop_zero, if_pos]
      · have hl : lenB n = [131, UInt8.ofNat (n / 65536), UInt8.ofNat (n / 256), UInt8.ofNat n] := by rw [lenB, if_neg h1, if_neg h2, if_neg h3]
        have e : numP ((UInt8.ofNat (n / 65536) :: UInt8.ofNat (n / 256) :: UInt8.ofNat n :: r).take 3) = n := by simp [numP, ou8_mod]; omega
        rw [hl]
        simp only [List.cons_append, List.nil_append, headP, show (131 : UInt8).toNat = 131 from rfl]
        rw [if_neg (by omega), if_neg (by simp only [List.length_cons]; omega)]
        simp only [Nat.reduceSub, e, hl, List.length_cons, List.length_nil, List.drop_succ_cons, List.drop_zero, if_pos]
theorem lenB_len (n : Nat) : (lenB n).length = if n < 128 then 1 else if n < 256 then 2 else if n < 65536 then 3 else 4 := by
  unfold lenB; repeat' split
  all_goals rfl
theorem head_some {b : List UInt8} {t : UInt8} {n : Nat} {r : List UInt8} (h : headP b = some (t, n, r)) : b = t :: (lenB n ++ r) ∧ n < 16777216 := by
  match b, h with
  | t' :: k :: r', h =>
    simp only [headP] at h
    have hk : k.toNat < 256 := k.toNat_lt
    split at h
    · rename_i h1
      cases h
      refine ⟨?_, by omega⟩
      rw [lenB, if_pos h1, ou8_of]; rfl
    · rename_i h1
      split at h
      · cases h
      · rename_i h2
        split at h
        · rename_i h3
          have hc : k.toNat = 129 ∨ k.toNat = 130 ∨ k.toNat = 131 := by omega
          rcases hc with hc | hc | hc
          · have hk' : k = 129 := UInt8.toNat_inj.1 hc
            rw [hc] at h2 h3 h
            simp only [Nat.reduceSub] at h2 h3 h
            match r', h2, h3, h with
            | a :: r', h2, h3, h =>
              simp only [List.take_succ_cons, List.take_zero, List.drop_succ_cons, List.drop_zero, numP, List.foldl_cons, List.foldl_nil, Nat.zero_mul, Nat.zero_add] at h3 h
              cases h
              have ha : a.toNat < 256 := a.toNat_lt
              rw [lenB_len] at h3
              have : ¬ a.toNat < 128 := fun e => by rw [if_pos e] at h3; omega
              refine ⟨?_, by omega⟩
              rw [hk', lenB, if_neg this, if_pos ha, ou8_of]; rfl
            | [], h2, _, _ => simp only [List.length_nil] at h2; omega
          · have hk' : k = 130 := UInt8.toNat_inj.1 hc
            rw [hc] at h2 h3 h
            simp only [Nat.reduceSub] at h2 h3 h
            match r', h2, h3, h with
            | a :: a2 :: r', h2, h3, h =>
              simp only [List.take_succ_cons, List.take_zero, List.drop_succ_cons, List.drop_zero, numP, List.foldl_cons, List.foldl_nil, Nat.zero_mul, Nat.zero_add] at h3 h
              cases h
              have ha : a.toNat < 256 := a.toNat_lt
              have ha2 : a2.toNat < 256 := a2.toNat_lt
              rw [lenB_len] at h3
              have : ¬ a.toNat * 256 + a2.toNat < 256 := fun e => by
                repeat' split at h3
                all_goals omega
              refine ⟨?_, by omega⟩
              rw [hk', lenB, if_neg (by omega), if_neg this, if_pos (by omega), ← ou8_eq (a := a) (n := (a.toNat * 256 + a2.toNat) / 256) (by omega), ← ou8_eq (a := a2) (n := a.toNat * 256 + a2.toNat) (by omega)]; rfl
            | [_], h2, _, _ => simp only [List.length_cons, List.length_nil] at h2; omega
            | [], h2, _, _ => simp only [List.length_nil] at h2; omega
          · have hk' : k = 131 := UInt8.toNat_inj.1 hc
            rw [hc] at h2 h3 h
            simp only [Nat.reduceSub] at h2 h3 h
            match r', h2, h3, h with
            | a :: a2 :: a3 :: r', h2, h3, h =>
              simp only [List.take_succ_cons, List.take_zero, List.drop_succ_cons, List.drop_zero, numP, List.foldl_cons, List.foldl_nil, Nat.zero_mul, Nat.zero_add] at h3 h
              cases h
              have ha : a.toNat < 256 := a.toNat_lt
              have ha2 : a2.toNat < 256 := a2.toNat_lt
              have ha3 : a3.toNat < 256 := a3.toNat_lt
              rw [lenB_len] at h3
              have : ¬ (a.toNat * 256 + a2.toNat) * 256 + a3.toNat < 65536 := fun e => by
                repeat' split at h3
                all_goals omega
              refine ⟨?_, by omega⟩
              rw [hk', lenB, if_neg (by omega), if_neg (by omega), if_neg this, ← ou8_eq (a := a) (n := ((a.toNat * 256 + a2.toNat) * 256 + a3.toNat) / 65536) (by omega), ← ou8_eq (a := a2) (n := ((a.toNat * 256 + a2.toNat) * 256 + a3.toNat) / 256) (by omega), ← ou8_eq (a := a3) (n := (a.toNat * 256 + a2.toNat) * 256 + a3.toNat) (by omega)]; rfl
            | [_, _], h2, _, _ => simp only [List.length_cons, List.length_nil] at h2; omega
            | [_], h2, _, _ => simp only [List.length_cons, List.length_nil] at h2; omega
            | [], h2, _, _ => simp only [List.length_nil] at h2; omega
        · cases h
  | [_], h => cases h
  | [], h => cases h

def listP (take : List UInt8 → Option (Oct × List UInt8)) : Nat → List UInt8 → Option (List Oct)
  | _, [] => some []
  | 0, _ :: _ => none
  | f + 1, a :: b =>
    match take (a :: b) with
    | none => none
    | some (x, r) => match listP take f r with | none => none | some l => some (x :: l)
def takeP (z : Bool) : Nat → List UInt8 → Option (Oct × List UInt8)
  | 0, _ => none
  | k + 1, b =>
    match headP b with
    | none => none
    | some (t, n, r) =>
      if r.length < n ∨ z = true ∧ t = 0 then none else
      if t.toNat < 128 then some (.mk t (r.take n) [], r.drop n) else
      match listP (takeP z k) n (r.take n) with
      | none => none
      | some l => some (.mk t [] l, r.drop n)

theorem list_some {take : List UInt8 → Option (Oct × List UInt8)} {Q : Oct → Prop} (ht : ∀ b x r, take b = some (x, r) → b = enc x ++ r ∧ Q x) : ∀ (f : Nat) (b : List UInt8) (l : List Oct), listP take f b = some l → b = encL l ∧ ∀ x ∈ l, Q x
  | _, [], l, h => by
    have : l = [] := by unfold listP at h; cases h; rfl
    subst this
    exact ⟨rfl, by simp⟩
  | 0, _ :: _, l, h => by simp [listP] at h
  | f + 1, a :: b, l, h => by
    simp only [listP] at h
    split at h
    · cases h
    · rename_i x r hx
      split at h
      · cases h
      · rename_i l' hl
        cases h
        obtain ⟨h1, h2⟩ := ht _ _ _ hx
        obtain ⟨h3, h4⟩ := list_some ht f r l' hl
        refine ⟨by rw [encL, ← h3]; exact h1, fun y hy => ?_⟩
        rcases List.mem_cons.1 hy with rfl | hy
        · exact h2
        · exact h4 y hy
theorem depthL_le {k : Nat} : ∀ {l : List Oct}, (∀ x ∈ l, depthO x ≤ k) → depthL l ≤ k
  | [], _ => by simp [depthL]
  | x :: r, h => by
    simp only [depthL]
    exact Nat.max_le.2 ⟨h x (by simp), depthL_le fun y hy => h y (by simp [hy])⟩
theorem depthL_mem {k : Nat} : ∀ {l : List Oct}, depthL l ≤ k → ∀ x ∈ l, depthO x ≤ k
  | [], _, x, hx => by simp at hx
  | y :: r, h, x, hx => by
    simp only [depthL] at h
    rcases List.mem_cons.1 hx with rfl | hx
    · exact Nat.le_trans (Nat.le_max_left _ _) h
    · exact depthL_mem (Nat.le_trans (Nat.le_max_right _ _) h) x hx
theorem shape0L_all : ∀ {l : List Oct}, shape0L l = true ↔ ∀ x ∈ l, shape0 x = true
  | [] => by simp [shape0L]
  | x :: r => by simp [shape0L, shape0L_all (l := r)]
theorem tagsL_all : ∀ {l : List Oct}, tagsL l = true ↔ ∀ x ∈ l, tagsO x = true
  | [] => by simp [tagsL]
  | x :: r => by simp [tagsL, tagsL_all (l := r)]
theorem sizeL_mem : ∀ {l : List Oct}, ∀ x ∈ l, sizeO x ≤ sizeL l
  | [], x, hx => by simp at hx
  | y :: r, x, hx => by
    simp only [sizeL]
    rcases List.mem_cons.1 hx with rfl | hx
    · omega
    · have := sizeL_mem x hx; omega

theorem take_some (z : Bool) : ∀ (k : Nat) (b : List UInt8) (x : Oct) (r : List UInt8), takeP z k b = some (x, r) → b = enc x ++ r ∧ depthO x ≤ k ∧ shape0 x = true ∧ (z = true → tagsO x = true)
  | 0, b, x, r, h => by simp [takeP] at h
  | k + 1, b, x, r, h => by
    simp only [takeP] at h
    split at h
    · cases h
    · rename_i t n r' hh
      obtain ⟨hb, hn⟩ := head_some hh
      split at h
      · cases h
      · rename_i hg
        have hlen : ¬ r'.length < n := fun e => hg (.inl e)
        have hz : z = true → t ≠ 0 := fun e e' => hg (.inr ⟨e, e'⟩)
        have htl : (r'.take n).length = n := by rw [List.length_take]; omega
        split at h
        · rename_i ht
          cases h
          refine ⟨?_, by simp [depthO, depthL], by simp [shape0, shape1, shape0L, ht], fun e => by simp [tagsO, tagsL, hz e]⟩
          rw [hb]
          simp only [enc, encL, List.append_nil, htl, List.cons_append, List.append_assoc, List.take_append_drop]
        · rename_i ht
          split at h
          · cases h
          · rename_i l hl
            cases h
            obtain ⟨h1, h2⟩ := list_some (Q := fun x => depthO x ≤ k ∧ shape0 x = true ∧ (z = true → tagsO x = true)) (fun b x r h => take_some z k b x r h) _ _ _ hl
            refine ⟨?_, by simp only [depthO]; exact Nat.succ_le_succ (depthL_le fun x hx => (h2 x hx).1), ?_, fun e => ?_⟩
            · rw [hb]
              simp only [enc, List.nil_append, ← h1, htl, List.cons_append, List.append_assoc, List.take_append_drop]
            · simp only [shape0, shape0L_all.2 fun x hx => (h2 x hx).2.1, Bool.and_true]
              simp [shape1]; omega
            · simp [tagsO, hz e, tagsL_all.2 fun x hx => (h2 x hx).2.2 e]

theorem enc_ne (x : Oct) : ∃ a b, enc x = a :: b := by
  cases x with
  | mk t b l => exact ⟨_, _, rfl⟩
theorem list_enc {take : List UInt8 → Option (Oct × List UInt8)} : ∀ (l : List Oct) (f : Nat), (∀ x ∈ l, ∀ r, take (enc x ++ r) = some (x, r)) → l.length ≤ f → listP take f (encL l) = some l
  | [], f, _, _ => by cases f <;> rfl
  | x :: l, 0, _, hf => by simp at hf
  | x :: l, f + 1, ht, hf => by
    obtain ⟨a, b, hab⟩ := enc_ne x
    have h1 := ht x (by simp) (encL l)
    simp only [encL, hab, List.cons_append] at h1 ⊢
    simp only [listP, h1, list_enc l f (fun y hy => ht y (by simp [hy])) (by simpa using hf)]
theorem len_sizeL : ∀ l : List Oct, l.length ≤ sizeL l
  | [] => by simp [sizeL]
  | .mk t b l' :: r => by
    have := len_sizeL r
    simp only [List.length_cons, sizeL, sizeO]; omega
theorem take_enc (z : Bool) : ∀ (k : Nat) (x : Oct) (r : List UInt8), depthO x ≤ k → shape0 x = true → (z = true → tagsO x = true) → sizeO x < 16777216 → takeP z k (enc x ++ r) = some (x, r)
  | 0, .mk t b l, r, hd, _, _, _ => by simp [depthO] at hd
  | k + 1, .mk t b l, r, hd, hs, ht, hz => by
    simp only [depthO] at hd
    have hd' : depthL l ≤ k := by omega
    simp only [shape0, Bool.and_eq_true] at hs
    obtain ⟨hs1, hs2⟩ := hs
    simp only [sizeO] at hz
    have hsz : (b ++ encL l).length < 16777216 := by rw [List.length_append, encL_length]; omega
    have hT : z = true → t ≠ 0 ∧ tagsL l = true := fun e => by simpa [tagsO] using ht e
    have hh := head_enc t (n := (b ++ encL l).length) ((b ++ encL l) ++ r) hsz
    simp only [enc, List.cons_append, List.append_assoc] at hh ⊢
    simp only [takeP, hh]
    rw [if_neg (by rintro (e | ⟨e, e'⟩) <;> first | exact (hT e).1 e' | (simp only [List.length_append] at e; omega))]
    have e1 : (b ++ (encL l ++ r)).take (b ++ encL l).length = b ++ encL l := by rw [← List.append_assoc, List.take_left']; rfl
    have e2 : (b ++ (encL l ++ r)).drop (b ++ encL l).length = r := by rw [← List.append_assoc, List.drop_left']; rfl
    simp only [e1, e2]
    by_cases h128 : t.toNat < 128
    · rw [if_pos h128]
      have : l = [] := by
        simp only [shape1, Bool.and_eq_true, Bool.or_eq_true, decide_eq_true_eq] at hs1
        rcases hs1.1 with h | h
        · omega
        · simpa using h
      subst this
      simp [encL]
    · rw [if_neg h128]
      have : b = [] := by
        simp only [shape1, Bool.and_eq_true, Bool.or_eq_true, decide_eq_true_eq] at hs1
        rcases hs1.2 with h | h
        · omega
        · simpa using h
      subst this
      have hle : l.length ≤ ([] ++ encL l : List UInt8).length := by
        rw [List.nil_append, encL_length]
        exact len_sizeL l
      have hmem : ∀ x ∈ l, ∀ r, takeP z k (enc x ++ r) = some (x, r) := fun x hx r => take_enc z k x r (depthL_mem hd' x hx) (shape0L_all.1 hs2 x hx) (fun e => tagsL_all.1 (hT e).2 x hx) (by have := sizeL_mem x hx; simp only [List.length_nil] at hz; omega)
      rw [show ([] : List UInt8) ++ encL l = encL l from rfl] at hle ⊢
      rw [list_enc l _ hmem hle]

def validO (x : Oct) : Bool := decide (countO x ≤ 4000) && decide (depthO x ≤ 12) && (shape0 x && tagsO x) && decide (sizeO x ≤ 65536)
def chkO (x : Oct) : Int := if 4000 < countO x ∨ 12 < depthO x then 4 else if (shape0 x && tagsO x) = false then 8 else if 65536 < sizeO x then 4 else 0
theorem chkO_zero (x : Oct) : chkO x = 0 ↔ validO x = true := by
  unfold chkO validO
  simp only [Bool.and_eq_true, decide_eq_true_eq]
  constructor
  · intro h
    split at h
    · omega
    · split at h
      · omega
      · split at h
        · omega
        · rename_i h1 h2 h3
          have h2 : (shape0 x && tagsO x) = true := by simpa using h2
          simp only [Bool.and_eq_true] at h2
          exact ⟨⟨⟨by omega, by omega⟩, h2⟩, by omega⟩
  · rintro ⟨⟨⟨h1, h2⟩, h3, h4⟩, h5⟩
    rw [if_neg (by omega), if_neg (by simp [h3, h4]), if_neg (by omega)]
def decO (z : Bool) (b : List UInt8) : Option Oct :=
  match takeP z 12 b with
  | some (x, []) => if validO x then some x else none
  | _ => none
theorem dec_iff (z : Bool) (b : List UInt8) (x : Oct) : decO z b = some x ↔ validO x = true ∧ enc x = b := by
  unfold decO
  constructor
  · intro h
    split at h
    · rename_i y hy
      split at h
      · rename_i hv
        cases h
        exact ⟨hv, by have := (take_some z _ _ _ _ hy).1; rw [List.append_nil] at this; exact this.symm⟩
      · cases h
    · cases h
  · rintro ⟨hv, rfl⟩
    have hv' := hv
    simp only [validO, Bool.and_eq_true, decide_eq_true_eq] at hv'
    obtain ⟨⟨⟨h1, h2⟩, h3, h4⟩, h5⟩ := hv'
    have := take_enc z 12 x [] h2 h3 (fun _ => h4) (by omega)
    rw [List.append_nil] at this
    simp only [this, hv, if_true]
theorem enc_inj {x y : Oct} (hx : validO x = true) (hy : validO y = true) (h : enc x = enc y) : x = y := by
  have h1 := (dec_iff true (enc x) x).2 ⟨hx, rfl⟩
  have h2 := (dec_iff true (enc x) y).2 ⟨hy, h.symm⟩
  rw [h1] at h2; cases h2; rfl
end Go.Proofs.YtgekglfmianoeaaGreatDoor

namespace Go.Proofs.YtgekglfmianoeaaGreatDoor
open Go Go.Gp
def lenN (x : Nat) : Nat := if x = 0 then 0 else x.log2 + 1
theorem lenN_shift (k x : Nat) (h : 2 ^ k ≤ x) : lenN x = k + lenN (x / 2 ^ k) := by
  have hp : 0 < 2 ^ k := Nat.two_pow_pos k
  have hx : x ≠ 0 := by omega
  have hy : x / 2 ^ k ≠ 0 := by
    have := (Nat.le_div_iff_mul_le hp).2 (show 1 * 2 ^ k ≤ x by omega)
    omega
  have key : x.log2 = k + (x / 2 ^ k).log2 := by
    apply Nat.le_antisymm
    · rcases Nat.lt_or_ge x.log2 k with h1 | h1
      · omega
      · have : 2 ^ x.log2 ≤ x := (Nat.le_log2 hx).1 (Nat.le_refl _)
        have e : 2 ^ x.log2 = 2 ^ (x.log2 - k) * 2 ^ k := by rw [← Nat.pow_add]; congr 1; omega
        have h2 : 2 ^ (x.log2 - k) ≤ x / 2 ^ k := (Nat.le_div_iff_mul_le hp).2 (by rw [← e]; exact this)
        have := (Nat.le_log2 hy).2 h2
        omega
    · refine (Nat.le_log2 hx).2 ?_
      have : 2 ^ (x / 2 ^ k).log2 ≤ x / 2 ^ k := (Nat.le_log2 hy).1 (Nat.le_refl _)
      have := (Nat.le_div_iff_mul_le hp).1 this
      rw [Nat.pow_add, Nat.mul_comm]; exact this
  unfold lenN
  rw [if_neg hx, if_neg hy, key]; omega
theorem lenN_lt (x : Nat) : x < 2 ^ lenN x := by
  unfold lenN
  split
  · rename_i h; subst h; decide
  · rename_i h; exact (Nat.log2_lt h).1 (Nat.lt_succ_self _)
theorem lenN_ge {x : Nat} (h : x ≠ 0) : 2 ^ (lenN x - 1) ≤ x := by
  unfold lenN; rw [if_neg h]
  exact (Nat.le_log2 h).1 (Nat.le_refl _)
theorem lenN_pos {x : Nat} (h : x ≠ 0) : 1 ≤ lenN x := by unfold lenN; rw [if_neg h]; omega
theorem lenN_le {x k : Nat} (h : x < 2 ^ k) : lenN x ≤ k := by
  unfold lenN
  split
  · omega
  · rename_i h0; have := (Nat.log2_lt h0).2 h; omega

theorem shr_nat (x k : Nat) (K : IntKind) (hk : k ≤ K.bits) : (x : Int).fdiv (2 ^ shAmt K k) = ((x / 2 ^ k : Nat) : Int) := by
  have : shAmt K k = k := by unfold shAmt; omega
  rw [this, Int.fdiv_eq_ediv_of_nonneg _ (Int.le_of_lt (Int.pow_pos (by decide)))]
  push_cast
  rfl
theorem wrap_u8 (n : Nat) : IntKind.u8.wrap (n : Int) = ((n % 256 : Nat) : Int) := by
  simp only [IntKind.wrap, IntKind.bits, IntKind.signed]
  simp
theorem wrap_u64' (n : Nat) (h : n < 18446744073709551616) : IntKind.u64.wrap (n : Int) = n := by
  simp only [IntKind.wrap, IntKind.bits, IntKind.signed]; simp; omega
def tblB : ByteArray := ⟨#[0, 1, 2, 2, 3, 3, 3, 3, 4, 4, 4, 4, 4, 4, 4, 4, 5, 5, 5, 5, 5, 5, 5, 5, 5, 5, 5, 5, 5, 5, 5, 5, 6, 6, 6, 6, 6, 6, 6, 6, 6, 6, 6, 6, 6, 6, 6, 6, 6, 6, 6, 6, 6, 6, 6, 6, 6, 6, 6, 6, 6, 6, 6, 6, 7, 7, 7, 7, 7, 7, 7, 7, 7, 7, 7, 7, 7, 7, 7, 7, 7, 7, 7, 7, 7, 7, 7, 7, 7, 7, 7, 7, 7, 7, 7, 7, 7, 7, 7, 7, 7, 7, 7, 7, 7, 7, 7, 7, 7, 7, 7, 7, 7, 7, 7, 7, 7, 7, 7, 7, 7, 7, 7, 7, 7, 7, 7, 7, 8, 8, 8, 8, 8, 8, 8, 8, 8, 8, 8, 8, 8, 8, 8, 8, 8, 8, 8, 8, 8, 8, 8, 8, 8, 8, 8, 8, 8, 8, 8, 8, 8, 8, 8, 8, 8, 8, 8, 8, 8, 8, 8, 8, 8, 8, 8, 8, 8, 8, 8, 8, 8, 8, 8, 8, 8, 8, 8, 8, 8, 8, 8, 8, 8, 8, 8, 8, 8, 8, 8, 8, 8, 8, 8, 8, 8, 8, 8, 8, 8, 8, 8, 8, 8, 8, 8, 8, 8, 8, 8, 8, 8, 8, 8, 8, 8, 8, 8, 8, 8, 8, 8, 8, 8, 8, 8, 8, 8, 8, 8, 8, 8, 8, 8, 8, 8, 8, 8, 8, 8, 8, 8, 8, 8, 8, 8, 8]⟩
theorem tbl_at : ∀ v, v < 256 → bAt tblB v = UInt8.ofNat (lenN v) := by decide +kernel
set_option maxHeartbeats 8000000 in
theorem len64_fv (WG : World) (x : Nat) (hx : x < 18446744073709551616) : FV Tryz.prog WG 86 [pU64 x] (vI (lenN x)) := by
  refine CallT.pure rfl (CallT_fnT Tryz.func86 (rs := [.tmp 2]) (n := 25) rfl rfl (Nat.le_of_ble_eq_true rfl) rfl ?_)
  refine T_seqC ?_
  simp only [push_cast, reduceIte, Nat.reduceMul, Nat.reduceEqDiff, Nat.reduceAdd, Nat.reduceLT, Nat.reduceLeDiff, reduceCtorEq, Int.reduceToNat]
  have cut : ∀ (k : Nat) (y n : Nat), (2 ^ k ≤ y) → lenN x = n + lenN y → lenN x = (n + k) + lenN (y / 2 ^ k) := fun k y n h1 h2 => by rw [h2, lenN_shift k y h1]; omega
  refine T_cutR (fun p : Nat × Nat => ⟨[(0, .p (pU64 p.1)), (2, vI p.2)], [], 0, 0, 25⟩) (fun p => lenN x = p.2 + lenN p.1 ∧ p.1 < 4294967296 ∧ p.2 ≤ 32) ?_ (fun p hp => ?_)
  · simp only [push_cast, reduceIte, Nat.reduceMul, Nat.reduceEqDiff, Nat.reduceAdd, Nat.reduceLT, Nat.reduceLeDiff, reduceCtorEq, Int.reduceToNat]
    have e : (x : Int).fdiv (2 ^ shAmt .u64 32) = ((x / 4294967296 : Nat) : Int) := shr_nat x 32 .u64 (by decide)
    rw [e]
    refine ⟨fun h => ⟨by omega, (x / 4294967296, 32), ⟨?_, by omega, by omega⟩, [], by simp [LeR, rnf, aget, envR, tabR, injR, notIn, loR, V.rn, V.rnL, V.bd, V.bdL, Blk.rn, Blk.bd, envRn, envBd]⟩, fun h => ⟨(x, 0), ⟨by simp, by simp at h; omega, by omega⟩, [], by simp [LeR, rnf, aget, envR, tabR, injR, notIn, loR, V.rn, V.rnL, V.bd, V.bdL, Blk.rn, Blk.bd, envRn, envBd]⟩⟩
    have := cut 32 x 0 (by simp at h; omega) (by omega)
    simpa using this
  obtain ⟨y, n⟩ := p
  obtain ⟨hp1, hp2, hp3⟩ := hp
  simp only at hp1 hp2 hp3
  refine T_cutR (fun p : Nat × Nat => ⟨[(0, .p (pU64 p.1)), (2, vI p.2)], [], 0, 0, 25⟩) (fun p => lenN x = p.2 + lenN p.1 ∧ p.1 < 65536 ∧ p.2 ≤ 48) ?_ (fun p hp => ?_)
  · simp only [push_cast, reduceIte, Nat.reduceMul, Nat.reduceEqDiff, Nat.reduceAdd, Nat.reduceLT, Nat.reduceLeDiff, reduceCtorEq, Int.reduceToNat]
    have e : (y : Int).fdiv (2 ^ shAmt .u64 16) = ((y / 65536 : Nat) : Int) := shr_nat y 16 .u64 (by decide)
    rw [e, wrap_i64 ((n : Int) + 16) (by omega) (by omega)]
    refine ⟨fun h => ⟨by omega, (y / 65536, n + 16), ⟨cut 16 y n (by simp at h; omega) hp1, by omega, by omega⟩, [], by simp [LeR, rnf, aget, envR, tabR, injR, notIn, loR, V.rn, V.rnL, V.bd, V.bdL, Blk.rn, Blk.bd, envRn, envBd]⟩, fun h => ⟨(y, n), ⟨by omega, by simp at h; omega, by omega⟩, [], by simp [LeR, rnf, aget, envR, tabR, injR, notIn, loR, V.rn, V.rnL, V.bd, V.bdL, Blk.rn, Blk.bd, envRn, envBd]⟩⟩
  clear hp1 hp2 hp3
  obtain ⟨y, n⟩ := p
  obtain ⟨hp1, hp2, hp3⟩ := hp
  simp only at hp1 hp2 hp3
  refine T_cutR (fun p : Nat × Nat => ⟨[(0, .p (pU64 p.1)), (2, vI p.2)], [], 0, 0, 25⟩) (fun p => lenN x = p.2 + lenN p.1 ∧ p.1 < 256 ∧ p.2 ≤ 56) ?_ (fun p hp => ?_)
  · simp only [push_cast, reduceIte, Nat.reduceMul, Nat.reduceEqDiff, Nat.reduceAdd, Nat.reduceLT, Nat.reduceLeDiff, reduceCtorEq, Int.reduceToNat]
    have e : (y : Int).fdiv (2 ^ shAmt .u64 8) = ((y / 256 : Nat) : Int) := shr_nat y 8 .u64 (by decide)
    rw [e, wrap_i64 ((n : Int) + 8) (by omega) (by omega)]
    refine ⟨fun h => ⟨by omega, (y / 256, n + 8), ⟨cut 8 y n (by simp at h; omega) hp1, by omega, by omega⟩, [], by simp [LeR, rnf, aget, envR, tabR, injR, notIn, loR, V.rn, V.rnL, V.bd, V.bdL, Blk.rn, Blk.bd, envRn, envBd]⟩, fun h => ⟨(y, n), ⟨by omega, by simp at h; omega, by omega⟩, [], by simp [LeR, rnf, aget, envR, tabR, injR, notIn, loR, V.rn, V.rnL, V.bd, V.bdL, Blk.rn, Blk.bd, envRn, envBd]⟩⟩
  clear hp1 hp2 hp3
  obtain ⟨y, n⟩ := p
  obtain ⟨hp1, hp2, hp3⟩ := hp
  simp only at hp1 hp2 hp3
  refine T_fin ?_
  simp only [push_cast, reduceIte, Nat.reduceMul, Nat.reduceEqDiff, Nat.reduceAdd, Nat.reduceLT, Nat.reduceLeDiff, reduceCtorEq, Int.reduceToNat]
  change (0 ≤ IntKind.u8.wrap (y : Int) ∧ IntKind.u8.wrap (y : Int) < (tblB.size : Int)) ∧ Value.int .i64 (IntKind.i64.wrap (n + IntKind.i64.wrap ((bAt tblB (IntKind.u8.wrap (y : Int)).toNat).toNat))) = _
  have hl := lenN_le (show y < 2 ^ 8 from hp2)
  have hsz : tblB.size = 256 := by decide
  rw [wrap_u8, Nat.mod_eq_of_lt hp2, Int.toNat_natCast, tbl_at y hp2, ou8_nat (by omega), wrap_i64 (lenN y) (by omega) (by omega), wrap_i64 _ (by omega) (by omega), hsz]
  exact ⟨⟨by omega, by omega⟩, by rw [hp1]; simp⟩

set_option maxHeartbeats 4000000 in
theorem lenI_fv (WG : World) (x : Nat) (hx : x < 18446744073709551616) : FV Tryz.prog WG 161 [pU64 x] (vI (lenN x)) := by
  refine CallT.pure rfl (CallT_fn Tryz.func161 (rs := [.tmp 2]) (n := 8) rfl rfl (Nat.le_of_ble_eq_true rfl) rfl ?_)
  simp only [push_cast, reduceIte, Nat.reduceMul, Nat.reduceEqDiff, Nat.reduceAdd, Nat.reduceLT, Nat.reduceLeDiff, reduceCtorEq, Int.reduceToNat]
  refine (len64_fv WG x hx).call rfl ?_
  simp only [push_cast, reduceIte, Nat.reduceMul, Nat.reduceEqDiff, Nat.reduceAdd, Nat.reduceLT, Nat.reduceLeDiff, reduceCtorEq, Int.reduceToNat]

def nbN (x : Nat) : Nat := (lenN x + 7) / 8
theorem nbN_lt (x : Nat) : x < 256 ^ nbN x := by
  have h := lenN_lt x
  have : (256 : Nat) ^ nbN x = 2 ^ (8 * nbN x) := by rw [show (256 : Nat) = 2 ^ 8 from rfl, ← Nat.pow_mul]
  rw [this]
  exact Nat.lt_of_lt_of_le h (Nat.pow_le_pow_right (by omega) (by unfold nbN; omega))
theorem nbN_ge {x : Nat} (h : x ≠ 0) : 256 ^ (nbN x - 1) ≤ x := by
  have h1 := lenN_ge h
  have h2 := lenN_pos h
  have : (256 : Nat) ^ (nbN x - 1) = 2 ^ (8 * (nbN x - 1)) := by rw [show (256 : Nat) = 2 ^ 8 from rfl, ← Nat.pow_mul]
  rw [this]
  exact Nat.le_trans (Nat.pow_le_pow_right (by omega) (by unfold nbN; omega)) h1
theorem nbN_le {x k : Nat} (h : x < 256 ^ k) : nbN x ≤ k := by
  have : (256 : Nat) ^ k = 2 ^ (8 * k) := by rw [show (256 : Nat) = 2 ^ 8 from rfl, ← Nat.pow_mul]
  rw [this] at h
  have := lenN_le h
  unfold nbN; omega
theorem nbN_gt {x k : Nat} (h : 256 ^ k ≤ x) : k < nbN x := by
  rcases Nat.lt_or_ge k (nbN x) with h1 | h1
  · exact h1
  · have := nbN_lt x
    have := Nat.pow_le_pow_right (show 1 ≤ 256 by omega) h1
    omega
def wideN (n : Nat) : Nat := if n < 128 then 1 else 1 + nbN n
theorem wide_len {n : Nat} (h : n < 16777216) : wideN n = (lenB n).length := by
  rw [lenB_len]; unfold wideN
  split
  · rfl
  · split
    · have := nbN_le (x := n) (k := 1) (by omega)
      have := nbN_gt (x := n) (k := 0) (by omega)
      omega
    · split
      · have := nbN_le (x := n) (k := 2) (by omega)
        have := nbN_gt (x := n) (k := 1) (by omega)
        omega
      · have := nbN_le (x := n) (k := 3) (by omega)
        have := nbN_gt (x := n) (k := 2) (by omega)
        omega
set_option maxHeartbeats 4000000 in
theorem wide8_fv (WG : World) (n : Nat) (hn : n < 9223372036854775808) : FV Tryz.prog WG 132 [pI n] (vI (wideN n)) := by
  refine CallT.pure rfl (CallT_fn Tryz.func132 (rs := [.tmp 2]) (n := 11) rfl rfl (Nat.le_of_ble_eq_true rfl) rfl ?_)
  simp only [push_cast, reduceIte, Nat.reduceMul, Nat.reduceEqDiff, Nat.reduceAdd, Nat.reduceLT, Nat.reduceLeDiff, reduceCtorEq, Int.reduceToNat]
  refine ⟨fun h => ?_, fun h => ?_⟩
  · have : n < 128 := by simp at h; omega
    rw [wideN, if_pos this]; rfl
  · have h1 : ¬ n < 128 := by simp at h; omega
    rw [wrap_u64' n (by omega)]
    refine (lenI_fv WG n (by omega)).call rfl ?_
    simp only [push_cast, reduceIte, Nat.reduceMul, Nat.reduceEqDiff, Nat.reduceAdd, Nat.reduceLT, Nat.reduceLeDiff, reduceCtorEq, Int.reduceToNat]
    have hl := lenN_le (show n < 2 ^ 63 by omega)
    have e1 : IntKind.i64.wrap ((lenN n : Int) + 7) = ((lenN n + 7 : Nat) : Int) := by rw [wrap_i64 _ (by omega) (by omega)]; omega
    have e2 : (((lenN n + 7 : Nat) : Int)).tdiv 8 = ((nbN n : Nat) : Int) := rfl
    have e3 : nbN n ≤ 9 := by unfold nbN; omega
    rw [e1, e2, wrap_i64 (nbN n) (by omega) (by omega), wrap_i64 _ (by omega) (by omega)]
    refine ⟨by decide, ?_⟩
    rw [wideN, if_neg h1]; simp

def numF : Nat → Nat → List UInt8
  | 0, _ => []
  | k + 1, x => if x = 0 then [] else numF k (x / 256) ++ [UInt8.ofNat x]
def numB (x : Nat) : List UInt8 := numF 9 x
theorem numF_eq : ∀ (k m x : Nat), x < 256 ^ k → x < 256 ^ m → numF k x = numF m x
  | 0, m, x, h, _ => by
    have : x = 0 := by simpa using h
    subst this; cases m <;> simp [numF]
  | k + 1, 0, x, _, h => by
    have : x = 0 := by simpa using h
    subst this; simp [numF]
  | k + 1, m + 1, x, h1, h2 => by
    simp only [numF]
    split
    · rfl
    · rw [numF_eq k m (x / 256) (by rw [Nat.pow_succ] at h1; exact Nat.div_lt_of_lt_mul (by omega)) (by rw [Nat.pow_succ] at h2; exact Nat.div_lt_of_lt_mul (by omega))]
theorem numB_zero : numB 0 = [] := rfl
theorem numB_step {x : Nat} (h : x ≠ 0) (hx : x < 18446744073709551616) : numB x = numB (x / 256) ++ [UInt8.ofNat x] := by
  have : numB x = numF 8 (x / 256) ++ [UInt8.ofNat x] := by unfold numB; rw [numF, if_neg h]
  rw [this, numB, numF_eq 8 9 (x / 256) (by omega) (by omega)]

mutual
def octP : Oct → PV
  | .mk t b l => .agg [pU8 t.toNat, .sl 1 (bytesP b), .sl 3 (octPL l)]
def octPL : List Oct → List PV
  | [] => []
  | x :: r => octP x :: octPL r
end
theorem octPL_map : ∀ l : List Oct, octPL l = l.map octP
  | [] => rfl
  | x :: r => by rw [octPL, List.map_cons, octPL_map r]
theorem octP_mk (t : UInt8) (b : List UInt8) (l : List Oct) : octP (.mk t b l) = .agg [pU8 t.toNat, .sl 1 (bytesP b), .sl 3 (l.map octP)] := by rw [octP, octPL_map]
theorem bytesP_snoc (l : List UInt8) (n : Nat) : bytesP l ++ [.v (.int .u8 ((n % 256 : Nat) : Int))] = bytesP (l ++ [UInt8.ofNat n]) := by
  simp [bytesP, byteP]

set_option maxHeartbeats 8000000 in
theorem num8_fv (WG : World) (t : UInt8) (x : Nat) (hx : x < 18446744073709551616) : FV Tryz.prog WG 36 [pU8 t.toNat, pU64 x] (.p (octP (.mk t (numB x) []))) := by
  refine CallT.pureS rfl (CallT_fnT Tryz.func36 (rs := [.cell 4 77]) (n := 29) rfl rfl (Nat.le_of_ble_eq_true rfl) rfl ?_)
  refine T_seqC ?_
  simp only [push_cast, reduceIte, Nat.reduceMul, Nat.reduceEqDiff, Nat.reduceAdd, Nat.reduceLT, Nat.reduceLeDiff, reduceCtorEq, Int.reduceToNat]
  refine T_seqC ?_
  simp only [push_cast, reduceIte, Nat.reduceMul, Nat.reduceEqDiff, Nat.reduceAdd, Nat.reduceLT, Nat.reduceLeDiff, reduceCtorEq, Int.reduceToNat]
  refine T_nilBox 1 1 1 rfl rfl ?_
  refine T_nilBox 1 2 3 rfl rfl ?_
  refine T_seqC ?_
  simp only [push_cast, reduceIte, Nat.reduceMul, Nat.reduceEqDiff, Nat.reduceAdd, Nat.reduceLT, Nat.reduceLeDiff, reduceCtorEq, Int.reduceToNat]
  refine (len64_fv WG x hx).call rfl ?_
  simp only [push_cast, reduceIte, Nat.reduceMul, Nat.reduceEqDiff, Nat.reduceAdd, Nat.reduceLT, Nat.reduceLeDiff, reduceCtorEq, Int.reduceToNat]
  have hl := lenN_le (show x < 2 ^ 64 by omega)
  have e1 : IntKind.i64.wrap ((lenN x : Int) + 7) = ((lenN x + 7 : Nat) : Int) := by rw [wrap_i64 _ (by omega) (by omega)]; omega
  have e2 : (((lenN x + 7 : Nat) : Int)).tdiv 8 = ((nbN x : Nat) : Int) := rfl
  have e3 : nbN x ≤ 8 := by unfold nbN; omega
  rw [e1, e2, wrap_i64 (nbN x) (by omega) (by omega)]
  refine ⟨by decide, ?_⟩
  refine T_loopR (fun i : Nat => ⟨[(1, .p (pU64 x)), (4, .ref 0 0), (5, .ref 1 0), (6, vI i)], [(0, .box [.p (pU8 0), .p (.v (.slice none 0 0)), .p (.v (.slice none 0 0))]), (1, .box [.p (pU8 t.toNat), .osl 2 1 0 (nbN x - i) none, .osl 3 3 0 0 none]), (2, .arr 1 (bytesP (numB (x / 256 ^ i))) true), (3, .arr 3 [] true)], 4, 0, 29⟩)
    (fun i => i ≤ nbN x ∧ (numB (x / 256 ^ i)).length = nbN x - i) (fun i => i) (nbN x) [] ?_ ?_ (fun i hi => ?_)
  · have : x / 256 ^ nbN x = 0 := Nat.div_eq_of_lt (nbN_lt x)
    rw [this]; simp [numB_zero]
  · have : x / 256 ^ nbN x = 0 := Nat.div_eq_of_lt (nbN_lt x)
    simp [LeR, rnf, aget, envR, tabR, injR, notIn, loR, V.rn, V.rnL, V.bd, V.bdL, Blk.rn, Blk.bd, envRn, envBd, this, numB_zero, bytesP]
  simp only [push_cast, reduceIte, Nat.reduceMul, Nat.reduceEqDiff, Nat.reduceAdd, Nat.reduceLT, Nat.reduceLeDiff, reduceCtorEq, Int.reduceToNat]
  obtain ⟨hi1, hi2⟩ := hi
  refine ⟨fun h1 => ?_, fun h1 => ?_⟩
  · have h2 : 0 < i := by simpa using h1
    have h2e : x / 256 ^ (i - 1) / 256 = x / 256 ^ i := by rw [Nat.div_div_eq_div_mul, ← Nat.pow_succ, show (i - 1).succ = i by omega]
    have hne : x / 256 ^ (i - 1) ≠ 0 := by
      have hx0 : x ≠ 0 := fun e => by subst e; have : nbN 0 = 0 := rfl; omega
      have := Nat.le_trans (Nat.pow_le_pow_right (show 1 ≤ 256 by omega) (show i - 1 ≤ nbN x - 1 by omega)) (nbN_ge hx0)
      have := Nat.div_pos this (Nat.pow_pos (n := i - 1) (show 0 < 256 by omega))
      omega
    have hlt : x / 256 ^ (i - 1) < 18446744073709551616 := Nat.lt_of_le_of_lt (Nat.div_le_self _ _) hx
    have hst := numB_step hne hlt
    rw [h2e] at hst
    refine T_drawS [9, 11] [] mixed (by kernel_rfl) ?_
    simp only [push_cast, reduceIte, Nat.reduceMul, Nat.reduceEqDiff, Nat.reduceAdd, Nat.reduceLT, Nat.reduceLeDiff, reduceCtorEq, Int.reduceToNat]
    have hw : IntKind.i64.wrap (8 * IntKind.i64.wrap ((i : Int) - 1)) = ((8 * (i - 1) : Nat) : Int) := by
      rw [wrap_i64 ((i : Int) - 1) (by omega) (by omega), wrap_i64 _ (by omega) (by omega)]; omega
    have hv : IntKind.u8.wrap ((x : Int).fdiv (2 ^ shAmt .u64 ((8 * (i - 1) : Nat) : Int))) = ((x / 256 ^ (i - 1) % 256 : Nat) : Int) := by
      rw [shr_nat x (8 * (i - 1)) .u64 (by show 8 * (i - 1) ≤ 64; omega), wrap_u8, Nat.pow_mul]
    have hc : (bytesP (numB (x / 256 ^ i))).take (nbN x - i) ++ [.v (.int .u8 ((x / 256 ^ (i - 1) % 256 : Nat) : Int))] = bytesP (numB (x / 256 ^ (i - 1))) := by
      rw [List.take_of_length_le (by rw [bytesP_length, hi2]; omega), bytesP_snoc, hst]
    rw [hw, hv]
    refine ⟨by omega, ⟨by rw [bytesP_length, hi2]; omega, by omega⟩, i - 1, ⟨by omega, by rw [hst, List.length_append, hi2, List.length_singleton]; omega⟩, by omega, [(2, 4)], ?_⟩
    simp only [LeR, rnf, aget, envR, tabR, injR, notIn, loR, V.rn, V.rnL, V.bd, V.bdL, Blk.rn, Blk.bd, envRn, envBd, hc, wrap_i64 ((i : Int) - 1) (by omega) (by omega)]
    simp
    omega
  · have : i = 0 := by simp at h1; omega
    subst this
    refine T_fin ?_
    simp only [push_cast, reduceIte, Nat.reduceMul, Nat.reduceEqDiff, Nat.reduceAdd, Nat.reduceLT, Nat.reduceLeDiff, reduceCtorEq, Int.reduceToNat]
    have e4 : x / 256 ^ 0 = x := by simp
    rw [e4] at hi2 ⊢
    have e5 : nbN x - 0 ≤ (bytesP (numB x)).length := by rw [bytesP_length, hi2]; omega
    simp only [if_pos e5]
    rw [List.take_of_length_le (by rw [bytesP_length, hi2]; omega), octP_mk]
    rfl

set_option maxHeartbeats 4000000 in
theorem str8_fv (WG : World) (t : UInt8) (s : ByteArray) : FV Tryz.prog WG 37 [pU8 t.toNat, pS s] (.p (octP (.mk t s.data.toList []))) := by
  refine CallT.pureS rfl (CallT_fnT Tryz.func37 (rs := [.cell 4 77]) (n := 9) rfl rfl (Nat.le_of_ble_eq_true rfl) rfl ?_)
  refine T_seqC ?_
  simp only [push_cast, reduceIte, Nat.reduceMul, Nat.reduceEqDiff, Nat.reduceAdd, Nat.reduceLT, Nat.reduceLeDiff, reduceCtorEq, Int.reduceToNat]
  refine T_seqC ?_
  simp only [push_cast, reduceIte, Nat.reduceMul, Nat.reduceEqDiff, Nat.reduceAdd, Nat.reduceLT, Nat.reduceLeDiff, reduceCtorEq, Int.reduceToNat]
  refine T_nilBox 0 2 3 rfl rfl ?_
  refine T_fin ?_
  simp only [push_cast, reduceIte, Nat.reduceMul, Nat.reduceEqDiff, Nat.reduceAdd, Nat.reduceLT, Nat.reduceLeDiff, reduceCtorEq, Int.reduceToNat]
  have hl : (bytesP s.data.toList).length = s.size := by rw [bytesP_length, Array.length_toList]; rfl
  simp [octP_mk, List.take_of_length_le, hl]
end Go.Proofs.YtgekglfmianoeaaGreatDoor
