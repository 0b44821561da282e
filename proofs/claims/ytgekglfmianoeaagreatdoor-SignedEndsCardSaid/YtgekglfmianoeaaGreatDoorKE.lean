/-
  A call over some own memory: its contract over that memory alone, under its own numbers, holds over any. Loops over functions that call their loop's body in turn.
  Code beside memory that it does not touch; rounds of loops over functions beside such memory.
  Memory let go; what a loop over a function asks of its rounds.
  Panics: the operation, and a region drawn in which a call panics.
  A function that puts a call off; the call that was put off, which may recover.
  The function put off, from its body: it recovers first.
  Data told of with less: an empty slice where there is nil, at any depth; results and temporaries.
  Draws, told shorter: no pair of load and memory is to be looked at again; behind a call nothing is evaluated until what it gives is named.
  Draws in which a box is made at any time, and filled at the end.
  Draws with loads to be looked at again; behind a call nothing is evaluated until what it gives is named.
-/
import Derived.Test.YtgekglfmianoeaaGreatDoorKC
import Derived.RecoverIn
set_option linter.unusedSimpArgs false
set_option linter.unusedVariables false
set_option maxRecDepth 20000
namespace Go.Gp
open Go.RowKit
theorem VR.rnF {w : World} {ok ok' : Nat → Prop} {j0 j : Nat → Option Loc} {n0 nx : Nat} {f : Nat → Nat} (hok : ∀ k, ok k → ok' k) (hj : ∀ b, b < n0 → j (f b) = j0 b ∧ f b < nx) {v : V} {m : Value} (h : VR w ok j0 n0 v m) : VR w ok' j nx (V.rn f v) m := by
  have mem : ∀ {l : List V} {ms : Array Value}, (∀ (i : Nat) c, l[i]? = some c → VR w ok' j nx (V.rn f c) (ms.getD i undef)) → ∀ (i : Nat) c, (V.rnL f l)[i]? = some c → VR w ok' j nx c (ms.getD i undef) := by
    intro l ms ih i c hi
    rw [V.rnL_get] at hi
    cases hq : l[i]? with
    | none => simp [hq] at hi
    | some x => simp [hq] at hi; subst hi; exact ih i x hq
  induction h with
  | p hp => exact .p (hp.mono (fun k hk => ⟨hok k hk, rfl⟩))
  | ref hb hl hq => exact .ref (hj _ hb).2 ((hj _ hb).1.trans hl) hq
  | eref hb hl hq => exact .eref (hj _ hb).2 ((hj _ hb).1.trans hl) hq
  | oslNil hb hl => exact .oslNil (hj _ hb).2 ((hj _ hb).1.trans hl)
  | oslEnd hb hl hlo hc => exact .oslEnd (hj _ hb).2 ((hj _ hb).1.trans hl) hlo hc
  | osl hb hl hq hlen hc hs hn => exact .osl (hj _ hb).2 ((hj _ hb).1.trans hl) hq hlen hc hs hn
  | bsl hb hl hq hlen => exact .bsl (hj _ hb).2 ((hj _ hb).1.trans hl) hq hlen
  | bslEnd => exact .bslEnd
  | agg hlen hone _ ih =>
    refine .agg (by rw [V.rnL_length]; exact hlen) (fun i c hi => ?_) (mem ih)
    rw [V.rnL_get] at hi
    rename_i cs ms _
    cases hq : cs[i]? with
    | none => simp [hq] at hi
    | some x => simp [hq] at hi; subst hi; rw [V.rn_one]; exact hone i x hq
  | tup hlen _ ih => exact .tup (by rw [V.rnL_length]; exact hlen) (mem ih)
  | clo h1 h2 _ _ ih1 ih2 => exact .clo (by rw [V.rnL_length]; exact h1) (by rw [V.rnL_length]; exact h2) (mem ih1) (mem ih2)
  | ifc _ ih => exact .ifc ih
  | mp hb hl => exact .mp (hj _ hb).2 ((hj _ hb).1.trans hl)
  | zc => exact .zc
  | cnd _ h0 ih => exact .cnd ih h0
  | yld hb hl => exact .yld (hj _ hb).2 ((hj _ hb).1.trans hl)

theorem BlkR.rnF {w : World} {ok ok' : Nat → Prop} {j0 j : Nat → Option Loc} {n0 nx b : Nat} {f : Nat → Nat} (hok : ∀ k, ok k → ok' k) (hj : ∀ b, b < n0 → j (f b) = j0 b ∧ f b < nx) (hb : b < n0) {x : Blk} (h : BlkR w ok j0 n0 b x) : BlkR w ok' j nx (f b) (x.rn f) := by
  cases x with
  | box cs =>
    obtain ⟨l, ms, e, fr, hl, hh, hfr, hs, h1, hr⟩ := h
    refine ⟨l, ms, e, fr, (hj b hb).1.trans hl, hh, hfr, by rw [V.rnL_length]; exact hs, fun i c hi => ?_, fun i c hi => ?_⟩
    · rw [V.rnL_get] at hi
      cases hq : cs[i]? with
      | none => simp [hq] at hi
      | some x => simp [hq] at hi; subst hi; rw [V.rn_one]; exact h1 i x hq
    · rw [V.rnL_get] at hi
      cases hq : cs[i]? with
      | none => simp [hq] at hi
      | some x => simp [hq] at hi; subst hi; exact (hr i x hq).rnF hok hj
  | arr s xs gr =>
    rcases h with ⟨hl, hx⟩ | ⟨l, ms, e, fr, hl, hh, hfr, hs, hx, hg, h0, h1, hr⟩
    · exact .inl ⟨(hj b hb).1.trans hl, hx⟩
    · exact .inr ⟨l, ms, e, fr, (hj b hb).1.trans hl, hh, hfr, hs, hx, hg, h0, h1, fun i k x y h1 h2 => (hr i k x y h1 h2).mono (fun k hk => ⟨hok k hk, rfl⟩)⟩
  | mp kk es =>
    obtain ⟨l, ms, ck, hl, hh, hs, hr⟩ := h
    refine ⟨l, ms, ck, (hj b hb).1.trans hl, hh, hs, fun i k v hi => ?_⟩
    obtain ⟨e, h1, h2, h3, h4⟩ := hr i k v hi
    exact ⟨e, h1, h2, h3, h4.mono (fun k hk => ⟨hok k hk, rfl⟩)⟩
  | lp s c env =>
    obtain ⟨l, q, hl, hh, h1, h2, h3, h4, h5, hr⟩ := h
    refine ⟨l, q, (hj b hb).1.trans hl, hh, h1, h2, h3, h4, h5, fun t v ht => ?_⟩
    rw [aget_envRn] at ht
    obtain ⟨u, hu, rfl⟩ := Option.map_eq_some_iff.1 ht
    obtain ⟨m, a, b⟩ := hr t u hu
    exact ⟨m, a, b.rnF hok hj⟩

def frf (L : List (Nat × Nat)) (nx0 nx : Nat) (b : Nat) : Nat := if b < nx0 then rnf L b else b - nx0 + nx
def trn (f : Nat → Nat) : Tab → Tab
  | [] => []
  | (k, x) :: r => (f k, x.rn f) :: trn f r
def restT (L : List (Nat × Nat)) (tab : Tab) : Tab → Tab
  | [] => tab
  | (b, _) :: r => adel (restT L tab r) (rnf L b)

theorem trn_get {f : Nat → Nat} : ∀ {t : Tab} {b : Nat} {x : Blk}, aget (trn f t) b = some x → ∃ k y, aget t k = some y ∧ f k = b ∧ x = y.rn f
  | [], b, x, h => by simp [trn, aget] at h
  | (q, y) :: r, b, x, h => by
    simp only [trn, aget] at h
    split at h
    · rename_i e; cases h; exact ⟨q, y, by simp [aget], e, rfl⟩
    · rename_i e
      obtain ⟨k, z, h1, h2, h3⟩ := trn_get h
      refine ⟨k, z, ?_, h2, h3⟩
      simp only [aget]
      rw [if_neg (fun e' => e (by rw [e', h2])), h1]
theorem restT_get {L : List (Nat × Nat)} {tab : Tab} : ∀ {t : Tab} {b : Nat} {x : Blk}, aget (restT L tab t) b = some x → aget tab b = some x ∧ ∀ k y, aget t k = some y → b ≠ rnf L k
  | [], b, x, h => ⟨h, fun k y hk => by simp [aget] at hk⟩
  | (q, z) :: r, b, x, h => by
    simp only [restT, aget_adel] at h
    split at h
    · cases h
    · rename_i e
      obtain ⟨h1, h2⟩ := restT_get h
      refine ⟨h1, fun k y hk => ?_⟩
      simp only [aget] at hk
      split at hk
      · rename_i e'; subst e'; exact e
      · exact h2 k y hk

section
variable {P : Program} {WG : World}
theorem CallT.frameL (L : List (Nat × Nat)) {f : FuncId} {vs vs0 : List V} {tab tab0 : Tab} {nx nx0 : Nat} {K KP K0 KP0 : V → Tab → Nat → Prop} (h : CallT P WG f vs0 tab0 nx0 K0 KP0)
    (hvs : vs = V.rnL (rnf L) vs0) (hbd : V.bdL nx0 vs0) (htab : tabR L nx0 tab tab0) (hinj : injR L tab0) (hlt : ∀ k, k < nx0 → rnf L k < nx)
    (hk : ∀ r t n, K0 r t n → K (V.rn (frf L nx0 nx) r) (restT L tab tab0 ++ trn (frf L nx0 nx) t) (nx + (n - nx0))) (hp : ∀ r t n, KP0 r t n → KP (V.rn (frf L nx0 nx) r) (restT L tab tab0 ++ trn (frf L nx0 nx) t) (nx + (n - nx0))) :
    CallT P WG f vs tab nx K KP := by
  intro C j w ms h1 h2 h3 h4 hm hvv
  let j0 : Nat → Option Loc := fun k => j (rnf L k)
  have hsub : ∀ k, Own j0 tab0 k → Own j tab k := fun k ⟨b, x, l, hb, hl, e⟩ => ⟨_, _, l, (tabR_get htab b x hb).1, hl, e⟩
  let C0 : Ctx := ⟨nx0, j0, Own j0 tab0, okc C (Own j tab) w, w, none, []⟩
  have hok0 : ∀ k, okc C (Own j tab) w k → okc C0 (Own j0 tab0) w k := fun k hk => ⟨hk.1, fun hn => hk.2.1 (hsub k hn), .inl hk⟩
  have hm0 : MemR WG C0 j0 tab0 nx0 w := {
    nb := Nat.le_refl _
    low := fun b x hb => (tabR_get htab b x hb).2.1
    blk := fun b x hb => by
      obtain ⟨e1, e2, e3⟩ := tabR_get htab b x hb
      have := (hm.blk _ _ e1).mono (ok' := okc C0 (Own j0 tab0) w) (fun k hk => ⟨hok0 k hk, rfl⟩) (fun b h => ⟨rfl, h⟩) (hm.low _ _ e1) (fun _ _ => rfl)
      exact this.unrn e3
    apart := fun b b' x x' l l' hb hb' hne hl hl' => hm.apart _ _ _ _ l l' (tabR_get htab b x hb).1 (tabR_get htab b' x' hb').1 (injR_get hinj b b' x x' hb hb' hne) hl hl'
    agree := fun b _ => rfl
    own := fun k hk => .inl hk
    ownG := fun k hk => hm.ownG k (hsub k hk)
    size := Nat.le_refl _
    keep := fun _ _ _ => rfl
    os := rfl
    tape := rfl
    output := rfl
    glob := hm.glob
    rd := fun k hk => ⟨hk.1, fun h => hk.2.1 (hsub k h)⟩ }
  have hvs0 : VRs w (okc C0 (Own j0 tab0) w) j0 nx0 vs0 ms := by
    refine ⟨by rw [hvv.1, hvs, V.rnL_length], fun i v hv => ?_⟩
    have := hvv.2 i (V.rn (rnf L) v) (by rw [hvs, V.rnL_get, hv]; rfl)
    exact (this.mono (fun k hk => ⟨hok0 k hk, rfl⟩) (fun b h => ⟨rfl, h⟩)).unrn v rfl (V.bdL_get hbd hv)
  have fin : ∀ (j1 : Nat → Option Loc) (t : Tab) (n : Nat) (w' : World), MemR WG C0 j1 t n w' →
      MemR WG C (fun b => if b < nx then j b else j1 (b - nx + nx0)) (restT L tab tab0 ++ trn (frf L nx0 nx) t) (nx + (n - nx0)) w' ∧
      ∀ r m, VR w' (okc C0 (Own j1 t) w') j1 n r m → VR w' (okc C (Own (fun b => if b < nx then j b else j1 (b - nx + nx0)) (restT L tab tab0 ++ trn (frf L nx0 nx) t)) w') (fun b => if b < nx then j b else j1 (b - nx + nx0)) (nx + (n - nx0)) (V.rn (frf L nx0 nx) r) m := by
    intro j1 t n w' h'
    have hn : nx0 ≤ n := h'.nb
    let J : Nat → Option Loc := fun b => if b < nx then j b else j1 (b - nx + nx0)
    let g : Nat → Nat := frf L nx0 nx
    have hJ1 : ∀ b, b < nx → J b = j b ∧ b < nx + (n - nx0) := fun b hb => ⟨by simp [J, hb], by omega⟩
    have hJ2 : ∀ b, b < n → J (g b) = j1 b ∧ g b < nx + (n - nx0) := fun b hb => by
      by_cases e : b < nx0
      · have eg : g b = rnf L b := by simp [g, frf, e]
        have := hlt b e
        rw [eg]
        refine ⟨?_, by omega⟩
        rw [(hJ1 _ this).1]; exact (h'.agree b e).symm
      · have eg : g b = b - nx0 + nx := by simp [g, frf, e]
        rw [eg]
        refine ⟨?_, by omega⟩
        show (if _ then _ else _) = _
        rw [if_neg (by omega)]; congr 1; omega
    have hget : ∀ b x, aget (restT L tab tab0 ++ trn g t) b = some x → (aget tab b = some x ∧ b < nx ∧ ∀ k y, aget tab0 k = some y → b ≠ rnf L k) ∨ (∃ k y, aget t k = some y ∧ g k = b ∧ x = y.rn g) := by
      intro b x hb
      rw [aget_append] at hb
      split at hb
      · rename_i y hy; cases hb
        obtain ⟨h1, h2⟩ := restT_get hy
        exact .inl ⟨h1, hm.low b x h1, h2⟩
      · exact .inr (trn_get hb)
    have hown : ∀ k, Own J (restT L tab tab0 ++ trn g t) k → (Own j tab k ∧ ¬ Own j0 tab0 k) ∨ Own j1 t k := by
      rintro k ⟨b, x, l, hb, hl, rfl⟩
      rcases hget b x hb with ⟨hx, hlt', hne⟩ | ⟨k, y, hy, hg, rfl⟩
      · have hl' : j b = some l := by rw [← (hJ1 b hlt').1]; exact hl
        refine .inl ⟨⟨b, x, l, hx, hl', rfl⟩, ?_⟩
        rintro ⟨c, z, l2, hc, hl2, he⟩
        exact hm.apart b (rnf L c) _ _ l l2 hx (tabR_get htab c z hc).1 (hne c z hc) hl' hl2 he.symm
      · refine .inr ⟨k, y, l, hy, ?_, rfl⟩
        rw [← (hJ2 k (h'.low k y hy)).1, hg]; exact hl
    have hkeep : ∀ k, k < w.heap.size → ¬ Own j0 tab0 k → w'.heap[k]? = w.heap[k]? := fun k hk h0 => h'.keep k hk h0
    have hsz : w.heap.size ≤ w'.heap.size := h'.size
    have hown0 : ∀ k, Own j1 t k → Own j0 tab0 k ∨ w.heap.size ≤ k := fun k hk => h'.own k hk
    have hok1 : ∀ k, okc C (Own j tab) w k → okc C (Own J (restT L tab tab0 ++ trn g t)) w' k ∧ w'.heap[k]? = w.heap[k]? := by
      rintro k ⟨a1, a2, a3⟩
      refine ⟨⟨by omega, fun hn => ?_, a3⟩, hkeep k a1 (fun h => a2 (hsub k h))⟩
      rcases hown k hn with h | h
      · exact a2 h.1
      · rcases hown0 k h with h | h
        · exact a2 (hsub k h)
        · omega
    have hok2 : ∀ k, okc C0 (Own j1 t) w' k → okc C (Own J (restT L tab tab0 ++ trn g t)) w' k := by
      rintro k ⟨a1, a2, a3⟩
      rcases a3 with a3 | a3 | a3
      · exact (hok1 k a3).1
      · refine ⟨a1, fun hn => ?_, ?_⟩
        · rcases hown k hn with h | h
          · exact h.2 a3
          · exact a2 h
        · right; left; rw [h3]; exact hsub k a3
      · refine ⟨a1, fun hn => ?_, ?_⟩
        · rcases hown k hn with h | h
          · have := hm.own_lt h.1; simp only [C0] at a3; omega
          · exact a2 h
        · right; right; rw [h4]; exact a3
    have oldlt : ∀ b x l, aget tab b = some x → j b = some l → l.blk < w.heap.size := fun b x l hx hl => (hm.blk b x hx).lt hl
    refine ⟨?_, fun r m hv => hv.rnF hok2 hJ2⟩
    exact {
      nb := by rw [h1]; omega
      low := fun b x hb => by
        rcases hget b x hb with ⟨_, hlt', _⟩ | ⟨k, y, hy, hg, _⟩
        · omega
        · rw [← hg]; exact (hJ2 k (h'.low k y hy)).2
      blk := fun b x hb => by
        rcases hget b x hb with ⟨hx, hlt', hne⟩ | ⟨k, y, hy, hg, rfl⟩
        · refine (hm.blk b x hx).mono hok1 hJ1 hlt' (fun l hl => hkeep _ ((hm.blk b x hx).lt hl) ?_)
          rintro ⟨c, z, l2, hc, hl2, he⟩
          exact hm.apart b (rnf L c) _ _ l l2 hx (tabR_get htab c z hc).1 (hne c z hc) hl hl2 he.symm
        · rw [← hg]; exact (h'.blk k y hy).rnF hok2 hJ2 (h'.low k y hy)
      apart := fun b b' x x' l l' hb hb' hne hl hl' => by
        have mix : ∀ (b b' : Nat) (x y' : Blk) (k' : Nat) (l l' : Loc), aget tab b = some x → b < nx → (∀ k y, aget tab0 k = some y → b ≠ rnf L k) → aget t k' = some y' → g k' = b' → J b = some l → J b' = some l' → l.blk ≠ l'.blk := by
          intro b b' x y' k' l l' hx hlt' hne hy' hg' hl hl' he
          have e1 : j b = some l := by rw [← (hJ1 b hlt').1]; exact hl
          have e2 : j1 k' = some l' := by rw [← (hJ2 k' (h'.low k' y' hy')).1, hg']; exact hl'
          rcases hown0 l'.blk ⟨k', y', l', hy', e2, rfl⟩ with ⟨c, z, l2, hc, hl2, he2⟩ | h
          · exact hm.apart b (rnf L c) _ _ l l2 hx (tabR_get htab c z hc).1 (hne c z hc) e1 hl2 (by rw [he, he2])
          · have := oldlt b x l hx e1; omega
        rcases hget b x hb with ⟨hx, hlt', hn1⟩ | ⟨k, y, hy, hg, rfl⟩ <;> rcases hget b' x' hb' with ⟨hx', hlt2, hn2⟩ | ⟨k', y', hy', hg', rfl⟩
        · exact hm.apart b b' x x' l l' hx hx' hne (by rw [← (hJ1 b hlt').1]; exact hl) (by rw [← (hJ1 b' hlt2).1]; exact hl')
        · exact mix b b' x y' k' l l' hx hlt' hn1 hy' hg' hl hl'
        · exact fun he => mix b' b x' y k l' l hx' hlt2 hn2 hy hg hl' hl he.symm
        · have e1 : j1 k = some l := by rw [← (hJ2 k (h'.low k y hy)).1, hg]; exact hl
          have e2 : j1 k' = some l' := by rw [← (hJ2 k' (h'.low k' y' hy')).1, hg']; exact hl'
          exact h'.apart k k' y y' l l' hy hy' (fun e => hne (by rw [← hg, ← hg', e])) e1 e2
      agree := fun b hb => by
        rw [h1] at hb
        rw [h2]; exact (hJ1 b hb).1
      own := fun k hk => by
        rcases hown k hk with h | h
        · exact hm.own k h.1
        · rcases hown0 k h with h | h
          · exact hm.own k (hsub k h)
          · right; rw [h4]; exact h
      ownG := fun k hk => by
        rcases hown k hk with h | h
        · exact hm.ownG k h.1
        · exact h'.ownG k h
      size := by rw [h4]; exact hsz
      keep := fun k hk h0 => by
        rw [h4] at hk ⊢
        exact hkeep k hk (fun h => h0 (by rw [h3]; exact hsub k h))
      os := by rw [h4]; exact h'.os
      tape := by rw [h4]; exact h'.tape
      output := by rw [h4]; exact h'.output
      glob := h'.glob
      rd := hm.rd }
  refine (h C0 j0 w ms rfl rfl rfl rfl hm0 hvs0).mono fun e w' he => ?_
  cases e with
  | outgrown => exact he.elim
  | returned m =>
    obtain ⟨j1, t, n, r, a, b, c⟩ := he
    obtain ⟨f1, f2⟩ := fin j1 t n w' a
    exact ⟨_, _, _, _, f1, f2 r m b, hk r t n c⟩
  | panicked ch =>
    obtain ⟨j1, t, n, r, m, a, b, c, d⟩ := he
    obtain ⟨f1, f2⟩ := fin j1 t n w' a
    exact ⟨_, _, _, _, m, f1, b, f2 r m c, hp r t n d⟩

theorem CallT.nilArg (s : Nat) {f : FuncId} {vs : List V} {tab : Tab} {nx : Nat} {K KP : V → Tab → Nat → Prop} (h : CallT P WG f (.osl nx s 0 0 none :: vs) (aset tab nx (.arr s [] true)) (nx + 1) K KP) : CallT P WG f (.p (.v (.slice none 0 0)) :: vs) tab nx K KP := by
  intro C j w ms h1 h2 h3 h4 hm hvv
  have hj1 : ∀ b, b < nx → jset j nx none b = j b ∧ b < nx + 1 := fun b hb => ⟨jset_lt _ hb, by omega⟩
  have hget : ∀ c y, aget (aset tab nx (.arr s [] true)) c = some y → (c = nx ∧ y = .arr s [] true) ∨ (c ≠ nx ∧ aget tab c = some y) := fun c y hc => by
    rw [aget_aset] at hc
    by_cases e : c = nx
    · rw [if_pos e] at hc; cases hc; exact .inl ⟨e, rfl⟩
    · rw [if_neg e] at hc; exact .inr ⟨e, hc⟩
  have hown : ∀ k, Own (jset j nx none) (aset tab nx (.arr s [] true)) k → Own j tab k := by
    rintro k ⟨c, y, l, hc, hl, e⟩
    rcases hget c y hc with ⟨rfl, _⟩ | ⟨hne, hc⟩
    · rw [jset_same] at hl; cases hl
    · rw [jset_lt _ (hm.low c y hc)] at hl; exact ⟨c, y, l, hc, hl, e⟩
  let C' : Ctx := ⟨nx + 1, jset j nx none, Own (jset j nx none) (aset tab nx (.arr s [] true)), okc C (Own j tab) w, w, none, []⟩
  have hok : ∀ k, okc C (Own j tab) w k → okc C' (Own (jset j nx none) (aset tab nx (.arr s [] true))) w k := fun k hk => ⟨hk.1, fun hn => hk.2.1 (hown k hn), .inl hk⟩
  have hm' : MemR WG C' (jset j nx none) (aset tab nx (.arr s [] true)) (nx + 1) w := {
    nb := Nat.le_refl _
    low := fun c y hc => by
      rcases hget c y hc with ⟨rfl, _⟩ | ⟨hne, hc⟩
      · exact Nat.lt_succ_self _
      · exact Nat.lt_succ_of_lt (hm.low c y hc)
    blk := fun c y hc => by
      rcases hget c y hc with ⟨rfl, rfl⟩ | ⟨hne, hc⟩
      · exact .inl ⟨jset_same _ _, rfl, rfl⟩
      · exact (hm.blk c y hc).mono (fun k hk => ⟨hok k hk, rfl⟩) hj1 (hm.low c y hc) (fun _ _ => rfl)
    apart := fun c c' y y' l l' hc hc' hne hl hl' => by
      rcases hget c y hc with ⟨rfl, _⟩ | ⟨hn, hc⟩
      · rw [jset_same] at hl; cases hl
      rcases hget c' y' hc' with ⟨rfl, _⟩ | ⟨hn', hc'⟩
      · rw [jset_same] at hl'; cases hl'
      rw [jset_lt _ (hm.low c y hc)] at hl
      rw [jset_lt _ (hm.low c' y' hc')] at hl'
      exact hm.apart c c' y y' l l' hc hc' hne hl hl'
    agree := fun b _ => rfl
    own := fun k hk => .inl hk
    ownG := fun k hk => hm.ownG k (hown k hk)
    size := Nat.le_refl _
    keep := fun _ _ _ => rfl
    os := rfl
    tape := rfl
    output := rfl
    glob := hm.glob
    rd := fun k hk => ⟨hk.1, fun h => hk.2.1 (hown k h)⟩ }
  have hvs' : VRs w (okc C' (Own (jset j nx none) (aset tab nx (.arr s [] true))) w) (jset j nx none) (nx + 1) (.osl nx s 0 0 none :: vs) ms := by
    refine ⟨by simpa using hvv.1, fun i v hv => ?_⟩
    rcases i with _ | i
    · simp at hv; subst hv
      have := hvv.2 0 _ rfl
      generalize ms.getD 0 undef = q at this ⊢
      cases this with
      | p hp => cases hp; exact .oslNil (Nat.lt_succ_self _) (jset_same _ _)
    · exact (hvv.2 (i + 1) v (by simpa using hv)).mono (fun k hk => ⟨hok k hk, rfl⟩) hj1
  have fin : ∀ (j1 : Nat → Option Loc) (t : Tab) (n : Nat) (w' : World), MemR WG C' j1 t n w' → MemR WG C j1 t n w' ∧ ∀ k, okc C' (Own j1 t) w' k → okc C (Own j1 t) w' k := by
    intro j1 t n w' h'
    have hnb : nx + 1 ≤ n := h'.nb
    refine ⟨?_, ?_⟩
    · exact {
        nb := by rw [h1]; omega
        low := h'.low
        blk := fun b x hb => (h'.blk b x hb).mono (fun k hk => ⟨by
          refine ⟨hk.1, hk.2.1, ?_⟩
          rcases hk.2.2 with a | a | a
          · exact a.2.2
          · right; left; rw [h3]; exact hown k a
          · right; right; rw [h4]; exact a, rfl⟩) (fun b h => ⟨rfl, h⟩) (h'.low b x hb) (fun _ _ => rfl)
        apart := h'.apart
        agree := fun b hb => by rw [h1] at hb; rw [h2]; exact (h'.agree b (show b < nx + 1 by omega)).trans (jset_lt _ hb)
        own := fun k hk => by
          rcases h'.own k hk with h | h
          · left; rw [h3]; exact hown k h
          · right; rw [h4]; exact h
        ownG := h'.ownG
        size := by rw [h4]; exact h'.size
        keep := fun k hk h0 => by rw [h4] at hk ⊢; exact h'.keep k hk (fun h => h0 (by rw [h3]; exact hown k h))
        os := by rw [h4]; exact h'.os
        tape := by rw [h4]; exact h'.tape
        output := by rw [h4]; exact h'.output
        glob := h'.glob
        rd := hm.rd }
    · intro k hk
      refine ⟨hk.1, hk.2.1, ?_⟩
      rcases hk.2.2 with a | a | a
      · exact a.2.2
      · right; left; rw [h3]; exact hown k a
      · right; right; rw [h4]; exact a
  refine (h C' (jset j nx none) w ms rfl rfl rfl rfl hm' hvs').mono fun e w' he => ?_
  cases e with
  | outgrown => exact he.elim
  | returned m =>
    obtain ⟨j1, t, n, r, a, b, c⟩ := he
    obtain ⟨f1, f2⟩ := fin j1 t n w' a
    exact ⟨_, _, _, _, f1, b.mono (fun k hk => ⟨f2 k hk, rfl⟩) (fun b h => ⟨rfl, h⟩), c⟩
  | panicked ch =>
    obtain ⟨j1, t, n, r, m, a, b, c, d⟩ := he
    obtain ⟨f1, f2⟩ := fin j1 t n w' a
    exact ⟨_, _, _, _, m, f1, b, c.mono (fun k hk => ⟨f2 k hk, rfl⟩) (fun b h => ⟨rfl, h⟩), d⟩
end
end Go.Gp

namespace Go.Gp
open Go.RowKit
def bxB : Blk → Bool
  | .box _ | .lp _ _ _ => true
  | _ => false
structure Beside (X t : Tab) (n : Nat) : Prop where
  off : ∀ k x, aget X k = some x → aget t k = none
  low : ∀ k x, aget X k = some x → k < n
  bx : ∀ k x, aget X k = some x → bxB x = true

theorem BlkR.loc {w : World} {ok : Nat → Prop} {j : Nat → Option Loc} {nx b : Nat} {x : Blk} (h : BlkR w ok j nx b x) (hb : bxB x = true) : ∃ l, j b = some l := by
  cases x with
  | box cs => obtain ⟨l, ms, e, fr, hl, _⟩ := h; exact ⟨l, hl⟩
  | lp s c env => obtain ⟨l, q, hl, _⟩ := h; exact ⟨l, hl⟩
  | _ => simp [bxB] at hb

section
variable {P : Program} {WG : World}
theorem T.beside {c : Code} {σ : St} {X : Tab} {Q : VX → St → Prop} (h : T P WG c σ Q) (hl : σ.lo = σ.nx) (hX : Beside X σ.tab σ.nx) :
    T P WG c { σ with tab := X ++ σ.tab } (fun x σ' => ∃ t0, σ'.tab = X ++ t0 ∧ Beside X t0 σ'.nx ∧ σ.nx ≤ σ'.nx ∧ Q x { σ' with tab := t0 }) := by
  intro C j a w hr
  obtain ⟨env, t, nx, lo, m⟩ := σ
  simp only at hl hX hr h ⊢
  subst hl
  have hm := hr.mem
  simp only at hm
  have hget : ∀ k x, aget t k = some x → aget (X ++ t) k = some x := fun k x hk => by
    rw [aget_append]
    cases hq : aget X k with
    | none => exact hk
    | some y => rw [hX.off k y hq] at hk; cases hk
  have hgetX : ∀ k x, aget X k = some x → aget (X ++ t) k = some x := fun k x hk => by rw [aget_append, hk]
  have hsub : ∀ k, Own j t k → Own j (X ++ t) k := fun k ⟨b, x, l, hb, hl, e⟩ => ⟨b, x, l, hget b x hb, hl, e⟩
  have hne : ∀ k x l, aget X k = some x → j k = some l → ¬ Own j t l.blk := by
    rintro k x l hk hl ⟨b, y, l2, hb, hl2, he⟩
    have hkb : k ≠ b := fun e => by subst e; rw [hX.off k x hk] at hb; cases hb
    exact hm.apart k b x y l l2 (hgetX k x hk) (hget b y hb) hkb hl hl2 he.symm
  let C1 : Ctx := ⟨lo, j, Own j t, okc C (Own j (X ++ t)) w, w, C.rnd, a.defers⟩
  have hok : ∀ k, okc C (Own j (X ++ t)) w k → okc C1 (Own j t) w k := fun k hk => ⟨hk.1, fun hn => hk.2.1 (hsub k hn), .inl hk⟩
  have hm1 : MemR WG C1 j t lo w := {
    nb := Nat.le_refl _
    low := fun b x hb => hm.low b x (hget b x hb)
    blk := fun b x hb => (hm.blk b x (hget b x hb)).mono (fun k hk => ⟨hok k hk, rfl⟩) (fun b h => ⟨rfl, h⟩) (hm.low b x (hget b x hb)) (fun _ _ => rfl)
    apart := fun b b' x x' l l' hb hb' => hm.apart b b' x x' l l' (hget b x hb) (hget b' x' hb')
    agree := fun b _ => rfl
    own := fun k hk => .inl hk
    ownG := fun k hk => hm.ownG k (hsub k hk)
    size := Nat.le_refl _
    keep := fun _ _ _ => rfl
    os := rfl
    tape := rfl
    output := rfl
    glob := hm.glob
    rd := fun k hk => ⟨hk.1, fun h => hk.2.1 (hsub k h)⟩ }
  have hr1 : ERel WG C1 j ⟨env, t, lo, lo, m⟩ a w := by
    refine ⟨hm1, Nat.le_refl _, Nat.le_refl _, fun q v hq => ?_, hr.n, ⟨⟨[], rfl, List.nodup_nil, fun D hD => by cases hD⟩, fun l hl => ?_⟩⟩
    · obtain ⟨u, h1, h2⟩ := hr.env q v hq
      exact ⟨u, h1, h2.mono (fun k hk => ⟨hok k hk, rfl⟩) (fun b h => ⟨rfl, h⟩)⟩
    · obtain ⟨h1, h2, h3⟩ := hr.defers.rnd l hl
      exact ⟨h1, hok l h2, h3⟩
  refine wpIn_mono (h C1 j a w hr1) fun e a1 w1 ⟨x, σ1, j1, hx, hr2, hq⟩ => ?_
  have h' := hr2.mem
  have hnb : lo ≤ σ1.nx := h'.nb
  have hagree : ∀ b, b < lo → j1 b = j b := fun b hb => h'.agree b hb
  have hown1 : ∀ k, Own j1 σ1.tab k → Own j t k ∨ w.heap.size ≤ k := fun k hk => h'.own k hk
  have hbl : ∀ k x l, aget X k = some x → j k = some l → l.blk < w.heap.size := fun k x l hk hl => (hm.blk k x (hgetX k x hk)).lt hl
  have hoff : ∀ k x, aget X k = some x → aget σ1.tab k = none := fun k x hk => by
    cases hq : aget σ1.tab k with
    | none => rfl
    | some y =>
      obtain ⟨l, hl⟩ := (hm.blk k x (hgetX k x hk)).loc (hX.bx k x hk)
      have hl1 : j1 k = some l := (hagree k (hX.low k x hk)).trans hl
      rcases hown1 l.blk ⟨k, y, l, hq, hl1, rfl⟩ with h | h
      · exact absurd h (hne k x l hk hl)
      · have := hbl k x l hk hl; omega
  have hget1 : ∀ k y, aget (X ++ σ1.tab) k = some y → (aget X k = some y) ∨ (aget X k = none ∧ aget σ1.tab k = some y) := fun k y hk => by
    rw [aget_append] at hk
    cases hq : aget X k with
    | none => rw [hq] at hk; exact .inr ⟨rfl, hk⟩
    | some z => rw [hq] at hk; exact .inl hk
  have hown : ∀ k, Own j1 (X ++ σ1.tab) k → (∃ b x l, aget X b = some x ∧ j b = some l ∧ l.blk = k) ∨ Own j1 σ1.tab k := by
    rintro k ⟨b, x, l, hb, hl, e⟩
    rcases hget1 b x hb with hb | ⟨_, hb⟩
    · exact .inl ⟨b, x, l, hb, by rw [← hagree b (hX.low b x hb)]; exact hl, e⟩
    · exact .inr ⟨b, x, l, hb, hl, e⟩
  have hkeep : ∀ k, k < w.heap.size → ¬ Own j t k → w1.heap[k]? = w.heap[k]? := fun k hk h0 => h'.keep k hk h0
  have hsz : w.heap.size ≤ w1.heap.size := h'.size
  have hok1 : ∀ k, okc C (Own j (X ++ t)) w k → okc C (Own j1 (X ++ σ1.tab)) w1 k ∧ w1.heap[k]? = w.heap[k]? := by
    rintro k ⟨a1, a2, a3⟩
    refine ⟨⟨by omega, fun hn => ?_, a3⟩, hkeep k a1 (fun h => a2 (hsub k h))⟩
    rcases hown k hn with ⟨b, x, l, hb, hl, e⟩ | h
    · exact a2 ⟨b, x, l, hgetX b x hb, hl, e⟩
    · rcases hown1 k h with h | h
      · exact a2 (hsub k h)
      · omega
  have hok2 : ∀ k, okc C1 (Own j1 σ1.tab) w1 k → okc C (Own j1 (X ++ σ1.tab)) w1 k := by
    rintro k ⟨a1, a2, a3⟩
    rcases a3 with a3 | a3 | a3
    · exact (hok1 k a3).1
    · refine ⟨a1, fun hn => ?_, ?_⟩
      · rcases hown k hn with ⟨b, x, l, hb, hl, e⟩ | h
        · exact hne b x l hb hl (e ▸ a3)
        · exact a2 h
      · rcases hm.own k (hsub k a3) with h | h
        · exact .inr (.inl h)
        · exact .inr (.inr h)
    · have a3 : w.heap.size ≤ k := a3
      refine ⟨a1, fun hn => ?_, ?_⟩
      · rcases hown k hn with ⟨b, x, l, hb, hl, e⟩ | h
        · have := hbl b x l hb hl; omega
        · exact a2 h
      · right; right; have := hm.size; omega
  have hjm : ∀ b, b < lo → j1 b = j b ∧ b < σ1.nx := fun b hb => ⟨hagree b hb, by omega⟩
  refine ⟨x, { σ1 with tab := X ++ σ1.tab }, j1, ?_, ?_, ⟨σ1.tab, rfl, ⟨hoff, fun k x hk => by have := hX.low k x hk; show k < σ1.nx; omega, hX.bx⟩, hnb, hq⟩⟩
  · cases hx with
    | normal => exact .normal
    | exit => exact .exit
    | goto => exact .goto
    | ret => exact .ret
    | panic hv => exact .panic (hv.mono (fun k hk => ⟨hok2 k hk, rfl⟩) (fun b h => ⟨rfl, h⟩))
  · have hlo1 : lo ≤ σ1.lo := hr2.lo
    have hmem : MemR WG C j1 (X ++ σ1.tab) σ1.nx w1 := {
      nb := by have := hr.lo; simp only at this; omega
      low := fun b x hb => by
        rcases hget1 b x hb with hb | ⟨_, hb⟩
        · have := hX.low b x hb; omega
        · exact h'.low b x hb
      blk := fun b x hb => by
        rcases hget1 b x hb with hb | ⟨_, hb⟩
        · exact (hm.blk b x (hgetX b x hb)).mono hok1 hjm (hX.low b x hb) (fun l hl => hkeep _ (hbl b x l hb hl) (hne b x l hb hl))
        · exact (h'.blk b x hb).mono (fun k hk => ⟨hok2 k hk, rfl⟩) (fun b h => ⟨rfl, h⟩) (h'.low b x hb) (fun _ _ => rfl)
      apart := fun b b' x x' l l' hb hb' hn hl hl' => by
        have mix : ∀ (b b' : Nat) (x y : Blk) (l l' : Loc), aget X b = some x → aget σ1.tab b' = some y → j1 b = some l → j1 b' = some l' → l.blk ≠ l'.blk := by
          intro b b' x y l l' hb hb' hl hl' he
          have hl0 : j b = some l := by rw [← hagree b (hX.low b x hb)]; exact hl
          rcases hown1 l'.blk ⟨b', y, l', hb', hl', rfl⟩ with h | h
          · exact hne b x l hb hl0 (he ▸ h)
          · have := hbl b x l hb hl0; omega
        rcases hget1 b x hb with hb | ⟨_, hb⟩ <;> rcases hget1 b' x' hb' with hb' | ⟨_, hb'⟩
        · exact hm.apart b b' x x' l l' (hgetX b x hb) (hgetX b' x' hb') hn (by rw [← hagree b (hX.low b x hb)]; exact hl) (by rw [← hagree b' (hX.low b' x' hb')]; exact hl')
        · exact mix b b' x x' l l' hb hb' hl hl'
        · exact fun he => mix b' b x' x l' l hb' hb hl' hl he.symm
        · exact h'.apart b b' x x' l l' hb hb' hn hl hl'
      agree := fun b hb => by
        have : C.nb ≤ lo := hr.lo
        rw [hagree b (by omega)]; exact hm.agree b hb
      own := fun k hk => by
        rcases hown k hk with ⟨b, x, l, hb, hl, e⟩ | h
        · exact hm.own k ⟨b, x, l, hgetX b x hb, hl, e⟩
        · rcases hown1 k h with h | h
          · exact hm.own k (hsub k h)
          · right; have := hm.size; omega
      ownG := fun k hk => by
        rcases hown k hk with ⟨b, x, l, hb, hl, e⟩ | h
        · exact hm.ownG k ⟨b, x, l, hgetX b x hb, hl, e⟩
        · exact h'.ownG k h
      size := Nat.le_trans hm.size hsz
      keep := fun k hk h0 => by
        have : k < w.heap.size := Nat.lt_of_lt_of_le hk hm.size
        refine (hkeep k this (fun h => ?_)).trans (hm.keep k hk h0)
        rcases hm.own k (hsub k h) with h | h
        · exact h0 h
        · omega
      os := h'.os.trans hm.os
      tape := h'.tape.trans hm.tape
      output := h'.output.trans hm.output
      glob := h'.glob
      rd := hm.rd }
    refine ⟨hmem, by have : C.nb ≤ lo := hr.lo; show C.nb ≤ σ1.lo; omega, hr2.lx, fun q v hq => ?_, hr2.n, ⟨?_, fun l hl => ?_⟩⟩
    · obtain ⟨u, h1, h2⟩ := hr2.env q v hq
      exact ⟨u, h1, h2.mono (fun k hk => ⟨hok2 k hk, rfl⟩) (fun b h => ⟨rfl, h⟩)⟩
    · obtain ⟨Ds, e1, e2, e3⟩ := hr2.defers.defers
      obtain ⟨Es, f1, f2, f3⟩ := hr.defers.defers
      refine ⟨Ds ++ Es, ?_, ?_, fun D hD => ?_⟩
      · rw [e1, List.map_append, List.append_assoc]; congr 1
      · refine List.nodup_append.2 ⟨e2, f2, fun D hD E hE he => ?_⟩
        subst he
        have h1 : w.heap.size ≤ D := (e3 D hD).2.1
        have h2 := (f3 D hE).1.1
        omega
      · rcases List.mem_append.1 hD with hD | hD
        · obtain ⟨g1, g2, g3⟩ := e3 D hD
          have g2 : w.heap.size ≤ D := g2
          exact ⟨hok2 D g1, by have := hm.size; omega, g3⟩
        · obtain ⟨g1, g2, g3⟩ := f3 D hD
          obtain ⟨k1, k2⟩ := hok1 D g1
          exact ⟨k1, g2, k2.trans g3⟩
    · obtain ⟨h1, h2, h3⟩ := hr2.defers.rnd l hl
      exact ⟨h1, hok2 l h2, h3⟩

theorem aset_app {α : Type} {X : List (Nat × α)} {b : Nat} (h : aget X b = none) (t : List (Nat × α)) (x : α) : aset (X ++ t) b x = X ++ aset t b x := by
  induction X with
  | nil => rfl
  | cons p r ih =>
    obtain ⟨k, y⟩ := p
    simp only [aget] at h
    by_cases e : k = b
    · rw [if_pos e] at h; cases h
    · rw [if_neg e] at h
      simp only [List.cons_append, aset, if_neg e, ih h]
theorem adel_app {α : Type} {X : List (Nat × α)} {b : Nat} (h : aget X b = none) (t : List (Nat × α)) : adel (X ++ t) b = X ++ adel t b := by
  induction X with
  | nil => rfl
  | cons p r ih =>
    obtain ⟨k, y⟩ := p
    simp only [aget] at h
    by_cases e : k = b
    · rw [if_pos e] at h; cases h
    · rw [if_neg e] at h
      simp only [List.cons_append, adel, if_neg e, ih h]

theorem YldT.beside {b n : Nat} {vs : List V} {t X : Tab} {K : V → Tab → Nat → Prop} (h : YldT P WG b vs t n K) (hX : Beside X t n) :
    YldT P WG b vs (X ++ t) n (fun r t' n' => ∃ t0, t' = X ++ t0 ∧ Beside X t0 n' ∧ n ≤ n' ∧ K r t0 n') := by
  unfold YldT at h ⊢
  cases hb : aget t b with
  | none => rw [hb] at h; exact h.elim
  | some y =>
    have hXb : aget X b = none := by
      cases hq : aget X b with
      | none => rfl
      | some z => rw [hX.off b z hq] at hb; cases hb
    rw [aget_append, hXb, hb]
    rw [hb] at h
    cases y with
    | lp s c env =>
      cases s with
      | ready =>
        obtain ⟨h1, h2, h3⟩ := h
        refine ⟨h1, h2, ?_⟩
        rw [adel_app hXb]
        have hX1 : Beside X (adel t b) n := ⟨fun k x hk => by rw [aget_adel]; split <;> first | rfl | exact hX.off k x hk, hX.low, hX.bx⟩
        refine (h3.beside rfl hX1).mono fun x σ hq => ?_
        obtain ⟨t0, e, hB, hle, hq⟩ := hq
        cases x with
        | normal =>
          have hq : T P WG c.bd ⟨σ.env, t0, σ.nx, σ.nx, σ.n⟩ (roundQ K b c env) := hq
          show T P WG c.bd ⟨σ.env, σ.tab, σ.nx, σ.nx, σ.n⟩ _
          rw [e]
          refine (hq.beside rfl hB).mono fun y σ2 hq2 => ?_
          obtain ⟨t1, e1, hB1, hle1, hq2⟩ := hq2
          have hle : n ≤ σ2.nx := Nat.le_trans hle hle1
          have fin : ∀ (v : V) (s : LSt), (aget t1 b = none → K v (aset t1 b (.lp s c env)) σ2.nx) → aget σ2.tab b = none → ∃ t0, aset σ2.tab b (.lp s c env) = X ++ t0 ∧ Beside X t0 σ2.nx ∧ n ≤ σ2.nx ∧ K v t0 σ2.nx := fun v s hk hn => by
            have hn1 : aget t1 b = none := by rw [e1, aget_append, hXb] at hn; exact hn
            refine ⟨aset t1 b (.lp s c env), by rw [e1, aset_app hXb], ⟨fun k x hk => ?_, hB1.low, hB1.bx⟩, hle, hk hn1⟩
            rw [aget_aset]
            split
            · rename_i e2; rw [e2, hXb] at hk; cases hk
            · exact hB1.off k x hk
          cases y with
          | normal => exact fin _ _ hq2
          | ret => exact fin _ _ hq2
          | exit i => exact fin _ _ hq2
          | goto i => exact fin _ _ hq2
          | panic v => exact hq2
        | exit i => exact hq
        | goto i => exact hq
        | ret => exact hq
        | panic v => exact hq
      | _ => exact h.elim
    | _ => exact h.elim
end
end Go.Gp

namespace Go.Gp
open Go.RowKit
def SubT (t' t : Tab) : Prop := ∀ k x, aget t' k = some x → aget t k = some x
section
variable {P : Program} {WG : World}
theorem MemR.lessT {C : Ctx} {j : Nat → Option Loc} {t t' : Tab} {n : Nat} {w : World} (hm : MemR WG C j t n w) (hs : SubT t' t) : MemR WG C j t' n w ∧ ∀ k, okc C (Own j t) w k → okc C (Own j t') w k := by
  have hsub : ∀ k, Own j t' k → Own j t k := fun k ⟨b, x, l, hb, hl, e⟩ => ⟨b, x, l, hs b x hb, hl, e⟩
  have hok : ∀ k, okc C (Own j t) w k → okc C (Own j t') w k := fun k hk => ⟨hk.1, fun hn => hk.2.1 (hsub k hn), hk.2.2⟩
  exact ⟨{
    nb := hm.nb
    low := fun b x hb => hm.low b x (hs b x hb)
    blk := fun b x hb => (hm.blk b x (hs b x hb)).mono (fun k hk => ⟨hok k hk, rfl⟩) (fun b h => ⟨rfl, h⟩) (hm.low b x (hs b x hb)) (fun _ _ => rfl)
    apart := fun b b' x x' l l' hb hb' => hm.apart b b' x x' l l' (hs b x hb) (hs b' x' hb')
    agree := hm.agree
    own := fun k hk => hm.own k (hsub k hk)
    ownG := fun k hk => hm.ownG k (hsub k hk)
    size := hm.size
    keep := hm.keep
    os := hm.os
    tape := hm.tape
    output := hm.output
    glob := hm.glob
    rd := hm.rd }, hok⟩
theorem Weak.sub {σ : St} {t' : Tab} (hs : SubT t' σ.tab) : Weak WG σ { σ with tab := t' } := fun C j a w hr => by
  obtain ⟨h1, h2⟩ := hr.mem.lessT hs
  exact ⟨j, ⟨h1, hr.lo, hr.lx, fun t v ht => let ⟨m, a, b⟩ := hr.env t v ht; ⟨m, a, b.mono (fun k hk => ⟨h2 k hk, rfl⟩) (fun b h => ⟨rfl, h⟩)⟩, hr.n, hr.defers.mono (fun k hk => ⟨h2 k hk, rfl⟩)⟩⟩
theorem CallT.sub {f : FuncId} {vs : List V} {tab : Tab} {nx : Nat} {K KP : V → Tab → Nat → Prop} (h : CallT P WG f vs tab nx (fun r t n => ∃ t', SubT t' t ∧ K r t' n) KP) : CallT P WG f vs tab nx K KP := by
  intro C j w ms h1 h2 h3 h4 hm0 hvs
  refine (h C j w ms h1 h2 h3 h4 hm0 hvs).mono fun e w' he => ?_
  cases e with
  | panicked ch => exact he
  | outgrown => exact he.elim
  | returned m =>
    obtain ⟨j1, t, n, r, hm, hv, t', hs, hK⟩ := he
    obtain ⟨g1, g2⟩ := hm.lessT hs
    exact ⟨j1, t', n, r, g1, hv.mono (fun k hk => ⟨g2 k hk, rfl⟩) (fun b h => ⟨rfl, h⟩), hK⟩
theorem CallT.low {f : FuncId} {vs : List V} {tab : Tab} {nx : Nat} {K KP : V → Tab → Nat → Prop} (h : (∀ k x, aget tab k = some x → k < nx) → CallT P WG f vs tab nx K KP) : CallT P WG f vs tab nx K KP :=
  fun C j w ms h1 h2 h3 h4 hm hvs => h hm.low C j w ms h1 h2 h3 h4 hm hvs
theorem T_low {c : Code} {σ : St} {Q : VX → St → Prop} (h : (∀ k x, aget σ.tab k = some x → k < σ.nx) → T P WG c σ Q) : T P WG c σ Q := fun C j a w hr => h hr.mem.low C j a w hr

structure Prot (P : Program) (WG : World) (b : Nat) (J : List (List V) → Tab → Nat → Prop) (F : Tab → Nat → Prop) : Prop where
  yld : ∀ x L t n, J (x :: L) t n → YldT P WG b x t n (fun r t' n' => (r = .p (.v (.bool true)) ∧ J L t' n') ∨ (r = .p (.v (.bool false)) ∧ F t' n'))
  bump : ∀ L t n n', n ≤ n' → J L t n → J L t n'
end
end Go.Gp
namespace Go.Gp
open Go.RowKit
theorem Beside.nil {t : Tab} {n : Nat} : Beside [] t n := ⟨fun k x h => by simp [aget] at h, fun k x h => by simp [aget] at h, fun k x h => by simp [aget] at h⟩
theorem Beside.cons {X t : Tab} {q n : Nat} {x : Blk} (h : Beside X t q) (hn : aget t n = none) (hq : q ≤ n) (hx : bxB x = true) : Beside ((n, x) :: X) t (n + 1) := by
  refine ⟨fun k y hk => ?_, fun k y hk => ?_, fun k y hk => ?_⟩ <;> simp only [aget] at hk <;> split at hk
  · rename_i e; rw [← e]; exact hn
  · exact h.off k y hk
  · omega
  · have := h.low k y hk; omega
  · cases hk; exact hx
  · exact h.bx k y hk
theorem Beside.mono {X t : Tab} {q n : Nat} (h : Beside X t q) (hq : q ≤ n) : Beside X t n := ⟨h.off, fun k x hk => by have := h.low k x hk; omega, h.bx⟩

section
variable {P : Program} {WG : World} {σ : St} {Q : VX → St → Prop}
theorem T_rangeP {g : Operand} {ps : Array Nat} {asg bd : Code} {v : V} {f : FuncId} {fs cs : List V} {X t : Tab} {J : List (List V) → Tab → Nat → Prop} {F : Tab → Nat → Prop} {els rest : List (List V)} (E : List V → Prop)
    (hx : ev σ g = some v) (hc : cloOf v = some (f, fs, cs)) (hf : callable P f = true) (htab : σ.tab = X ++ t) (hX : Beside X t σ.nx)
    (hE : ∀ x ∈ els, E x) (hps : ∀ x, E x → ps.toList.length = x.length) (hpn : (ps.toList.all fun p => decide (p < σ.n)) = true) (hbump : ∀ L t n n', n ≤ n' → J L t n → J L t n')
    (hit : ∀ (J' : List (List V) → Tab → Nat → Prop) (F' : Tab → Nat → Prop), Prot P WG σ.nx J' F' → ∀ t n, J' els t n → CallT P WG f (fs ++ [.yld σ.nx] ++ cs) t n (fun _ t' n' => J' [] t' n' ∨ F' t' n') noP)
    (hbody : ∀ x M t1 m, σ.nx < m → Beside X t1 m → E x → J (x :: M) t1 m → T P WG asg ⟨putPs σ.env ps.toList x, X ++ t1, m, m, σ.n⟩ (thenQ (fun σ2 => T P WG bd ⟨σ2.env, σ2.tab, σ2.nx, σ2.nx, σ2.n⟩
      (fun y σ3 => (y = .normal ∧ σ.nx < σ3.nx ∧ ∃ t2, SubT (X ++ t2) σ3.tab ∧ Beside X t2 σ3.nx ∧ J M t2 σ3.nx) ∨ (y = .ret ∧ σ.nx < σ3.nx ∧ ∃ t2, SubT (X ++ t2) σ3.tab ∧ Beside X t2 σ3.nx ∧ F t2 σ3.nx))) noQ))
    (hJ : J (els ++ rest) t σ.nx)
    (hdone : ∀ t2 n2 t3, Beside X t2 n2 → σ.nx < n2 → J rest t2 n2 → SubT (X ++ t2) t3 → Q .normal ⟨σ.env, t3, n2, σ.lo, σ.n⟩)
    (hleft : ∀ t2 n2 t3, Beside X t2 n2 → σ.nx < n2 → F t2 n2 → SubT (X ++ t2) t3 → Q .ret ⟨σ.env, t3, n2, σ.lo, σ.n⟩) : T P WG (.rangeFunc g ps asg bd) σ Q := by
  refine T_low fun hlow => T_rangeFunc hx hc hf ?_
  have hXb : aget X σ.nx = none := by
    cases hq : aget X σ.nx with
    | none => rfl
    | some y => exact absurd (hX.low _ y hq) (Nat.lt_irrefl _)
  have htb : aget t σ.nx = none := by
    cases hq : aget t σ.nx with
    | none => rfl
    | some y => exact absurd (hlow σ.nx y (by rw [htab, aget_append, hXb]; exact hq)) (Nat.lt_irrefl _)

  have keep : ∀ (t1 T' : Tab) (y : Blk), SubT ((σ.nx, y) :: (X ++ t1)) T' → aget t1 σ.nx = none → SubT (X ++ t1) (adel T' σ.nx) := fun t1 T' y hs hn k x hk => by
    have hne : k ≠ σ.nx := fun e => by subst e; rw [aget_append, hXb, hn] at hk; cases hk
    rw [aget_adel, if_neg hne]
    refine hs k x ?_
    simp only [aget]
    rw [if_neg (fun e => hne e.symm)]; exact hk
  have lay : ∀ (t1 T' : Tab) (y : Blk), SubT (X ++ t1) T' → aget T' σ.nx = none → SubT ((σ.nx, y) :: (X ++ t1)) (aset T' σ.nx y) ∧ aget t1 σ.nx = none := fun t1 T' y hs hn => by
    refine ⟨fun k x hk => ?_, ?_⟩
    · simp only [aget] at hk
      rw [aget_aset]
      split at hk
      · rename_i e; rw [if_pos e.symm]; exact hk
      · rename_i e; rw [if_neg (fun e' => e e'.symm)]; exact hs k x hk
    · cases hq : aget t1 σ.nx with
      | none => rfl
      | some z => have := hs σ.nx z (by rw [aget_append, hXb]; exact hq); rw [hn] at this; cases this
  let J' : List (List V) → Tab → Nat → Prop := fun M T' m => σ.nx < m ∧ (∀ x ∈ M, E x) ∧ ∃ t1, SubT ((σ.nx, .lp .ready ⟨ps, asg, bd, σ.n⟩ σ.env) :: (X ++ t1)) T' ∧ Beside X t1 m ∧ aget t1 σ.nx = none ∧ J (M ++ rest) t1 m
  let F' : Tab → Nat → Prop := fun T' m => σ.nx < m ∧ ∃ t1, SubT ((σ.nx, .lp (.done .ret) ⟨ps, asg, bd, σ.n⟩ σ.env) :: (X ++ t1)) T' ∧ Beside X t1 m ∧ aget t1 σ.nx = none ∧ F t1 m
  have hP' : Prot P WG σ.nx J' F' := by
    refine ⟨fun x M T' m hq => ?_, fun M T' m m' hle hq => ?_⟩
    · obtain ⟨hm, hEM, t1, hs, hB, hn, hJ1⟩ := hq
      have hb : aget T' σ.nx = some (.lp .ready ⟨ps, asg, bd, σ.n⟩ σ.env) := hs _ _ (by simp [aget])
      unfold YldT
      rw [hb]
      have hEx := hEM x List.mem_cons_self
      refine ⟨hps x hEx, hpn, T_weak (Weak.sub (t' := X ++ t1) (keep t1 T' _ hs hn)) ?_⟩
      refine (hbody x (M ++ rest) t1 m hm hB hEx hJ1).mono fun y σ2 hq => ?_
      cases y with
      | normal =>
        refine T.mono hq fun z σ3 hz => ?_
        rcases hz with ⟨rfl, h1, t2, h2, h3, h4⟩ | ⟨rfl, h1, t2, h2, h3, h4⟩
        · intro hnone
          obtain ⟨g1, g2⟩ := lay t2 σ3.tab (.lp .ready ⟨ps, asg, bd, σ.n⟩ σ.env) h2 hnone
          exact .inl ⟨rfl, h1, fun y hy => hEM y (List.mem_cons_of_mem _ hy), t2, g1, h3, g2, h4⟩
        · intro hnone
          obtain ⟨g1, g2⟩ := lay t2 σ3.tab (.lp (.done .ret) ⟨ps, asg, bd, σ.n⟩ σ.env) h2 hnone
          exact .inr ⟨rfl, h1, t2, g1, h3, g2, h4⟩
      | _ => exact hq
    · obtain ⟨hm, hEM, t1, hs, hB, hn, hJ1⟩ := hq
      exact ⟨by omega, hEM, t1, hs, hB.mono hle, hn, hbump _ _ _ _ hle hJ1⟩
  have hT0 : SubT (X ++ t) σ.tab := fun k x hk => by rw [htab]; exact hk
  have hnone : aget σ.tab σ.nx = none := by rw [htab, aget_append, hXb]; exact htb
  obtain ⟨g1, g2⟩ := lay t σ.tab (.lp .ready ⟨ps, asg, bd, σ.n⟩ σ.env) hT0 hnone
  refine (hit J' F' hP' _ _ ⟨by omega, hE, t, g1, hX.mono (by omega), g2, hbump _ _ _ _ (by omega) hJ⟩).mono (fun r t' n' hq => ?_) (fun _ _ _ h => h.elim)
  rw [loopQ_eq]
  rcases hq with ⟨hm, _, t1, hs, hB, hn, hJ1⟩ | ⟨hm, t1, hs, hB, hn, hF⟩
  · have hb : aget t' σ.nx = some (.lp .ready ⟨ps, asg, bd, σ.n⟩ σ.env) := hs _ _ (by simp [aget])
    rw [hb]
    exact hdone t1 n' _ hB hm hJ1 (keep t1 t' _ hs hn)
  · have hb : aget t' σ.nx = some (.lp (.done .ret) ⟨ps, asg, bd, σ.n⟩ σ.env) := hs _ _ (by simp [aget])
    rw [hb]
    exact T_ret (hleft t1 n' _ hB hm hF (keep t1 t' _ hs hn))
end
end Go.Gp
namespace Go.Gp
open Go.RowKit
theorem SubT.refl (t : Tab) : SubT t t := fun _ _ h => h
theorem SubT.trans {a b c : Tab} (h : SubT a b) (k : SubT b c) : SubT a c := fun q x hq => k q x (h q x hq)
theorem SubT.aset (t : Tab) (n : Nat) (x : Blk) : SubT ((n, x) :: t) (aset t n x) := fun k y hk => by
  simp only [aget] at hk
  rw [aget_aset]
  split at hk
  · rename_i e; rw [if_pos e.symm]; exact hk
  · rename_i e; rw [if_neg (fun e' => e e'.symm)]; exact hk
theorem SubT.cons {t t' : Tab} (p : Nat × Blk) (h : SubT t t') : SubT (p :: t) (p :: t') := fun k x hk => by
  obtain ⟨q, y⟩ := p
  simp only [aget] at hk ⊢
  split at hk
  · rename_i e; rw [if_pos e]; exact hk
  · rename_i e; rw [if_neg e]; exact h k x hk
theorem SubT.swap {m n : Nat} (h : n ≠ m) (y z : Blk) (t : Tab) : SubT ((m, y) :: (n, z) :: t) ((n, z) :: (m, y) :: t) := fun k x hk => by
  simp only [aget] at hk ⊢
  by_cases e : n = k
  · rw [if_pos e]
    rw [if_neg (fun e' => h (e.trans e'.symm)), if_pos e] at hk; exact hk
  · rw [if_neg e]; rw [if_neg e] at hk; exact hk
theorem SubT.drop {m : Nat} {y : Blk} {t : Tab} (h : aget t m = none) : SubT t ((m, y) :: t) := fun k x hk => by
  simp only [aget]
  rw [if_neg (fun e => by rw [← e, h] at hk; cases hk)]; exact hk
theorem SubT.right {X t : Tab} {n : Nat} (h : Beside X t n) : SubT t (X ++ t) := fun k x hk => by
  rw [aget_append]
  cases hq : aget X k with
  | none => exact hk
  | some y => rw [h.off k y hq] at hk; cases hk
end Go.Gp

namespace Go.Gp
open Go.RowKit
section
variable {P : Program} {WG : World} {σ : St} {Q : VX → St → Prop} {ops : Array Oper}
theorem RT_panic {i : Nat} {rest : List Nat} {o : Oper} {x : Operand} {t : TypeId} {v : V} (hi : ops[i]? = some o) (hg : o.guard = none) (ho : o.op = .panic x) (hx : ev σ x = some (.ifc t v)) (hk : Q (.panic (.ifc t v)) σ) : RT P WG ops (i :: rest) σ Q := by
  intro C j a w hr
  have hv := hr.ev hx
  simp only [wpOpsIn, hi, wanted_none hg, if_true]
  refine ⟨fun _ _ => trivial, ?_⟩
  generalize hm : a.eval x = m at hv
  cases hv with
  | ifc h =>
    rename_i m
    have hrun : (execOp a.eval o).run P w = .halt (.panic (.iface t m)) w := by
      unfold execOp; rw [ho]; simp only [Instr.panic, hm]; rfl
    rw [Oper.semAt_eq _ _ _ (by simp [ho]), hrun]
    exact ⟨.panic (.ifc t v), σ, j, .panic (.ifc h), hr, hk⟩

def finX (P : Program) (WG : World) (o : Oper) (σ : St) (r : Option SV) (K : St → Prop) : Prop :=
  match r with
  | some (.pure c v side) => side ∧ dstOk σ o.dst ∧ K (stP σ o (uV o c v) σ.tab σ.nx)
  | some (.call c side g vs) => side ∧ dstOk σ o.dst ∧ ∃ r, (c = true → FVv P WG g vs r) ∧ K (stP σ o (uV o c r) σ.tab σ.nx)
  | _ => False
def endX (P : Program) (WG : World) (σ : St) (r : Option SV) (KP : V → Tab → Nat → Prop) : Prop :=
  match r with
  | some (.call c side g vs) => c = true ∧ side ∧ CallT P WG g vs σ.tab σ.nx noP KP
  | _ => False
def wpDX (P : Program) (WG : World) (KP : V → Tab → Nat → Prop) : Nat → Nat → Met → List Oper → St → Prop
  | 0, _, ds, o :: _, σ => endX P WG σ (stepV P ds o σ) KP
  | p + 1, q, ds, o :: l, σ => finX P WG o σ (stepV P ds o σ) (wpDX P WG KP p (q + 1) ((q, o.dst) :: ds) l)
  | _, _, _, [], _ => False

def PStepX (P : Program) (WG : World) (ops : Array Oper) (o : Oper) (σ σ' : St) (u : V) : Prop :=
  dstOk σ o.dst ∧ σ' = stP σ o u σ.tab σ.nx ∧ ∃ ds, MetOk ops ds ∧
    ((∃ c v side, stepV P ds o σ = some (.pure c v side) ∧ side ∧ u = uV o c v) ∨
     (∃ c side g vs r, stepV P ds o σ = some (.call c side g vs) ∧ side ∧ (c = true → FVv P WG g vs r) ∧ u = uV o c r))

theorem wpDX_ext {KP : V → Tab → Nat → Prop} : ∀ (p : Nat) (l : List Oper) (q : Nat) (ds : Met) (σ : St), MetOk ops ds → (∀ k, ops[q + k]? = l[k]?) → wpDX P WG KP p q ds l σ →
    ∃ (S : Nat → St) (u : Nat → V), S q = σ ∧ (∀ (i : Nat) o, q ≤ i → i < q + p → ops[i]? = some o → PStepX P WG ops o (S i) (S (i + 1)) (u i)) ∧
      ∃ o ds' side g vs, ops[q + p]? = some o ∧ MetOk ops ds' ∧ stepV P ds' o (S (q + p)) = some (.call true side g vs) ∧ side ∧ CallT P WG g vs (S (q + p)).tab (S (q + p)).nx noP KP
  | 0, [], q, ds, σ, _, _, h => h.elim
  | p + 1, [], q, ds, σ, _, _, h => h.elim
  | 0, o :: l, q, ds, σ, hds, hl, h => by
    simp only [wpDX] at h
    cases hV : stepV P ds o σ with
    | none => rw [hV] at h; exact h.elim
    | some sv =>
      rw [hV] at h
      cases sv with
      | call c side g vs =>
        obtain ⟨rfl, h2, h3⟩ := h
        exact ⟨fun _ => σ, fun _ => .zc, rfl, fun i p hi hi' => by omega, o, ds, side, g, vs, by simpa using hl 0, hds, hV, h2, h3⟩
      | pure c v side => exact h.elim
      | mem v tab nx side => exact h.elim
  | p + 1, o :: l, q, ds, σ, hds, hl, h => by
    have ho : ops[q]? = some o := by simpa using hl 0
    have hds' : MetOk ops ((q, o.dst) :: ds) := fun g d hg => by
      simp only [aget] at hg
      split at hg
      · rename_i e; subst e; cases hg; simp [ho]
      · exact hds g d hg
    have hl' : ∀ k, ops[q + 1 + k]? = l[k]? := fun k => by
      have := hl (k + 1)
      rw [List.getElem?_cons_succ] at this
      rw [← this]; congr 1; omega
    have build : ∀ (u0 : V), PStepX P WG ops o σ (stP σ o u0 σ.tab σ.nx) u0 → wpDX P WG KP p (q + 1) ((q, o.dst) :: ds) l (stP σ o u0 σ.tab σ.nx) →
        ∃ (S : Nat → St) (u : Nat → V), S q = σ ∧ (∀ (i : Nat) o, q ≤ i → i < q + (p + 1) → ops[i]? = some o → PStepX P WG ops o (S i) (S (i + 1)) (u i)) ∧
          ∃ o ds' side g vs, ops[q + (p + 1)]? = some o ∧ MetOk ops ds' ∧ stepV P ds' o (S (q + (p + 1))) = some (.call true side g vs) ∧ side ∧ CallT P WG g vs (S (q + (p + 1))).tab (S (q + (p + 1))).nx noP KP := by
      intro u0 hp h1
      obtain ⟨S, u, hS, hst, o', ds', side, g, vs, e1, e2, e3, e4, e5⟩ := wpDX_ext p l (q + 1) _ _ hds' hl' h1
      have e : q + (p + 1) = q + 1 + p := by omega
      refine ⟨fun i => if i ≤ q then σ else S i, fun i => if i = q then u0 else u i, by simp, fun i p' hi hi' hp' => ?_, o', ds', side, g, vs, by rw [e]; exact e1, e2, ?_, e4, ?_⟩
      · by_cases e : i = q
        · subst e
          rw [ho] at hp'; cases hp'
          simp only [Nat.le_refl, if_true]
          rw [if_neg (by omega), hS]
          exact hp
        · have e1 : ¬ i ≤ q := by omega
          have e2 : ¬ i + 1 ≤ q := by omega
          simp only [e1, e2, e, if_false]
          exact hst i p' (by omega) (by omega) hp'
      · simp only
        rw [if_neg (by omega), e]; exact e3
      · simp only
        rw [if_neg (by omega), e]; exact e5
    simp only [wpDX] at h
    cases hV : stepV P ds o σ with
    | none => rw [hV] at h; exact h.elim
    | some sv =>
      rw [hV] at h
      cases sv with
      | pure c v side =>
        obtain ⟨h2, h3, h4⟩ := h
        exact build (uV o c v) ⟨h3, rfl, ds, hds, .inl ⟨c, v, side, hV, h2, rfl⟩⟩ h4
      | call c side g vs =>
        obtain ⟨h2, h3, r, h4, h5⟩ := h
        exact build (uV o c r) ⟨h3, rfl, ds, hds, .inr ⟨c, side, g, vs, r, hV, h2, h4, rfl⟩⟩ h5
      | mem v tab nx side => exact h.elim

theorem WPO_panic {i : Nat} {o : Oper} {side : Prop} {g : FuncId} {vs : List V} {ds : Met} {KP : V → Tab → Nat → Prop} (hds : MetOk ops ds) (hi : ops[i]? = some o) (h : stepV P ds o σ = some (.call true side g vs)) (hs : side)
    (hc : CallT P WG g vs σ.tab σ.nx noP KP) (hQ : ∀ r t n, KP r t n → Q (.panic r) { σ with tab := t, nx := n }) (C : Ctx) (j : Nat → Option Loc) (a : Act) (w : World) (K : Act → World → Prop) (hr : ERel WG C j σ a w) : wpOpIn (fw C.rnd) 0 P ops (PostR WG C Q) i K a w := by
  unfold stepV at h
  split at h
  · cases h
  rename_i c' hg
  split at h
  · split at h <;> cases h
  · rename_i f args ts hop
    split at h
    · rename_i vf b vs' hx hvs
      split at h
      · rename_i g' fs cs hcl
        split at h
        · rename_i hcb
          cases h
          have hw := wanted_eq hr hds hg
          simp only [wpOpIn, hi]
          simp only [hw, if_true]
          have hx' := ev_force hx (hs rfl).1
          refine wp_call (σ := force σ) hr.force hop hx' hcl (evsS_force hvs (hs rfl).2) hcb hc (fun j' tab' nx' w' r' m hm hv hk' => hk'.elim) (fun j' tab' nx' w' r m hm hv hk' => ?_)
          exact ⟨.panic r, { σ with tab := tab', nx := nx' }, j', .panic hv, ⟨hm.mem, hr.lo, hm.lx, fun t u hu => let ⟨q, h1, h2⟩ := hr.env t u hu; ⟨q, h1, hm.keep _ _ h2⟩, hr.n, hr.defers.mono hm.okk⟩, hQ _ _ _ hk'⟩
        · split at h
          · split at h <;> cases h
          · cases h
      · cases h
    · cases h
  · split at h
    · split at h
      · split at h <;> cases h
      · split at h <;> cases h
    · cases h

def panicOk (ops : Array Oper) (p : Nat) : Bool := decide (p < ops.size) && (List.range ops.size).all fun q => decide (q ≤ p) || reach (ancTbl ops.toList []) p q

theorem drawX_main {id : Nat} (S : Nat → St) (u : Nat → V) (p : Nat) (hc : DrawOk ops []) (hmix : P.follows .mixedOrders = true) (hp : p < ops.size) (hafter : ∀ q, p < q → q < ops.size → reach (ancTbl ops.toList []) p q = true) {KP : V → Tab → Nat → Prop}
    (hstep : ∀ (q : Nat) o, q < p → ops[q]? = some o → PStepX P WG ops o (S q) (S (q + 1)) (u q))
    (hend : ∃ o ds' side g vs, ops[p]? = some o ∧ MetOk ops ds' ∧ stepV P ds' o (S p) = some (.call true side g vs) ∧ side ∧ CallT P WG g vs (S p).tab (S p).nx noP KP)
    (hQ : ∀ r t n env, KP r t n → Q (.panic r) ⟨env, t, n, (S 0).lo, (S 0).n⟩) : T P WG (.region id ops true) (S 0) Q := by
  have hop : ∀ q, q < ops.size → ∃ o, ops[q]? = some o := fun q hq => ⟨ops[q], by simp [hq]⟩
  have hlo : ∀ q, q ≤ p → (S q).lo = (S 0).lo ∧ (S q).n = (S 0).n ∧ (S q).tab = (S 0).tab ∧ (S q).nx = (S 0).nx := by
    intro q
    induction q with
    | zero => exact fun _ => ⟨rfl, rfl, rfl, rfl⟩
    | succ q ih =>
      intro hq
      obtain ⟨o, ho⟩ := hop q (by omega)
      obtain ⟨h1, h2, h3, h4⟩ := ih (by omega)
      obtain ⟨_, he, _⟩ := hstep q o (by omega) ho
      rw [he]
      exact ⟨h1, h2, h3, h4⟩
  have hSenv : ∀ i, i ≤ p → EnvIs ops u (S 0).env (fun q => q < i) (S i).env := by
    intro i
    induction i with
    | zero => exact fun _ t => .inr ⟨fun q o _ hq => absurd hq (Nat.not_lt_zero _), rfl⟩
    | succ i ih =>
      intro hi
      obtain ⟨o, ho⟩ := hop i (by omega)
      have h1 := (ih (by omega)).put hc ho (L' := fun q => q < i + 1) (fun q => by omega)
      obtain ⟨_, he, _⟩ := hstep i o (by omega) ho
      rw [he]; exact h1
  intro C j a w hr
  refine wpIn_region_any hmix ?_
  have hr0 : ERel WG C j (S 0) a { w with drawn := w.drawn + 1 } := hr.drew
  suffices key : ∀ (fuel : Nat) (listed : Array Bool) (σ : St) (j : Nat → Option Loc) (a : Act) (w : World), ERel WG C j σ a w → listed.size = ops.size → listed.toList.count false ≤ fuel →
      Closed ops (fun i => listed.getD i false = true) → σ.lo = (S 0).lo → σ.n = (S 0).n → EnvIs ops u (S 0).env (fun i => listed.getD i false = true) σ.env →
      σ.tab = (S 0).tab → σ.nx = (S 0).nx → (∀ q, listed.getD q false = true → q < p) →
      wpAnyIn (fw C.rnd) 0 P .any ops (PostR WG C Q) fuel listed a w by
    refine key ops.size (Array.replicate ops.size false) (S 0) j a _ hr0 (by simp) ?_ ?_ rfl rfl ?_ rfl rfl ?_
    · simp [List.count_replicate]
    · intro i o ho h; simp [Array.getElem?_replicate] at h; split at h <;> simp at h
    · intro t; exact .inr ⟨fun q o ho h => by simp [Array.getElem?_replicate] at h; split at h <;> simp at h, rfl⟩
    · intro q h; simp [Array.getElem?_replicate] at h; split at h <;> simp at h
  intro fuel
  induction fuel with
  | zero =>
    intro listed σ j a w hr hsz hcnt hcl hlo1 hn1 henv ht hx hlt
    have hall : listed.getD p false = true := by
      have h1 : listed.toList.count false = 0 := by omega
      have h2 := List.count_eq_zero.1 h1
      have hi' : p < listed.size := by omega
      cases hq : listed[p] with
      | true => simp [hi', hq]
      | false => exact absurd (by rw [← hq]; simp) h2
    exact absurd (hlt p hall) (Nat.lt_irrefl _)
  | succ fuel ih =>
    intro listed σ j a w hr hsz hcnt hcl hlo1 hn1 henv ht hx hlt
    refine ⟨fun hnil => ?_, fun i hi => ?_⟩
    · have hall : ∀ i, i ≤ p → listed.getD i false = true := by
        intro i
        induction i using Nat.strongRecOn with
        | _ i ihi =>
          intro hi
          obtain ⟨o, ho⟩ := hop i (by omega)
          cases hq : listed.getD i false with
          | true => rfl
          | false =>
            have hi' : i < listed.size := by omega
            have : i ∈ Region.ready .any ops listed := mem_ready.2 ⟨by simp [hi'] at hq ⊢; exact hq, o, ho, fun e he hb => ihi e.on (hc.before i o ho e he hb) (by have := hc.before i o ho e he hb; omega)⟩
            rw [hnil] at this; cases this
      exact absurd (hlt p (hall p (Nat.le_refl _))) (Nat.lt_irrefl _)
    · obtain ⟨hun, o, ho, hafter'⟩ := mem_ready.1 hi
      have hilt : i < ops.size := (Array.getElem?_eq_some_iff.1 ho).1
      have hil : i < listed.size := by omega
      have hun' : listed.getD i false = false := by simp [hil] at hun ⊢; exact hun
      have hset : ∀ q, (listed.setIfInBounds i true).getD q false = true ↔ listed.getD q false = true ∨ q = i := by
        intro q
        by_cases e : i = q
        · subst e; simp [hil]
        · rw [getD_set_ne false e]
          constructor
          · exact .inl
          · rintro (h | h)
            · exact h
            · exact absurd h.symm e
      have hcl' : Closed ops (fun q => (listed.setIfInBounds i true).getD q false = true) := by
        intro q p hq hL e he hb
        rcases (hset q).1 hL with h | rfl
        · exact (hset _).2 (.inl (hcl q p hq h e he hb))
        · rw [ho] at hq; cases hq
          exact (hset _).2 (.inl (hafter' e he hb))
      have anc : ∀ q, reach (ancTbl ops.toList []) q i = true → q ≠ i → listed.getD q false = true := fun q hq hne =>
        ((hset q).1 (reach_spec hq hcl' ((hset i).2 (.inr rfl)))).resolve_right hne
      have desc : ∀ q, reach (ancTbl ops.toList []) i q = true → listed.getD q false = false := fun q hq => by
        cases h : listed.getD q false with
        | false => rfl
        | true => have := reach_spec hq hcl h; rw [hun'] at this; cases this
      have hip : i ≤ p := by
        rcases Nat.lt_or_ge p i with h | h
        · exact absurd (hlt p (anc p (hafter i h hilt) (by omega))) (Nat.lt_irrefl _)
        · exact h
      have hlook : ∀ t ∈ o.looksAt ops, aget σ.env t = aget (S i).env t := fun t ht => henv.agree hc (hSenv i hip) (fun q p hq hp => by
        by_cases e : i = q
        · subst e; simp [hun']
        · have := hc.look i q o p t ho hq e hp ht
          split at this
          · rename_i hlt
            have := anc q this (by omega)
            simp only [this, hlt]
          · rename_i hge
            have := desc q this
            simp only [this, Bool.false_eq_true, false_iff]; omega)
      obtain ⟨l1, l2, l3, l4⟩ := hlo i hip
      have ht' : σ.tab = (S i).tab := ht.trans l3.symm
      have hx' : σ.nx = (S i).nx := hx.trans l4.symm
      rcases Nat.lt_or_ge i p with hlt' | hge
      · have hcnt' : (listed.setIfInBounds i true).toList.count false ≤ fuel := by
          rw [Array.toList_setIfInBounds, List.count_set (by simpa using hil)]
          have h1 : listed.toList[i]'(by simpa using hil) = false := by simp [hil] at hun; simpa using hun
          rw [h1]
          have h2 : listed.toList.count false - (if (false == false) = true then 1 else 0) + (if (true == false) = true then 1 else 0) = listed.toList.count false - 1 := rfl
          refine Nat.le_trans (Nat.le_of_eq h2) ?_
          omega
        have hnext : ∀ (σ' : St) (j' : Nat → Option Loc) (a' : Act) (w' : World), ERel WG C j' σ' a' w' → σ'.lo = σ.lo → σ'.n = σ.n → σ'.tab = σ.tab → σ'.nx = σ.nx → σ'.env = pEnv σ.env o.dst (u i) →
            wpAnyIn (fw C.rnd) 0 P .any ops (PostR WG C Q) fuel (listed.setIfInBounds i true) a' w' := by
          intro σ' j' a' w' hr' h1 h2 h3 h4 h5
          refine ih _ σ' j' a' w' hr' (by simpa using hsz) hcnt' hcl' (h1.trans hlo1) (h2.trans hn1) (by rw [h5]; exact henv.put hc ho hset) (h3.trans ht) (h4.trans hx) (fun q hq => ?_)
          rcases (hset q).1 hq with h | rfl
          · exact hlt q h
          · exact hlt'
        obtain ⟨hd, _, ds, hds, hcase⟩ := hstep i o hlt' ho
        have hd' : dstOk σ o.dst := by
          revert hd; unfold dstOk
          cases o.dst with
          | none => exact fun h => h
          | some d => simp only; rw [hn1, l2]; exact fun h => h
        rcases hcase with ⟨c, v, side, hV, hs, hu⟩ | ⟨c, side, g, vs, r, hV, hs, hfv, hu⟩
        · have hV' := (stepV_congr (P := P) (σ := S i) (σ' := σ) hds hlook (fun _ => ht') (fun _ => ⟨ht', hx'⟩)).trans hV
          exact WPO_pure hds ho hd' hV' hs C j a w _ hr (fun j' a' w' hr' => hnext _ j' a' w' hr' rfl rfl rfl rfl (by rw [hu]; rfl))
        · have hV' := (stepV_congr (P := P) (σ := S i) (σ' := σ) hds hlook (fun _ => ht') (fun _ => ⟨ht', hx'⟩)).trans hV
          exact WPO_call hds ho hd' hV' hs (fun hcc => hfv hcc σ.tab σ.nx) (fun _ => ⟨rfl, rfl⟩) C j a w _ hr (fun j' a' w' hr' => hnext _ j' a' w' hr' rfl rfl rfl rfl (by rw [hu]; rfl))
      · have e : i = p := Nat.le_antisymm hip hge
        subst e
        obtain ⟨o', ds', side, g, vs, e1, e2, e3, e4, e5⟩ := hend
        rw [ho] at e1; cases e1
        have hV' := (stepV_congr (P := P) (σ := S i) (σ' := σ) e2 hlook (fun _ => ht') (fun _ => ⟨ht', hx'⟩)).trans e3
        refine WPO_panic e2 ho hV' e4 (KP := KP) (by rw [ht', hx']; exact e5) (fun r t n hk => ?_) C j a w _ hr
        have := hQ r t n σ.env hk
        rw [← hlo1, ← hn1] at this
        exact this

theorem T_drawX {id : Nat} (p : Nat) (hmix : P.follows .mixedOrders = true) (hchk : (drawOk ops [] && panicOk ops p) = true)
    (h : wpDX P WG (fun r t n => ∀ env, Q (.panic r) ⟨env, t, n, σ.lo, σ.n⟩) p 0 [] ops.toList σ) : T P WG (.region id ops true) σ Q := by
  simp only [Bool.and_eq_true, panicOk, decide_eq_true_eq, List.all_eq_true, List.mem_range, Bool.or_eq_true] at hchk
  obtain ⟨h1, h2, h3⟩ := hchk
  obtain ⟨S, u, hS, hst, hend⟩ := wpDX_ext (ops := ops) p ops.toList 0 [] σ (fun g d hg => by simp [aget] at hg) (fun k => by simp) h
  subst hS
  rw [Nat.zero_add] at hend
  exact drawX_main S u p (drawOk_spec h1) hmix h2 (fun q hq hq' => (h3 q hq').resolve_left (by omega)) (fun q o hq ho => hst q o (Nat.zero_le _) (by omega) ho) hend (fun r t n env hk => hk env)

theorem wpDX_zero {KP : V → Tab → Nat → Prop} (q : Nat) (ds : Met) (o : Oper) (l : List Oper) (σ : St) : wpDX P WG KP 0 q ds (o :: l) σ = endX P WG σ (stepV P ds o σ) KP := rfl
theorem wpDX_succ {KP : V → Tab → Nat → Prop} (p q : Nat) (ds : Met) (o : Oper) (l : List Oper) (σ : St) : wpDX P WG KP (p + 1) q ds (o :: l) σ = finX P WG o σ (stepV P ds o σ) (wpDX P WG KP p (q + 1) ((q, o.dst) :: ds) l) := rfl
theorem finX_pure {o : Oper} {σ : St} {K : St → Prop} {c : Bool} {v : V} {side : Prop} : finX P WG o σ (some (.pure c v side)) K = (side ∧ dstOk σ o.dst ∧ K (stP σ o (uV o c v) σ.tab σ.nx)) := rfl
theorem finX_call {o : Oper} {σ : St} {K : St → Prop} {c : Bool} {side : Prop} {g : FuncId} {vs : List V} : finX P WG o σ (some (.call c side g vs)) K = (side ∧ dstOk σ o.dst ∧ ∃ r, (c = true → FVv P WG g vs r) ∧ K (stP σ o (uV o c r) σ.tab σ.nx)) := rfl
theorem endX_call {σ : St} {KP : V → Tab → Nat → Prop} {c : Bool} {side : Prop} {g : FuncId} {vs : List V} : endX P WG σ (some (.call c side g vs)) KP = (c = true ∧ side ∧ CallT P WG g vs σ.tab σ.nx noP KP) := rfl
end
end Go.Gp

namespace Go.Gp
open Go.RowKit
def modeOf : Option TypeId → FrameMode
  | none => .returning
  | some t => .panicking [{ v := .iface t (.agg #[]), recovered := false }]
theorem modeOf_ne (u : Option TypeId) : modeOf u ≠ .run := by cases u <;> simp [modeOf]

section
variable {P : Program} {WG : World} {σ : St} {Q : VX → St → Prop} {ops : Array Oper} {fn : Func} {K KP : V → Tab → Nat → Prop}
def DefT (P : Program) (WG : World) (f : FuncId) (vs : List V) (tab : Tab) (nx : Nat) (u : Option TypeId) (K : Tab → Nat → Prop) : Prop :=
  ∀ C j w ms, C.nb = nx → C.j0 = j → C.own0 = Own j tab → C.w0 = w → C.rnd = none → C.base = [] → MemR WG C j tab nx w → VRs w (okc C (Own j tab) w) j nx vs ms →
    CallsDIn Fence.wide 0 P f ms (modeOf u) w (fun e u' w' => (∃ v, e = .returned v) ∧ settle u' = .returning ∧ ∃ j' tab' nx', MemR WG C j' tab' nx' w' ∧ K tab' nx')

def DT (P : Program) (WG : World) (fn : Func) (K KP : V → Tab → Nat → Prop) (c : Code) (σ : St) : Prop :=
  ∀ C j a w, WG.heap.size ≤ C.w0.heap.size → ERel WG C.plain j σ a w → c.wpIn Fence.wide 0 P (bodyPostM Fence.wide 0 P fn (EndR WG C K KP)) a w

theorem leaveD {C : Ctx} {R : Ending → World → Prop} {u : FrameMode} {a : Act} {w' : World} {j' : Nat → Option Loc} {σ' : St} (hG : WG.heap.size ≤ C.w0.heap.size) (hu : u ≠ .run) (hr' : ERel WG C.plain j' σ' a w')
    (hfin : ∀ w2, ERel WG C.plain j' σ' { tmps := a.tmps, defers := [] } w2 → LeavesInM Fence.wide 0 P fn a.tmps R [] u w2) : LeavesInM Fence.wide 0 P fn a.tmps R a.defers u w' := by
  obtain ⟨Ds, e1, e2, e3⟩ := hr'.defers.defers
  have e4 : a.defers = Ds.map markOf ++ C.plain.base := e1
  rw [e4]
  exact leaves_marks (C := C.plain) hu hG rfl hfin Ds w' e2 e3 ⟨hr'.mem, hr'.lo, hr'.lx, hr'.env, hr'.n, ⟨⟨[], rfl, List.nodup_nil, by simp⟩, fun l hl => by cases hl⟩⟩

theorem bodyEnd {C : Ctx} {e : Exit} {a : Act} {w' : World} (hG : WG.heap.size ≤ C.w0.heap.size) (h : PostR WG C.plain (bodyQ P fn K noP) e a w') : bodyPostM Fence.wide 0 P fn (EndR WG C K KP) e a w' := by
  obtain ⟨x, σ', j', hx, hr', hq⟩ := h
  cases hx with
  | normal =>
    obtain ⟨r, hres, hK⟩ := hq
    refine leaveD hG (by simp) hr' fun w2 hr2 => ?_
    obtain ⟨m, hrun, hv⟩ := run_results hr2 hres
    exact ⟨m, hrun, j', σ'.tab, σ'.nx, r, hr2.mem.unplain, hv, hK⟩
  | ret =>
    obtain ⟨r, hres, hK⟩ := hq
    refine leaveD hG (by simp) hr' fun w2 hr2 => ?_
    obtain ⟨m, hrun, hv⟩ := run_results hr2 hres
    exact ⟨m, hrun, j', σ'.tab, σ'.nx, r, hr2.mem.unplain, hv, hK⟩
  | exit => exact hq.elim
  | goto => exact hq.elim
  | panic hp => exact hq.elim

theorem DT_seq {x y : Code} (h : T P WG x σ (thenQ (DT P WG fn K KP y) (bodyQ P fn K noP))) : DT P WG fn K KP (.seq x y) σ :=
  fun C j a w hG hr => wpIn_seq <| wpIn_mono (h C.plain j a w hr) fun e a w ⟨x, σ', j', hx, hr', hq⟩ => by
    cases hx with
    | normal => exact hq C j' a w hG hr'
    | exit => exact hq.elim
    | goto => exact hq.elim
    | ret => exact bodyEnd hG ⟨.ret, σ', j', .ret, hr', hq⟩
    | panic hp => exact hq.elim

theorem CallT_bodyD {f : FuncId} {c : Code} {vs : List V} {tab : Tab} {nx : Nat} (hf : P.funcs[f]? = some fn) (hb : fn.body = some c) (hn : vs.length ≤ fn.ntmps)
    (h : DT P WG fn K KP c (enter fn vs tab nx)) : CallT P WG f vs tab nx K KP := by
  intro C j w ms h1 h2 h3 h4 hm hvs
  refine callsIn_wide.1 (callsIn_of_wp_marks (F := Fence.wide) (n := 0) hf hb trivial ?_)
  have hG : WG.heap.size ≤ C.w0.heap.size := by rw [h4]; exact hm.glob.size
  have hr : ERel WG C.plain j (enter fn vs tab nx) { tmps := ms ++ Array.replicate (fn.ntmps - ms.size) undef, defers := [] } w := by
    refine ⟨hm.plain, by show C.nb ≤ nx; rw [h1]; exact Nat.le_refl _, Nat.le_refl _, fun t v hv => ?_, by simp [enter, hvs.1]; omega, ⟨⟨[], rfl, List.nodup_nil, by simp⟩, fun l hl => by cases hl⟩⟩
    simp only [enter, aget_enum, Nat.zero_le, if_true, Nat.sub_zero] at hv
    have hlt : t < ms.size := by rw [hvs.1]; exact (List.getElem?_eq_some_iff.1 hv).1
    refine ⟨ms.getD t undef, ?_, hvs.2 t v hv⟩
    rw [Array.getElem?_append_left hlt, Array.getElem?_eq_getElem hlt]
    simp [Array.getD, hlt]
  exact h C j _ w hG hr

def defQ (P : Program) (WG : World) (g : FuncId) (cs : List V) (lo : Nat) (rs : List ResultVar) (K : V → Tab → Nat → Prop) : VX → St → Prop
  | .normal, σ | .ret, σ => DefT P WG g cs σ.tab σ.nx none (fun tab nx => ∃ r, resV P ⟨σ.env, tab, nx, lo, σ.n⟩ rs = some r ∧ K r tab nx)
  | .panic v, σ => ∃ t, v = .ifc t (.p (.agg [])) ∧ DefT P WG g cs σ.tab σ.nx (some t) (fun tab nx => ∃ r, resV P ⟨σ.env, tab, nx, lo, σ.n⟩ rs = some r ∧ K r tab nx)
  | _, _ => False

theorem MemR.base {C : Ctx} {j : Nat → Option Loc} {tab : Tab} {nx : Nat} {w : World} (b : List Deferred) (h : MemR WG C j tab nx w) : MemR WG { C with base := b } j tab nx w :=
  ⟨h.nb, h.low, h.blk, h.apart, h.agree, h.own, h.ownG, h.size, h.keep, h.os, h.tape, h.output, h.glob, h.rd⟩
theorem MemR.unbase {C : Ctx} {j : Nat → Option Loc} {tab : Tab} {nx : Nat} {w : World} {b : List Deferred} (h : MemR WG { C with base := b } j tab nx w) : MemR WG C j tab nx w :=
  ⟨h.nb, h.low, h.blk, h.apart, h.agree, h.own, h.ownG, h.size, h.keep, h.os, h.tape, h.output, h.glob, h.rd⟩

theorem DT_defer {id : Nat} {o0 o1 : Oper} {B : Code} {t : Nat} {g : FuncId} {caps : Array Operand} {cs : List V}
    (h0 : o0.op = .makeFunc (.func g) #[] caps) (hd0 : o0.dst = some t) (hg0 : o0.guard = none) (h1 : o1.op = .defer { callee := .value (.tmp t), args := #[], argTypes := #[] }) (hd1 : o1.dst = none) (hg1 : o1.guard = none)
    (ht : t < σ.n) (hcs : evs σ caps.toList = some cs) (hcb : callable P g = true)
    (hB : T P WG B { σ with env := aset σ.env t (.clo (.func g) [] cs), lo := σ.nx } (defQ P WG g cs σ.lo fn.results.toList K)) : DT P WG fn K KP (.seq (.region id #[o0, o1] false) B) σ := by
  intro C j a w hG hr
  refine wpIn_seq (wpIn_region ?_)

  have hop0 : OpS P WG o0 σ (Just σ (.clo (.func g) [] cs)) := opF_sound (vs := cs) (by rw [h0]; simpa [Op.operands] using hcs) (side := True) (by rw [h0]; simp [opF]) trivial
  obtain ⟨m0, w1, v0, j1, tab1, nx1, hrun0, hm0, hv0, rfl, rfl, rfl⟩ := hop0 C.plain j a w hr
  have hr1 : ERel WG C.plain j1 { σ with env := aset σ.env t (.clo (.func g) [] cs) } (a.put o0.dst m0) w1 := by
    have := put_rel hr hm0 hv0 (d := o0.dst) (by rw [hd0]; exact ht)
    rw [hd0] at this ⊢
    exact this
  show wpOpsIn _ _ _ _ _ (List.range 2) a w
  rw [show List.range 2 = [0, 1] from rfl]
  simp only [wpOpsIn, List.getElem?_toArray, List.getElem?_cons_zero, List.getElem?_cons_succ, wanted_none hg0, wanted_none hg1, if_true]
  refine ⟨fun _ _ => trivial, ?_⟩
  rw [show (Fence.wide.round : Option Nat) = none from rfl, semAt_value hrun0]
  simp only [Oper.uponIn]
  refine ⟨fun _ _ => trivial, ?_⟩

  have hx : ev { σ with env := aset σ.env t (.clo (.func g) [] cs) } (.tmp t) = some (.clo (.func g) [] cs) := by simp only [ev, aget_aset, if_true]
  obtain ⟨ms, ns, hme, hms, hns⟩ := (hr1.ev hx).cloOf (show cloOf (.clo (.func g) [] cs) = some (g, [], cs) from rfl)
  have hms0 : ms = #[] := by apply Array.eq_empty_of_size_eq_zero; simpa using hms.1
  subst hms0
  have hrun1 : (execOp (a.put o0.dst m0).eval o1).run P w1 = .ok (.defer { target := .fn (.func g) ns, args := #[] }) w1 := by
    unfold execOp; rw [h1]
    simp only [resolve, hme, Deferred.ofValue, Sem.run_bind, Sem.run_pure, Result.andThen_ok]
    simp
  rw [show (Fence.wide.round : Option Nat) = none from rfl, Oper.semAt_none, hrun1]
  simp only [Oper.uponIn, hd1, Act.put]

  generalize hd : ({ target := .fn (.func g) ns, args := #[] } : Deferred) = d
  let σ1 : St := { σ with env := aset σ.env t (.clo (.func g) [] cs) }
  let a1 : Act := a.put o0.dst m0
  let C' : Ctx := { subC C.plain j1 σ.tab σ.nx w1 with base := d :: a1.defers }
  have hrB : ERel WG C' j1 { σ1 with lo := σ.nx } { tmps := a1.tmps, defers := d :: a1.defers } w1 :=
    ⟨hr1.mem.sub.base _, Nat.le_refl _, Nat.le_refl _, fun q v hq => let ⟨m, e1, e2⟩ := hr1.env q v hq; ⟨m, e1, e2.mono (fun k hk => ⟨⟨hk.1, hk.2.1, .inl hk⟩, rfl⟩) (fun b hb => ⟨rfl, hb⟩)⟩, hr1.n, ⟨⟨[], rfl, List.nodup_nil, by simp⟩, fun l hl => by cases hl⟩⟩
  have hG' : WG.heap.size ≤ C'.w0.heap.size := Nat.le_trans hG hr1.mem.size
  have hns1 : VRs w1 (okc C.plain (Own j1 σ.tab) w1) j1 σ.nx cs ns := hns

  have fin : ∀ (u : Option TypeId) (tm : Array Value) (j2 : Nat → Option Loc) (σ2 : St) (w3 : World), ERel WG C' j2 σ2 { tmps := tm, defers := C'.base } w3 →
      DefT P WG g cs σ2.tab σ2.nx u (fun tab nx => ∃ r, resV P ⟨σ2.env, tab, nx, σ.lo, σ2.n⟩ fn.results.toList = some r ∧ K r tab nx) → LeavesInM Fence.wide 0 P fn tm (EndR WG C K KP) C'.base (modeOf u) w3 := by
    intro u tm j2 σ2 w3 hr3 hD
    have h' : MemR WG (subC C.plain j1 σ.tab σ.nx w1) j2 σ2.tab σ2.nx w3 := hr3.mem.unbase
    have hok : ∀ k, okc C.plain (Own j1 σ.tab) w1 k → okc C' (Own j2 σ2.tab) w3 k ∧ w3.heap[k]? = w1.heap[k]? := by
      rintro k ⟨a1, a2, a3⟩
      refine ⟨⟨Nat.lt_of_lt_of_le a1 h'.size, fun hn => ?_, .inl ⟨a1, a2, a3⟩⟩, h'.keep k a1 a2⟩
      rcases h'.own k hn with h4 | h4
      · exact a2 h4
      · simp only [subC] at h4; omega
    have hvs : VRs w3 (okc (subC C' j2 σ2.tab σ2.nx w3) (Own j2 σ2.tab) w3) j2 σ2.nx cs ns :=
      ⟨hns1.1, fun i v hv => (hns1.2 i v hv).mono (fun k hk => let ⟨e1, e2⟩ := hok k hk; ⟨⟨e1.1, e1.2.1, .inl e1⟩, e2⟩) (fun b hb => ⟨h'.agree b hb, Nat.lt_of_lt_of_le hb h'.nb⟩)⟩
    have hcall := hD (subC C' j2 σ2.tab σ2.nx w3) j2 w3 ns rfl rfl rfl rfl rfl rfl hr3.mem.sub hvs
    show LeavesInM _ _ _ _ _ _ (d :: a1.defers) _ _
    subst hd
    refine ⟨modeOf_ne u, .inr ⟨fun h => by simp [Fence.wide] at h, .func g, ns, g, ns, rfl, ?_, fun _ _ => trivial, hcall.mono fun e u' w4 hq => ?_⟩⟩
    · simp only [invoke, run_call_enter hcb]
      simp [run_call_enter hcb]
    obtain ⟨⟨v, rfl⟩, hset, j4, tab4, nx4, hm4, r, hres, hK⟩ := hq
    simp only [hset]

    have mv1 := hr3.mem.unsub (lo := σ2.nx) hr3.mem.nb (Nat.le_refl _) hm4
    have mv2 := hr1.mem.unsub (lo := σ.lo) hr1.lo hr1.lx mv1.mem.unbase
    have hr5 : ERel WG C.plain j4 ⟨σ2.env, tab4, nx4, σ.lo, σ2.n⟩ { tmps := tm, defers := a1.defers } w4 := by
      refine ⟨mv2.mem, hr1.lo, mv2.lx, fun q v hq => ?_, hr3.n, hr1.defers.mono mv2.okk⟩
      obtain ⟨m, e1, e2⟩ := hr3.env q v hq
      exact ⟨m, e1, (mv1.keep _ _ e2).mono (fun k hk => ⟨okc_sub hr1.mem hk, rfl⟩) (fun b hb => ⟨rfl, hb⟩)⟩
    refine leaveD (a := { tmps := tm, defers := a1.defers }) hG (by simp) hr5 fun w5 hr6 => ?_
    obtain ⟨m, hrun, hv⟩ := run_results hr6 hres
    exact ⟨m, hrun, j4, tab4, nx4, r, hr6.mem.unplain, hv, hK⟩

  have marks : ∀ (u : Option TypeId) (a2 : Act) (j2 : Nat → Option Loc) (σ2 : St) (w2 : World), ERel WG C' j2 σ2 a2 w2 →
      DefT P WG g cs σ2.tab σ2.nx u (fun tab nx => ∃ r, resV P ⟨σ2.env, tab, nx, σ.lo, σ2.n⟩ fn.results.toList = some r ∧ K r tab nx) → LeavesInM Fence.wide 0 P fn a2.tmps (EndR WG C K KP) a2.defers (modeOf u) w2 := by
    intro u a2 j2 σ2 w2 hr2 hD
    obtain ⟨Ds, e1, e2, e3⟩ := hr2.defers.defers
    rw [e1]
    exact leaves_marks (C := C') (modeOf_ne u) hG' rfl (fun w3 hr3 => fin u a2.tmps j2 σ2 w3 hr3 hD) Ds w2 e2 e3 ⟨hr2.mem, hr2.lo, hr2.lx, hr2.env, hr2.n, ⟨⟨[], rfl, List.nodup_nil, by simp⟩, fun l hl => by cases hl⟩⟩
  refine wpIn_mono (hB C' j1 _ w1 hrB) fun e a2 w2 ⟨x, σ2, j2, hx, hr2, hq⟩ => ?_
  cases hx with
  | normal => exact marks none a2 j2 σ2 w2 hr2 hq
  | ret => exact marks none a2 j2 σ2 w2 hr2 hq
  | exit => exact hq.elim
  | goto => exact hq.elim
  | panic hp =>
    obtain ⟨t', rfl, hD⟩ := hq
    cases hp with
    | ifc hp =>
      cases hp with
      | p hp =>
        cases hp with
        | @agg _ ms hlen _ _ =>
          have : ms = #[] := by apply Array.eq_empty_of_size_eq_zero; simpa using hlen
          subst this
          exact marks (some t') a2 j2 σ2 w2 hr2 hD
end
end Go.Gp

namespace Go.Gp
open Go.RowKit
def recV : Option TypeId → V
  | none => .p (.v .nilIface)
  | some t => .ifc t (.p (.agg []))

section
variable {P : Program} {WG : World}
theorem pop_marks {C : Ctx} {j : Nat → Option Loc} {σ : St} {tm : Array Value} {fr : Frame} {cs : List Frame} (hm : fr.mode = .returning) (hG : WG.heap.size ≤ C.w0.heap.size) (hrn : C.rnd = none) (hbs : C.base = []) :
    ∀ (Ds : List Nat) (w : World), Ds.Nodup → (∀ D ∈ Ds, okc C (Own j σ.tab) w D ∧ C.w0.heap.size ≤ D ∧ w.heap[D]? = some (.deferred (some []))) → ERel WG C j σ { tmps := tm, defers := [] } w →
      ∃ w', StepsIn (Machine.fenced P Fence.wide) P (lone { fr with defers := Ds.map markOf } cs w) (lone { fr with defers := [] } cs w') ∧ ERel WG C j σ { tmps := tm, defers := [] } w'
  | [], w, _, _, hr => ⟨w, StepsIn.refl _, hr⟩
  | D :: Ds, w, hn, hD, hr => by
    obtain ⟨h1, h2, h3⟩ := hD D List.mem_cons_self
    have hnc : ¬ IsCells w D := fun ⟨ms, e, fr, hh⟩ => by rw [h3] at hh; cases hh
    obtain ⟨hmm, hok, hh⟩ := hr.mem.put (.deferred none) h1.1 h1.2.1 h2 (by omega) hnc
    have hr2 : ERel WG C j σ { tmps := tm, defers := [] } { w with heap := w.heap.setIfInBounds D (.deferred none) } := by
      refine ⟨hmm, hr.lo, hr.lx, fun t v hv => ?_, hr.n, ⟨⟨[], by rw [hbs]; rfl, List.nodup_nil, by simp⟩, fun l hl => by rw [hrn] at hl; cases hl⟩⟩
      obtain ⟨m, a, b⟩ := hr.env t v hv
      exact ⟨m, a, b.monoC (fun k hk hcl => ⟨hok k hk, hh k (fun e => hnc (e ▸ hcl))⟩) (fun b hb => ⟨rfl, hb⟩)⟩
    obtain ⟨w', hs, hr'⟩ := pop_marks (fr := fr) (cs := cs) hm hG hrn hbs Ds _ (List.nodup_cons.1 hn).2 (fun E hE => by
      obtain ⟨e1, e2, e3⟩ := hD E (List.mem_cons_of_mem _ hE)
      have hne : E ≠ D := fun e => (List.nodup_cons.1 hn).1 (e ▸ hE)
      exact ⟨hok E e1, e2, (hh E hne).trans e3⟩) hr2
    have hstep := step_collected (P := P) (fr := { fr with defers := (D :: Ds).map markOf }) (cs := cs) (w := w) (r := D) (ds := Ds.map markOf) (by simp [hm]) rfl rfl (run_takeDeferred h3)
    have hf : (lone { fr with defers := (D :: Ds).map markOf } cs w).fenced P Fence.wide := fenced_out (n := 0) trivial (by simp [Fence.room, Fence.wide]) (by simp [hm]) rfl (fun g hg => trivial)
    exact ⟨w', .head hf hstep hs, hr'⟩

theorem DefT_recover {g : FuncId} {fn : Func} {id : Nat} {o0 o1 : Oper} {B : Code} {t0 t1 : Nat} {vs : List V} {tab : Tab} {nx : Nat} {u : Option TypeId} {K : Tab → Nat → Prop} (hf : P.funcs[g]? = some fn) (hb : fn.body = some (.seq (.region id #[o0, o1] false) B))
    (h0 : o0.op = .call { callee := .builtin .recover, args := #[], argTypes := #[] }) (hd0 : o0.dst = some t0) (hg0 : o0.guard = none) (h1 : o1.op = .assign (.tmp t0)) (hd1 : o1.dst = some t1) (hg1 : o1.guard = none)
    (ht0 : t0 < fn.ntmps) (ht1 : t1 < fn.ntmps) (hn : vs.length ≤ fn.ntmps)
    (hB : T P WG B { env := aset (aset (enumFrom 0 vs) t0 (recV u)) t1 (recV u), tab, nx, lo := nx, n := fn.ntmps } (bodyQ P fn (fun _ t n => K t n) noP)) : DefT P WG g vs tab nx u K := by
  intro C j w ms e1 e2 e3 e4 e5 e6 hm hvs
  have hG : WG.heap.size ≤ C.w0.heap.size := by rw [e4]; exact hm.glob.size
  have hr : ERel WG C j (enter fn vs tab nx) { tmps := ms ++ Array.replicate (fn.ntmps - ms.size) undef, defers := [] } w := by
    refine ⟨hm, by rw [e1]; exact Nat.le_refl _, Nat.le_refl _, fun t v hv => ?_, by simp [enter, hvs.1]; omega, ⟨⟨[], by rw [e6]; rfl, List.nodup_nil, by simp⟩, fun l hl => by rw [e5] at hl; cases hl⟩⟩
    simp only [enter, aget_enum, Nat.zero_le, if_true, Nat.sub_zero] at hv
    have hlt : t < ms.size := by rw [hvs.1]; exact (List.getElem?_eq_some_iff.1 hv).1
    refine ⟨ms.getD t undef, ?_, hvs.2 t v hv⟩
    rw [Array.getElem?_append_left hlt, Array.getElem?_eq_getElem hlt]
    simp [Array.getD, hlt]
  refine ⟨trivial, fun c₀ cs hu hroom => ?_⟩
  let b : Frame := { (default : Frame) with fn := g, kind := .deferred, roundOf := none }
  have henter : Frame.enter P g ms .deferred = b.atR { tmps := ms ++ Array.replicate (fn.ntmps - ms.size) undef, defers := [] } [.code (.seq (.region id #[o0, o1] false) B)] := by
    simp [Frame.enter, Frame.atR, hf, hb, b]
  have hS : (Code.seq (.region id #[o0, o1] false) B).wpSIn Fence.wide 0 P (fun e a' cs' w' => PostR WG C (bodyQ P fn (fun _ t n => K t n) noP) e a' w' ∧ ∃ u', cs' = { c₀ with mode := u' } :: cs ∧ settle u' = .returning) { tmps := ms ++ Array.replicate (fn.ntmps - ms.size) undef, defers := [] } (c₀ :: cs) w := by
    refine wpSIn_seq (wpSIn_region ?_)
    generalize ha : ({ tmps := ms ++ Array.replicate (fn.ntmps - ms.size) undef, defers := [] } : Act) = a at hr ⊢
    have hrec : ∃ m u' , (match recoverD (c₀ :: cs) with | some (v, cs') => v = m ∧ cs' = { c₀ with mode := u' } :: cs | none => m = .nilIface ∧ c₀ = { c₀ with mode := u' }) ∧ settle u' = .returning ∧ VR w (okc C (Own j tab) w) j nx (recV u) m := by
      cases u with
      | none =>
        simp only [modeOf] at hu
        refine ⟨.nilIface, .returning, ?_, rfl, .p (.v rfl)⟩
        simp only [recoverD, hu]
        refine ⟨trivial, ?_⟩
        rw [← hu]
      | some t =>
        simp only [modeOf] at hu
        refine ⟨.iface t (.agg #[]), .panicking [{ v := .iface t (.agg #[]), recovered := true }], ?_, rfl, .ifc (.p (.agg rfl (by simp) (by simp)))⟩
        simp only [recoverD, hu]
        exact ⟨trivial, trivial⟩
    obtain ⟨m, u', hmt, hset, hmv⟩ := hrec
    have hrun0 : (execOp a.eval o0).run P w = .ok .recover w := by
      unfold execOp; rw [h0]; simp [go_sem]
    have hr1 : ERel WG C j (putS (enter fn vs tab nx) (some t0) (recV u) tab nx) (a.put (some t0) m) w := put_rel hr (Moves.refl hr) hmv ht0
    have hx1 : ev (putS (enter fn vs tab nx) (some t0) (recV u) tab nx) (.tmp t0) = some (recV u) := by simp only [putS, ev, aget_aset, if_true]
    have hv1 := hr1.ev hx1
    have hr2 := put_rel hr1 (Moves.refl hr1) hv1 (d := some t1) ht1
    have fin : ∀ cs', cs' = { c₀ with mode := u' } :: cs → wpOpsSIn Fence.wide 0 P #[o0, o1] (Exit.thenS (B.wpSIn Fence.wide 0 P (fun e a' cs' w' => PostR WG C (bodyQ P fn (fun _ t n => K t n) noP) e a' w' ∧ ∃ u', cs' = { c₀ with mode := u' } :: cs ∧ settle u' = .returning)) (fun e a' cs' w' => PostR WG C (bodyQ P fn (fun _ t n => K t n) noP) e a' w' ∧ ∃ u', cs' = { c₀ with mode := u' } :: cs ∧ settle u' = .returning)) [1] (a.put (some t0) m) cs' w := by
      intro cs' hcs
      simp only [wpOpsSIn, List.getElem?_toArray, List.getElem?_cons_zero, List.getElem?_cons_succ, wanted_none hg1, if_true]
      refine ⟨fun _ _ => trivial, ?_⟩
      have hrun1 : (execOp (a.put (some t0) m).eval o1).run P w = .ok (.value ((a.put (some t0) m).eval (.tmp t0))) w := by
        unfold execOp; rw [h1]; rfl
      rw [hrun1]
      simp only [hd1, Exit.thenS]
      refine wpSIn_of_wpIn rfl ?_
      have := hB C j _ w hr2
      rw [e5] at this
      exact wpIn_mono this fun e a' w' hq => ⟨hq, u', hcs, hset⟩
    show wpOpsSIn _ _ _ _ _ (List.range 2) _ _ _
    rw [show List.range 2 = [0, 1] from rfl]
    unfold wpOpsSIn
    simp only [List.getElem?_toArray, List.getElem?_cons_zero, wanted_none hg0, if_true]
    refine ⟨fun _ _ => trivial, ?_⟩
    rw [hrun0]
    simp only [hd0]
    cases hrd : recoverD (c₀ :: cs) with
    | some p =>
      obtain ⟨v, cs'⟩ := p
      rw [hrd] at hmt
      obtain ⟨rfl, hcs⟩ := hmt
      exact fin cs' hcs
    | none =>
      rw [hrd] at hmt
      obtain ⟨rfl, hc0⟩ := hmt
      exact fin _ (by rw [← hc0])
  obtain ⟨e, a', cs', w', hl, ⟨⟨x, σ', j', hx, hr', hq⟩, u', rfl, hu'⟩, harr⟩ := hS b [] rfl rfl trivial hroom
  rw [← henter] at harr
  have fin : ∀ (todo : List Item), (∃ r, resV P σ' fn.results.toList = some r ∧ K σ'.tab σ'.nx) → ∃ w2 v, StepsIn (Machine.fenced P Fence.wide) P (lone { b.atR a' todo with mode := .returning } ({ c₀ with mode := u' } :: cs) w') (lone { b.atR a' todo with mode := .returning, defers := [] } ({ c₀ with mode := u' } :: cs) w2) ∧ (results fn a'.tmps).run P w2 = .ok v w2 ∧ MemR WG C j' σ'.tab σ'.nx w2 := by
    intro todo ⟨r, hres, hK⟩
    obtain ⟨Ds, d1, d2, d3⟩ := hr'.defers.defers
    have hd : a'.defers = Ds.map markOf := by rw [d1, e6, List.append_nil]
    obtain ⟨w2, hs, hr2⟩ := pop_marks (P := P) (fr := { b.atR a' todo with mode := .returning }) (cs := { c₀ with mode := u' } :: cs) (tm := a'.tmps) rfl hG e5 e6 Ds w' d2 d3 ⟨hr'.mem, hr'.lo, hr'.lx, hr'.env, hr'.n, ⟨⟨[], by rw [e6]; rfl, List.nodup_nil, by simp⟩, fun l hl => by rw [e5] at hl; cases hl⟩⟩
    obtain ⟨v, hrun, _⟩ := run_results hr2 hres
    refine ⟨w2, v, ?_, hrun, hr2.mem⟩
    have e : ({ { b.atR a' todo with mode := .returning } with defers := Ds.map markOf } : Frame) = { b.atR a' todo with mode := .returning } := by
      rw [← hd]; rfl
    rw [e] at hs
    exact hs
  cases hx with
  | normal =>
    obtain ⟨w2, v, hs, hrun, hm2⟩ := fin [] (let ⟨r, a, b⟩ := hq; ⟨r, a, b⟩)
    obtain ⟨r, _, hK⟩ := hq
    exact ⟨.returned v, u', w2, _, ⟨⟨v, rfl⟩, hu', j', σ'.tab, σ'.nx, hm2, hK⟩, StepsIn.trans harr (.head (fenced_calm (fr := b.atR a' []) trivial hroom rfl) (stepR_end rfl) hs), rfl, rfl, rfl, rfl, fn, hf, hrun⟩
  | ret =>
    obtain ⟨todo, hs0⟩ := harr.1 rfl
    obtain ⟨w2, v, hs, hrun, hm2⟩ := fin todo (let ⟨r, a, b⟩ := hq; ⟨r, a, b⟩)
    obtain ⟨r, _, hK⟩ := hq
    exact ⟨.returned v, u', w2, _, ⟨⟨v, rfl⟩, hu', j', σ'.tab, σ'.nx, hm2, hK⟩, StepsIn.trans hs0 hs, rfl, rfl, rfl, rfl, fn, hf, hrun⟩
  | exit => exact hq.elim
  | goto => exact hq.elim
  | panic hp => exact hq.elim
end
end Go.Gp

namespace Go.Gp
open Go.RowKit
inductive Soft : PV → PV → Prop
  | refl {x} : Soft x x
  | nil {s} : Soft (.v (.slice none 0 0)) (.sl s [])
  | agg {cs ds} (h1 : cs.length = ds.length) (h2 : ∀ (i : Nat) c d, cs[i]? = some c → ds[i]? = some d → c.one = d.one)
      (h3 : ∀ (i : Nat) c d, cs[i]? = some c → ds[i]? = some d → Soft c d) : Soft (.agg cs) (.agg ds)
  | sl {s xs ys} (h1 : xs.length = ys.length) (h2 : ∀ (i : Nat) x y, xs[i]? = some x → ys[i]? = some y → x.cells.length = y.cells.length)
      (h3 : ∀ (i k : Nat) x y c d, xs[i]? = some x → ys[i]? = some y → x.cells[k]? = some c → y.cells[k]? = some d → c.one = d.one)
      (h4 : ∀ (i k : Nat) x y c d, xs[i]? = some x → ys[i]? = some y → x.cells[k]? = some c → y.cells[k]? = some d → Soft c d) : Soft (.sl s xs) (.sl s ys)

theorem get_of {α β : Type} {l : List α} {m : List β} (h : l.length = m.length) {i : Nat} {y : β} (hy : m[i]? = some y) : ∃ x, l[i]? = some x := by
  have hlt : i < m.length := (List.getElem?_eq_some_iff.1 hy).1
  exact ⟨l[i]'(by omega), List.getElem?_eq_getElem (by omega)⟩
theorem soft_pr {w : World} {ok : Nat → Prop} {a b : PV} (h : Soft a b) : ∀ {m : Value}, PR w ok a m → PR w ok b m := by
  induction h with
  | refl => exact fun h => h
  | nil => intro m h; cases h; exact .nil
  | agg h1 h2 _ ih =>
    intro m h
    cases h with
    | agg hlen hone hrel =>
      refine .agg (hlen.trans h1) (fun i d hd => ?_) (fun i d hd => ?_)
      · obtain ⟨c, hc⟩ := get_of h1 hd
        rw [← h2 i c d hc hd]; exact hone i c hc
      · obtain ⟨c, hc⟩ := get_of h1 hd
        exact ih i c d hc hd (hrel i c hc)
  | sl h1 h2 h3 _ ih =>
    intro m h
    cases h with
    | nil =>
      have : ∀ {l : List PV}, ([] : List PV).length = l.length → l = [] := fun h => by simpa using h.symm
      rw [this h1]; exact .nil
    | sl f hn hok hc hcell hlen hone hrel =>
      refine .sl f (hn.trans h1) hok hc hcell (fun i y hy => ?_) (fun i k y d hy hd => ?_) (fun i k y d hy hd => ?_)
      · obtain ⟨x, hx⟩ := get_of h1 hy
        rw [← h2 i x y hx hy]; exact hlen i x hx
      · obtain ⟨x, hx⟩ := get_of h1 hy
        obtain ⟨c, hc'⟩ := get_of (h2 i x y hx hy) hd
        rw [← h3 i k x y c d hx hy hc' hd]; exact hone i k x c hx hc'
      · obtain ⟨x, hx⟩ := get_of h1 hy
        obtain ⟨c, hc'⟩ := get_of (h2 i x y hx hy) hd
        exact ih i k x y c d hx hy hc' hd (hrel i k x c hx hc')

inductive SoftW : V → V → Prop
  | refl {x} : SoftW x x
  | p {a b} (h : Soft a b) : SoftW (.p a) (.p b)
  | agg {cs : List V} {ds : List PV} (h1 : cs.length = ds.length) (h2 : ∀ (i : Nat) c d, cs[i]? = some c → ds[i]? = some d → ∃ a, c = .p a ∧ a.one = d.one ∧ Soft a d) : SoftW (.agg cs) (.p (.agg ds))
  | tup {vs us} (h1 : vs.length = us.length) (h2 : ∀ (i : Nat) c d, vs[i]? = some c → us[i]? = some d → SoftW c d) : SoftW (.tup vs) (.tup us)
theorem soft_vr {w : World} {ok : Nat → Prop} {j : Nat → Option Loc} {nx : Nat} {a b : V} (h : SoftW a b) : ∀ {m : Value}, VR w ok j nx a m → VR w ok j nx b m := by
  induction h with
  | refl => exact fun h => h
  | p hs => intro m h; cases h with | p hp => exact .p (soft_pr hs hp)
  | agg h1 h2 =>
    intro m h
    cases h with
    | agg hlen hone hrel =>
      refine .p (.agg (hlen.trans h1) (fun i d hd => ?_) (fun i d hd => ?_))
      · obtain ⟨c, hc⟩ := get_of h1 hd
        obtain ⟨a, rfl, e, _⟩ := h2 i c d hc hd
        rw [← e]; exact hone i _ hc
      · obtain ⟨c, hc⟩ := get_of h1 hd
        obtain ⟨a, rfl, _, hs⟩ := h2 i c d hc hd
        have := hrel i _ hc
        cases this with | p hp => exact soft_pr hs hp
  | tup h1 _ ih =>
    intro m h
    cases h with
    | tup hlen hrel =>
      refine .tup (hlen.trans h1) (fun i d hd => ?_)
      obtain ⟨c, hc⟩ := get_of h1 hd
      exact ih i c d hc hd (hrel i c hc)
section
variable {P : Program} {WG : World} {σ : St} {Q : VX → St → Prop}
theorem CallT.softR {f : FuncId} {vs : List V} {tab : Tab} {nx : Nat} {K KP : V → Tab → Nat → Prop} (h : CallT P WG f vs tab nx (fun r t n => ∃ r', SoftW r r' ∧ K r' t n) KP) : CallT P WG f vs tab nx K KP :=
  fun C j w ms h1 h2 h3 h4 h5 h6 => (h C j w ms h1 h2 h3 h4 h5 h6).mono fun e w' he => by
    cases e with
    | returned m => obtain ⟨j, t, n, r, a, b, r', hs, c⟩ := he; exact ⟨j, t, n, r', a, soft_vr hs b, c⟩
    | panicked ch => exact he
    | outgrown => exact he
theorem FV.softR {f : FuncId} {ps : List PV} {r r' : V} (h : FV P WG f ps r) (hs : SoftW r r') : FV P WG f ps r' := fun tab nx =>
  CallT.softR (CallT.mono (h tab nx) (fun q t n ⟨e1, e2, e3⟩ => ⟨r', by rw [e1]; exact hs, rfl, e2, e3⟩) (fun _ _ _ h => h))
end
section
variable {P : Program} {WG : World} {σ : St} {Q : VX → St → Prop} {K KP : V → Tab → Nat → Prop} {rs : List ResultVar} {n : Nat}
def DTr (P : Program) (WG : World) (rs : List ResultVar) (n : Nat) (K KP : V → Tab → Nat → Prop) (c : Code) (σ : St) : Prop := ∀ fn : Func, fn.results.toList = rs → fn.ntmps = n → DT P WG fn K KP c σ
theorem resK_ex {σ : St} (h : resK P rs K σ) : ∃ r, resV P σ rs = some r ∧ K r σ.tab σ.nx := by
  unfold resK at h
  split at h
  · rename_i r hr; exact ⟨r, hr, h⟩
  · exact h.elim
theorem CallT_dT {f : FuncId} {fn : Func} {c : Code} {vs : List V} {tab : Tab} {nx : Nat} (hf : P.funcs[f]? = some fn) (hres : fn.results.toList = rs) (hnt : fn.ntmps = n) (hn : vs.length ≤ n) (hb : fn.body = some c)
    (h : DTr P WG rs n K KP c (enter' n vs tab nx)) : CallT P WG f vs tab nx K KP := by
  have := h fn hres hnt
  subst hnt
  exact CallT_bodyD hf hb hn this
theorem bodyQ_of {fn : Func} {x : VX} {σ : St} (h : bodyQ' P fn.results.toList K KP x σ) : bodyQ P fn K KP x σ := by
  cases x with
  | normal => exact resK_ex h
  | ret => exact resK_ex h
  | panic v => exact h
  | exit => exact h
  | goto => exact h
theorem DTr_seq {x y : Code} (h : T P WG x σ (thenQ (DTr P WG rs n K KP y) (bodyQ' P rs K noP))) : DTr P WG rs n K KP (.seq x y) σ := fun fn hres hnt => by
  subst hres hnt
  refine DT_seq (h.mono fun x σ hq => ?_)
  cases x with
  | normal => exact hq fn rfl rfl
  | ret => exact bodyQ_of (KP := noP) (x := .ret) hq
  | panic v => exact hq
  | exit => exact hq
  | goto => exact hq
def defQ' (P : Program) (WG : World) (g : FuncId) (cs : List V) (lo : Nat) (rs : List ResultVar) (K : V → Tab → Nat → Prop) : VX → St → Prop
  | .normal, σ | .ret, σ => DefT P WG g cs σ.tab σ.nx none (fun tab nx => resK P rs K ⟨σ.env, tab, nx, lo, σ.n⟩)
  | .panic v, σ => ∃ t, v = .ifc t (.p (.agg [])) ∧ DefT P WG g cs σ.tab σ.nx (some t) (fun tab nx => resK P rs K ⟨σ.env, tab, nx, lo, σ.n⟩)
  | _, _ => False
theorem DefT.mono {f : FuncId} {vs : List V} {tab : Tab} {nx : Nat} {u : Option TypeId} {K K' : Tab → Nat → Prop} (h : DefT P WG f vs tab nx u K) (hk : ∀ t n, K t n → K' t n) : DefT P WG f vs tab nx u K' :=
  fun C j w ms h1 h2 h3 h4 h5 h6 h7 h8 => (h C j w ms h1 h2 h3 h4 h5 h6 h7 h8).mono fun _ _ _ ⟨a, b, j, t, n, c, d⟩ => ⟨a, b, j, t, n, c, hk t n d⟩
theorem DTr_defer {id : Nat} {o0 o1 : Oper} {B : Code} {t : Nat} {g : FuncId} {caps : Array Operand} {cs : List V}
    (h0 : o0.op = .makeFunc (.func g) #[] caps) (hd0 : o0.dst = some t) (hg0 : o0.guard = none) (h1 : o1.op = .defer { callee := .value (.tmp t), args := #[], argTypes := #[] }) (hd1 : o1.dst = none) (hg1 : o1.guard = none)
    (ht : t < σ.n) (hcs : evs σ caps.toList = some cs) (hcb : callable P g = true)
    (hB : T P WG B { σ with env := aset σ.env t (.clo (.func g) [] cs), lo := σ.nx } (defQ' P WG g cs σ.lo rs K)) : DTr P WG rs n K KP (.seq (.region id #[o0, o1] false) B) σ := fun fn hres hnt => by
  subst hres hnt
  refine DT_defer h0 hd0 hg0 h1 hd1 hg1 ht hcs hcb (hB.mono fun x σ hq => ?_)
  cases x with
  | normal => exact DefT.mono hq fun t n h => resK_ex h
  | ret => exact DefT.mono hq fun t n h => resK_ex h
  | panic v => obtain ⟨t, e, hq⟩ := hq; exact ⟨t, e, DefT.mono hq fun t n h => resK_ex h⟩
  | exit => exact hq
  | goto => exact hq
theorem DefT_recT {g : FuncId} {fn : Func} {id : Nat} {o0 o1 : Oper} {B : Code} {t0 t1 : Nat} {vs : List V} {tab : Tab} {nx : Nat} {u : Option TypeId} {K : Tab → Nat → Prop} (hf : P.funcs[g]? = some fn) (hres : fn.results.toList = rs) (hnt : fn.ntmps = n) (hn : vs.length ≤ n) (hb : fn.body = some (.seq (.region id #[o0, o1] false) B))
    (h0 : o0.op = .call { callee := .builtin .recover, args := #[], argTypes := #[] }) (hd0 : o0.dst = some t0) (hg0 : o0.guard = none) (h1 : o1.op = .assign (.tmp t0)) (hd1 : o1.dst = some t1) (hg1 : o1.guard = none)
    (ht0 : t0 < n) (ht1 : t1 < n) (hB : T P WG B { env := aset (aset (enumFrom 0 vs) t0 (recV u)) t1 (recV u), tab, nx, lo := nx, n := n } (bodyQ' P rs (fun _ t n => K t n) noP)) : DefT P WG g vs tab nx u K := by
  subst hres hnt
  exact DefT_recover hf hb h0 hd0 hg0 h1 hd1 hg1 ht0 ht1 hn (hB.mono fun x σ hq => bodyQ_of hq)
def metB (ops : Array Oper) (ds : Met) : Bool := ds.all fun p => decide ((ops[p.1]?).map (·.dst) = some p.2)
theorem metB_ok {ops : Array Oper} : ∀ {ds : Met}, metB ops ds = true → MetOk ops ds
  | [], _ => fun g d hg => by simp [aget] at hg
  | (k, x) :: r, h => fun g d hg => by
    simp only [metB, List.all_cons, Bool.and_eq_true, decide_eq_true_eq] at h
    simp only [aget] at hg
    split at hg
    · rename_i e; subst e; cases hg; exact h.1
    · exact metB_ok (ds := r) h.2 g d hg
theorem fin_off {ops : Array Oper} {i g : Nat} {want : Bool} {d : Option Nat} {o : Oper} {l : List Oper} {ds : Met} {Q' : VX → St → Prop} (v : V) (hds : metB ops ds = true) (hl : ops.toList.drop (i + 1) = l) (hi : ops[i]? = some o) (hod : o.dst = d) (hog : o.guard = some (g, want)) (hg : guardC ds σ (some (g, want)) = some false) (hd : dstOk σ d)
    (h : wpR P WG ops Q (i + 1) ((i, d) :: ds) l (putS σ d (.cnd false v) σ.tab σ.nx)) : fin P WG none σ (wpR P WG ops Q (i + 1) ((i, d) :: ds) l) Q' (RT P WG ops (i :: idx (i + 1) l) σ Q) := by
  subst hod
  have hm := metB_ok hds
  show RT P WG ops (i :: idx (i + 1) l) σ Q
  refine RT_pure (v := v) hm hi (by rw [hog]; exact hg) hd (fun h => by cases h) (wpR_sound l (i + 1) ((i, o.dst) :: ds) _ (fun g d hg => ?_) (fun k => ?_) (by rw [putC, hog]; exact h))
  · simp only [aget] at hg
    split at hg
    · rename_i e; subst e; cases hg; rw [hi]; rfl
    · exact hm g d hg
  · rw [← hl, List.getElem?_drop]; simp
theorem fin_weak {ops : Array Oper} {i : Nat} {d : Option Nat} {o : Oper} {l : List Oper} {ds : Met} {Q' : VX → St → Prop} {σ' : St} (hw : Weak WG σ σ') (hds : metB ops ds = true) (hc : ops.toList.drop i = o :: l) (hod : o.dst = d)
    (h : wpR P WG ops Q i ds (o :: l) σ') : fin P WG none σ (wpR P WG ops Q (i + 1) ((i, d) :: ds) l) Q' (RT P WG ops (i :: idx (i + 1) l) σ Q) := by
  show RT P WG ops (i :: idx (i + 1) l) σ Q
  exact RT_weak hw (wpR_sound (o :: l) i ds σ' (metB_ok hds) (fun k => by rw [← hc, List.getElem?_drop]; simp) h)
theorem fin_freeze (b : Nat) {ops : Array Oper} {i : Nat} {d : Option Nat} {o : Oper} {l : List Oper} {ds : Met} {Q' : VX → St → Prop} (hds : metB ops ds = true) (hc : ops.toList.drop i = o :: l) (hod : o.dst = d)
    (h : wpR P WG ops Q i ds (o :: l) (frzS σ b)) : fin P WG none σ (wpR P WG ops Q (i + 1) ((i, d) :: ds) l) Q' (RT P WG ops (i :: idx (i + 1) l) σ Q) := fin_weak (Weak.freeze b) hds hc hod h
end
end Go.Gp

namespace Go.Gp
open Go.RowKit
section
variable {P : Program} {WG : World} {σ : St} {Q : VX → St → Prop} {ops : Array Oper}
def Hold (K : St → Prop) (σ : St) : Prop := K σ
theorem Hold.intro {K : St → Prop} {σ : St} (h : K σ) : Hold K σ := h
def finL (P : Program) (WG : World) (isM : Bool) (o : Oper) (σ : St) (r : Option SV) (K : St → Prop) : Prop :=
  match r with
  | none => False
  | some (.pure c v side) => isM = false ∧ side ∧ dstOk σ o.dst ∧ K (stP σ o (uV o c v) σ.tab σ.nx)
  | some (.call c side g vs) => side ∧ dstOk σ o.dst ∧
      if isM then c = true ∧ ∃ v tab nx, CallT P WG g vs σ.tab σ.nx (fun r t n => r = v ∧ t = tab ∧ n = nx) noP ∧ Hold K (stP σ o (uV o true v) tab nx)
      else ∃ r, (c = true → FVv P WG g vs r) ∧ Hold K (stP σ o (uV o c r) σ.tab σ.nx)
  | some (.mem v tab nx side) =>
      if isM then side ∧ dstOk σ o.dst ∧ (v = none → o.dst = none) ∧ K (stP σ o (v.getD .zc) tab nx)
      else match freshG P o σ side with
        | some (v, side) => side ∧ dstOk σ o.dst ∧ K (stP σ o v σ.tab σ.nx)
        | none => False
def wpL (P : Program) (WG : World) (M : List Nat) (Q : VX → St → Prop) : Nat → Met → List Oper → St → Prop
  | _, _, [], σ => Q .normal σ
  | q, ds, o :: l, σ => finL P WG (inM M q) o σ (stepV P ds o σ) (wpL P WG M Q (q + 1) ((q, o.dst) :: ds) l)
theorem againAll_nil (mems : List MemAt) : ∀ again : List Again, againAll P [] mems again
  | [] => trivial
  | x :: r => by
    refine ⟨?_, againAll_nil mems r⟩
    induction mems with
    | nil => trivial
    | cons y l ih => exact ⟨fun h => by simp [inP] at h, ih⟩
theorem wpL_D {M : List Nat} : ∀ (l : List Oper) (q : Nat) (ds : Met) (σ : St) (mems : List MemAt) (again : List Again), wpL P WG M Q q ds l σ → wpD P WG false M [] Q q ds l σ mems again
  | [], q, ds, σ, mems, again, h => ⟨againAll_nil mems again, h⟩
  | o :: l, q, ds, σ, mems, again, h => by
    have ih := wpL_D (M := M) l (q + 1) ((q, o.dst) :: ds)
    rw [wpD_cons]
    simp only [wpL] at h
    cases hV : stepV P ds o σ with
    | none => rw [hV] at h; exact h.elim
    | some sv =>
      rw [hV] at h
      cases sv with
      | pure c v side => exact ⟨h.1, h.2.1, h.2.2.1, ih _ _ _ h.2.2.2⟩
      | call c side g vs =>
        refine ⟨h.1, h.2.1, ?_⟩
        have h3 := h.2.2
        cases hM : inM M q with
        | true =>
          rw [hM] at h3
          simp only [if_true] at h3 ⊢
          obtain ⟨e, v, tab, nx, a, b⟩ := h3
          exact ⟨e, v, tab, nx, a, ih _ _ _ b⟩
        | false =>
          rw [hM] at h3
          simp only [Bool.false_eq_true, if_false] at h3 ⊢
          obtain ⟨r, a, b⟩ := h3
          exact ⟨r, a, ih _ _ _ b⟩
      | mem v tab nx side =>
        simp only [finL, finD] at h ⊢
        cases hM : inM M q with
        | true =>
          rw [hM] at h
          simp only [if_true] at h ⊢
          exact ⟨h.1, h.2.1, h.2.2.1, ih _ _ _ h.2.2.2⟩
        | false =>
          rw [hM] at h
          simp only [Bool.false_eq_true, if_false] at h ⊢
          split at h
          · rename_i v s hf
            rw [hf]
            exact ⟨h.1, h.2.1, ih _ _ _ h.2.2⟩
          · exact h.elim
theorem T_drawL {id : Nat} (M : List Nat) (hmix : P.follows .mixedOrders = true) (hchk : (drawOk ops M && alOk ops M []) = true) (h : wpL P WG M Q 0 [] ops.toList σ) : T P WG (.region id ops true) σ Q :=
  T_drawS M [] hmix hchk (wpL_D _ _ _ _ _ _ h)

theorem wpL_nil {M : List Nat} (q : Nat) (ds : Met) (σ : St) : wpL P WG M Q q ds [] σ = Q .normal σ := rfl
theorem wpL_cons {M : List Nat} (q : Nat) (ds : Met) (o : Oper) (l : List Oper) (σ : St) : wpL P WG M Q q ds (o :: l) σ = finL P WG (inM M q) o σ (stepV P ds o σ) (wpL P WG M Q (q + 1) ((q, o.dst) :: ds) l) := rfl
theorem finL_pure {isM : Bool} {o : Oper} {σ : St} {K : St → Prop} {c : Bool} {v : V} {side : Prop} : finL P WG isM o σ (some (.pure c v side)) K = (isM = false ∧ side ∧ dstOk σ o.dst ∧ K (stP σ o (uV o c v) σ.tab σ.nx)) := rfl
theorem finL_call {o : Oper} {σ : St} {K : St → Prop} {c : Bool} {side : Prop} {g : FuncId} {vs : List V} : finL P WG false o σ (some (.call c side g vs)) K = (side ∧ dstOk σ o.dst ∧ ∃ r, (c = true → FVv P WG g vs r) ∧ Hold K (stP σ o (uV o c r) σ.tab σ.nx)) := rfl
theorem finL_callM {o : Oper} {σ : St} {K : St → Prop} {c : Bool} {side : Prop} {g : FuncId} {vs : List V} :
    finL P WG true o σ (some (.call c side g vs)) K = (side ∧ dstOk σ o.dst ∧ c = true ∧ ∃ v tab nx, CallT P WG g vs σ.tab σ.nx (fun r t n => r = v ∧ t = tab ∧ n = nx) noP ∧ Hold K (stP σ o (uV o true v) tab nx)) := rfl
theorem finL_mem {o : Oper} {σ : St} {K : St → Prop} {v : Option V} {tab : Tab} {nx : Nat} {side : Prop} : finL P WG true o σ (some (.mem v tab nx side)) K = (side ∧ dstOk σ o.dst ∧ (v = none → o.dst = none) ∧ K (stP σ o (v.getD .zc) tab nx)) := rfl
theorem finL_memF {o : Oper} {σ : St} {K : St → Prop} {v : Option V} {tab : Tab} {nx : Nat} {side : Prop} : finL P WG false o σ (some (.mem v tab nx side)) K = (match freshG P o σ side with | some (v, side) => side ∧ dstOk σ o.dst ∧ K (stP σ o v σ.tab σ.nx) | none => False) := rfl
theorem CallT.weak {f : FuncId} {vs : List V} {tab : Tab} {nx : Nat} {K KP : V → Tab → Nat → Prop}
    (h : CallT P WG f vs tab nx (fun r t n => ∃ r' t' n', K r' t' n' ∧ ∀ lo, lo ≤ n → Weak WG ⟨[(0, r)], t, n, lo, 1⟩ ⟨[(0, r')], t', n', lo, 1⟩) KP) : CallT P WG f vs tab nx K KP :=
  fun C j w ms h1 h2 h3 h4 h5 h6 => (h C j w ms h1 h2 h3 h4 h5 h6).mono fun e w' he => by
    cases e with
    | returned m =>
      obtain ⟨j1, t, n, r, hm, hv, r', t', n', hK, hw⟩ := he
      have hr : ERel WG C.plain j1 ⟨[(0, r)], t, n, C.nb, 1⟩ { tmps := #[m], defers := [] } w' := by
        refine ⟨hm.plain, Nat.le_refl _, hm.nb, fun k v hk => ?_, rfl, ⟨⟨[], rfl, List.nodup_nil, by simp⟩, fun l hl => by cases hl⟩⟩
        simp only [aget] at hk
        split at hk
        · rename_i e; subst e; cases hk; exact ⟨m, rfl, hv⟩
        · cases hk
      obtain ⟨j2, hr2⟩ := hw C.nb hm.nb C.plain j1 _ w' hr
      obtain ⟨m', e1, e2⟩ := hr2.env 0 r' (by simp [aget])
      have : m = m' := by simpa using e1
      subst this
      exact ⟨j2, t', n', r', hr2.mem.unplain, e2, hK⟩
    | panicked ch => exact he
    | outgrown => exact he
theorem CallT.frz {f : FuncId} {vs : List V} {tab : Tab} {nx : Nat} {K KP : V → Tab → Nat → Prop} (h : CallT P WG f vs tab nx (fun r t n => ∃ b, K (frz1 t b r) (frzT t b t) n) KP) : CallT P WG f vs tab nx K KP :=
  CallT.weak (CallT.mono h (fun r t n ⟨b, hb⟩ => ⟨_, _, _, hb, fun lo _ => Weak.freeze (σ := ⟨[(0, r)], t, n, lo, 1⟩) b⟩) (fun _ _ _ h => h))
theorem drop_get {i : Nat} {o : Oper} {l : List Oper} (hc : ops.toList.drop i = o :: l) : ops[i]? = some o := by
  have := congrArg (fun l => l[0]?) hc
  simpa [List.getElem?_drop] using this
theorem RT_step {i : Nat} {rest : List Nat} {o : Oper} {l : List Oper} (hc : ops.toList.drop i = o :: l) (h : stepR P WG [] o σ (fun σ' => RT P WG ops rest σ' Q) Q (RT P WG ops (i :: rest) σ Q)) : RT P WG ops (i :: rest) σ Q :=
  stepR_sound (fun g d h => by simp [aget] at h) (drop_get hc) h
theorem op_slice_sl3 {op : Oper} {K : V → Tab → Nat → Prop} {t : TypeId} {x : Operand} {lo hi mx : Option Operand} {L H M : Nat} {i ei : TI} {e s : Nat} {xs : List PV} (ho : op.op = .slice t x lo hi mx) (hi' : tiOf P t = some i) (hd : i.d = .slice e) (hei : tiOf P e = some ei) (hs : ei.size = s)
    (hx : ev σ x = some (.p (.sl s xs))) (hl : bnd σ lo (some (L : Int))) (hh : bnd σ hi (some (H : Int))) (hm : bnd σ mx (some (M : Int))) (h1 : L ≤ H) (h2 : H ≤ M) (h3 : M ≤ xs.length)
    (hk : K (.p (.sl s ((xs.drop L).take (H - L)))) σ.tab σ.nx) : OpS P WG op σ K := by
  refine .pure (fun C j a w hr => ?_) hk
  have hv := hr.ev hx
  generalize hm' : a.eval x = m at hv
  cases hv with
  | p hp =>
    cases hp with
    | nil =>
      rename_i b c
      simp only [List.length_nil] at h3
      have hrun := run_slice_sl (P := P) hr ho hi' hd hei hm' hl hh hm (fun _ => rfl) (by simp only [Option.getD_some]; omega) (by simp only [Option.getD_some]; omega) (by simp only [Option.getD_some]; omega) (by simp only [Option.getD_some]; omega)
      refine ⟨_, hrun, ?_⟩
      simp only [Option.getD_some, Int.toNat_natCast]
      have e0 : H - L = 0 := by omega
      rw [e0]
      simp only [List.drop_nil, List.take_nil]
      exact .p .nil
    | @sl s xs B o c n f hn hok hc hcell hlen hone hrel =>
      subst hn
      have hrun := run_slice_sl (P := P) hr ho hi' hd hei hm' hl hh hm (fun _ => rfl) (by simp only [Option.getD_some]; omega) (by simp only [Option.getD_some]; omega) (by simp only [Option.getD_some]; omega) (by simp only [Option.getD_some]; omega)
      refine ⟨_, hrun, ?_⟩
      simp only [Option.getD_some, Int.toNat_natCast]
      have hlen' : ((xs.drop L).take (H - L)).length = H - L := by simp; omega
      by_cases hz : H - L = 0
      · have : (xs.drop L).take (H - L) = [] := List.eq_nil_of_length_eq_zero (by rw [hlen', hz])
        rw [this, hz]; exact .p .nil
      · rw [if_neg (by omega)]
        simp only [Option.map_some, addr_add]
        have hget : ∀ i, i < H - L → ((xs.drop L).take (H - L))[i]? = xs[L + i]? := fun i hi => by
          rw [List.getElem?_take, if_pos hi, List.getElem?_drop]
        have hget' : ∀ (i : Nat) x, ((xs.drop L).take (H - L))[i]? = some x → i < H - L ∧ xs[L + i]? = some x := fun i x hx => by
          have hlt := (List.getElem?_eq_some_iff.1 hx).1
          rw [hlen'] at hlt
          exact ⟨hlt, (hget i hlt).symm.trans hx⟩
        refine .p (.sl (fun k => f (L * s + k)) hlen'.symm hok (by omega) (fun k hk => ?_) (fun i x hx => hlen _ _ (hget' i x hx).2) (fun i k x y hx hy => hone _ _ _ _ (hget' i x hx).2 hy) (fun i k x y hx hy => ?_))
        · have hb : L * s + k < xs.length * s := by
            have h4 : L * s + (H - L) * s = H * s := by rw [← Nat.add_mul]; congr 1; omega
            have h5 : H * s ≤ xs.length * s := Nat.mul_le_mul_right s (by omega)
            omega
          have := hcell _ hb
          rw [hs, Nat.add_assoc]; exact this
        · have := hrel _ _ _ _ (hget' i x hx).2 hy
          rw [Nat.add_mul] at this
          show PR w _ y (f (L * s + (i * s + k)))
          rwa [← Nat.add_assoc]
end
attribute [push_cast] wpL_cons wpL_nil finL_pure finL_call finL_callM finL_mem finL_memF
end Go.Gp

namespace Go.Gp
open Go.RowKit
section
variable {P : Program} {WG : World} {Q : VX → St → Prop} {ops : Array Oper}
def stab (ks : List Nat) (t t' : Tab) : Prop := ∀ b ∈ ks, aget t b = aget t' b
theorem stab_nil (t t' : Tab) : stab [] t t' = True := by simp [stab]
theorem stab_cons (b : Nat) (r : List Nat) (t t' : Tab) : stab (b :: r) t t' = (aget t b = aget t' b ∧ stab r t t') := by simp [stab]
theorem stab.refl (ks : List Nat) (t : Tab) : stab ks t t := fun _ _ => rfl
theorem stab.trans {ks : List Nat} {a b c : Tab} (h : stab ks a b) (h2 : stab ks b c) : stab ks a c := fun k hk => (h k hk).trans (h2 k hk)
theorem stab.symm {ks : List Nat} {a b : Tab} (h : stab ks a b) : stab ks b a := fun k hk => (h k hk).symm
def AStep (P : Program) (WG : World) (ops : Array Oper) (M ks : List Nat) (blk : Blk) (q : Nat) (o : Oper) (σ σ' : St) (u : V) : Prop :=
  dstOk σ o.dst ∧ ∃ ds, MetOk ops ds ∧
    ((q ∉ M ∧ σ' = stP σ o u σ.tab σ.nx ∧ ∃ c v side, (∀ t n, stab ks t σ.tab → stepV P ds o { σ with tab := t, nx := n } = some (.pure c v side)) ∧ side ∧ u = uV o c v) ∨
     (q ∉ M ∧ σ' = stP σ o u σ.tab σ.nx ∧ ∃ c side g vs r, stepV P ds o σ = some (.call c side g vs) ∧ side ∧ (c = true → FVv P WG g vs r) ∧ u = uV o c r) ∨
     (q ∈ M ∧ stab ks σ'.tab σ.tab ∧ σ' = stP σ o u σ'.tab σ.nx ∧ ∃ side g vs v, stepV P ds o σ = some (.call true side g vs) ∧ side ∧ u = uV o true v ∧ CallT P WG g vs σ.tab σ.nx (fun r t n => r = v ∧ t = σ'.tab ∧ n = σ.nx) noP ∧
       CallT P WG g vs (aset σ.tab σ.nx blk) (σ.nx + 1) (fun r t n => r = v ∧ t = aset σ'.tab σ.nx blk ∧ n = σ.nx + 1) noP) ∨
     (q ∉ M ∧ σ' = stP σ o u σ.tab σ.nx ∧ ∃ sd v side, (sd → guardC ds σ o.guard = some true) ∧ freshG P o σ sd = some (v, side) ∧ side ∧ u = v))

theorem drawA_main {id : Nat} (S : Nat → St) (u : Nat → V) (M ks : List Nat) (p : Nat) (blk : Blk) (hks : ∀ b ∈ ks, b < (S 0).nx) (hc : DrawOk ops M) (hmix : P.follows .mixedOrders = true) (hsz : ops.size = p + 2) (hM : ∀ m ∈ M, m < p)
    (hlast : ∀ q, q < p + 1 → reach (ancTbl ops.toList []) q (p + 1) = true)
    (hstep : ∀ (q : Nat) o, q < p → ops[q]? = some o → AStep P WG ops M ks blk q o (S q) (S (q + 1)) (u q))
    (halloc : ∃ o, ops[p]? = some o ∧ dstOk (S p) o.dst ∧ S (p + 1) = stP (S p) o (u p) (aset (S p).tab (S p).nx blk) ((S p).nx + 1) ∧ u p = .ref (S p).nx 0 ∧ ∀ e t lo n, ∃ side, stepV P [] o ⟨e, t, (S p).nx, lo, n⟩ = some (.mem (some (.ref (S p).nx 0)) (aset t (S p).nx blk) ((S p).nx + 1) side) ∧ side)
    (hstore : ∃ o ds v side, ops[p + 1]? = some o ∧ MetOk ops ds ∧ dstOk (S (p + 1)) o.dst ∧ stepV P ds o (S (p + 1)) = some (.mem v (S (p + 2)).tab (S (p + 2)).nx side) ∧ side ∧ (v = none → o.dst = none) ∧ S (p + 2) = stP (S (p + 1)) o (u (p + 1)) (S (p + 2)).tab (S (p + 2)).nx ∧ u (p + 1) = v.getD .zc)
    (hQ : Q .normal (S (p + 2))) : T P WG (.region id ops true) (S 0) Q := by
  have hop : ∀ q, q < ops.size → ∃ o, ops[q]? = some o := fun q hq => ⟨ops[q], by simp [hq]⟩
  obtain ⟨oA, hoA, hdA, hSA, huA, hA⟩ := halloc
  obtain ⟨oB, dsB, vB, sideB, hoB, hmB, hdB, hVB, hsB, hnB, hSB, huB⟩ := hstore
  have hstep' : ∀ q o, q < p → ops[q]? = some o → (S (q + 1)).lo = (S q).lo ∧ (S (q + 1)).n = (S q).n ∧ (S (q + 1)).nx = (S q).nx ∧ (S (q + 1)).env = pEnv (S q).env o.dst (u q) ∧ (q ∉ M → (S (q + 1)).tab = (S q).tab) := fun q o hq ho => by
    obtain ⟨_, ds, _, h⟩ := hstep q o hq ho
    rcases h with ⟨_, he, _⟩ | ⟨_, he, _⟩ | ⟨hm, _, he, _⟩ | ⟨_, he, _⟩
    · rw [he]; exact ⟨rfl, rfl, rfl, rfl, fun _ => rfl⟩
    · rw [he]; exact ⟨rfl, rfl, rfl, rfl, fun _ => rfl⟩
    · rw [he]; exact ⟨rfl, rfl, rfl, rfl, fun h => absurd hm h⟩
    · rw [he]; exact ⟨rfl, rfl, rfl, rfl, fun _ => rfl⟩
  have hstab : ∀ q, q ≤ p → stab ks (S q).tab (S 0).tab := by
    intro q
    induction q with
    | zero => exact fun _ => stab.refl _ _
    | succ q ih =>
      intro hq
      obtain ⟨o, ho⟩ := hop q (by omega)
      obtain ⟨_, ds, _, h⟩ := hstep q o hq ho
      rcases h with ⟨hnm, _⟩ | ⟨hnm, _⟩ | ⟨_, hs, _⟩ | ⟨hnm, _⟩
      · rw [(hstep' q o hq ho).2.2.2.2 hnm]; exact ih (by omega)
      · rw [(hstep' q o hq ho).2.2.2.2 hnm]; exact ih (by omega)
      · exact hs.trans (ih (by omega))
      · rw [(hstep' q o hq ho).2.2.2.2 hnm]; exact ih (by omega)
  have hlo : ∀ q, q ≤ p → (S q).lo = (S 0).lo ∧ (S q).n = (S 0).n ∧ (S q).nx = (S 0).nx := by
    intro q
    induction q with
    | zero => exact fun _ => ⟨rfl, rfl, rfl⟩
    | succ q ih =>
      intro hq
      obtain ⟨o, ho⟩ := hop q (by omega)
      obtain ⟨h1, h2, h3⟩ := ih (by omega)
      obtain ⟨a1, a2, a3, _⟩ := hstep' q o hq ho
      exact ⟨a1.trans h1, a2.trans h2, a3.trans h3⟩
  have hlo2 : ∀ q, q ≤ p + 2 → (S q).lo = (S 0).lo ∧ (S q).n = (S 0).n := by
    intro q hq
    obtain ⟨b1, b2, _⟩ := hlo p (Nat.le_refl _)
    rcases Nat.lt_or_ge p q with h | h
    · have h : q = p + 1 ∨ q = p + 2 := by omega
      rcases h with rfl | rfl
      · rw [hSA]; exact ⟨b1, b2⟩
      · rw [hSB]
        show (S (p + 1)).lo = _ ∧ (S (p + 1)).n = _
        rw [hSA]; exact ⟨b1, b2⟩
    · exact ⟨(hlo q h).1, (hlo q h).2.1⟩
  have hsame : ∀ b a, a ≤ b → b ≤ p → (∀ m ∈ M, ¬ (a ≤ m ∧ m < b)) → (S b).tab = (S a).tab := by
    intro b
    induction b with
    | zero => intro a h1 _ _; have h : a = 0 := Nat.le_zero.1 h1; rw [h]
    | succ b ih =>
      intro a h1 h2 h3
      by_cases e : a = b + 1
      · subst e; rfl
      · obtain ⟨o, ho⟩ := hop b (by omega)
        exact ((hstep' b o h2 ho).2.2.2.2 (fun hb => h3 b hb ⟨by omega, by omega⟩)).trans (ih a (by omega) (by omega) (fun m hm h => h3 m hm ⟨h.1, by omega⟩))
  have hSenv : ∀ i, i ≤ p + 1 → EnvIs ops u (S 0).env (fun q => q < i) (S i).env := by
    intro i
    induction i with
    | zero => exact fun _ t => .inr ⟨fun q o _ hq => absurd hq (Nat.not_lt_zero _), rfl⟩
    | succ i ih =>
      intro hi
      obtain ⟨o, ho⟩ := hop i (by omega)
      have h1 := (ih (by omega)).put hc ho (L' := fun q => q < i + 1) (fun q => by omega)
      have h2 : (S (i + 1)).env = pEnv (S i).env o.dst (u i) := by
        rcases Nat.lt_or_ge i p with h | h
        · exact (hstep' i o h ho).2.2.2.1
        · have e : i = p := by omega
          subst e
          rw [hoA] at ho; cases ho
          rw [hSA]; rfl
      rw [h2]; exact h1
  intro C j a w hr
  refine wpIn_region_any hmix ?_
  have hr0 : ERel WG C j (S 0) a { w with drawn := w.drawn + 1 } := hr.drew
  let Mem : (Nat → Bool) → St → Prop := fun L σ => ∃ k, k ≤ p ∧ k ∈ 0 :: M.map (· + 1) ∧ (∀ m ∈ M, (L m = true ↔ m < k)) ∧ ((L p = false ∧ σ.tab = (S k).tab ∧ σ.nx = (S 0).nx) ∨ (L p = true ∧ σ.tab = aset (S k).tab (S 0).nx blk ∧ σ.nx = (S 0).nx + 1))
  suffices key : ∀ (fuel : Nat) (listed : Array Bool) (σ : St) (j : Nat → Option Loc) (a : Act) (w : World), ERel WG C j σ a w → listed.size = ops.size → listed.toList.count false ≤ fuel →
      Closed ops (fun i => listed.getD i false = true) → σ.lo = (S 0).lo → σ.n = (S 0).n → EnvIs ops u (S 0).env (fun i => listed.getD i false = true) σ.env →
      ((listed.getD (p + 1) false = false ∧ Mem (fun q => listed.getD q false) σ) ∨ ((∀ i, i < ops.size → listed.getD i false = true) ∧ σ = S (p + 2))) →
      wpAnyIn (fw C.rnd) 0 P .any ops (PostR WG C Q) fuel listed a w by
    have hrep : ∀ q, (Array.replicate ops.size false).getD q false = false := fun q => by
      cases hq : (Array.replicate ops.size false).getD q false with
      | false => rfl
      | true => simp [Array.getElem?_replicate] at hq; split at hq <;> simp at hq
    have hrepF : ∀ {X : Prop} q, (Array.replicate ops.size false).getD q false = true → X := fun q h => by rw [hrep] at h; cases h
    refine key ops.size (Array.replicate ops.size false) (S 0) j a _ hr0 (by simp) ?_ ?_ rfl rfl ?_ (.inl ⟨hrep _, 0, Nat.zero_le _, List.mem_cons_self, fun m hm => ?_, .inl ⟨hrep _, rfl, rfl⟩⟩)
    · simp [List.count_replicate]
    · intro i o ho h; exact hrepF _ h
    · intro t; exact .inr ⟨fun q o ho h => hrepF _ h, rfl⟩
    · exact ⟨fun h => hrepF _ h, fun h => absurd h (Nat.not_lt_zero _)⟩
  have done : ∀ (σ : St) (j : Nat → Option Loc) (a : Act) (w : World), ERel WG C j σ a w → σ = S (p + 2) → PostR WG C Q .normal a w := by
    intro σ j a w hr e
    subst e
    exact ⟨.normal, _, j, .normal, hr, hQ⟩
  intro fuel
  induction fuel with
  | zero =>
    intro listed σ j a w hr hsz' hcnt hcl hlo1 hn1 henv hmem
    have hall : ∀ i, i < ops.size → listed.getD i false = true := by
      intro i hi
      have h1 : listed.toList.count false = 0 := by omega
      have h2 := List.count_eq_zero.1 h1
      have hi' : i < listed.size := by omega
      cases hq : listed[i] with
      | true => simp [hi', hq]
      | false => exact absurd (by rw [← hq]; simp) h2
    refine ⟨?_, ?_⟩
    · apply List.eq_nil_iff_forall_not_mem.2
      intro i hi
      obtain ⟨h1, o, ho, _⟩ := mem_ready.1 hi
      have hi' : i < listed.size := by rw [hsz']; exact (Array.getElem?_eq_some_iff.1 ho).1
      have := hall i (by omega)
      simp [hi'] at this h1
      rw [this] at h1; cases h1
    · rcases hmem with ⟨h, _⟩ | ⟨_, h⟩
      · rw [hall (p + 1) (by omega)] at h; cases h
      · exact done σ j a w hr h
  | succ fuel ih =>
    intro listed σ j a w hr hsz' hcnt hcl hlo1 hn1 henv hmem
    refine ⟨fun hnil => ?_, fun i hi => ?_⟩
    · have hall : ∀ i, i < ops.size → listed.getD i false = true := by
        intro i
        induction i using Nat.strongRecOn with
        | _ i ihi =>
          intro hi
          obtain ⟨o, ho⟩ := hop i hi
          cases hq : listed.getD i false with
          | true => rfl
          | false =>
            have hi' : i < listed.size := by omega
            have : i ∈ Region.ready .any ops listed := mem_ready.2 ⟨by simp [hi'] at hq ⊢; exact hq, o, ho, fun e he hb => ihi e.on (hc.before i o ho e he hb) (by have := hc.before i o ho e he hb; omega)⟩
            rw [hnil] at this; cases this
      rcases hmem with ⟨h, _⟩ | ⟨_, h⟩
      · rw [hall (p + 1) (by omega)] at h; cases h
      · exact done σ j a w hr h
    · obtain ⟨hun, o, ho, hafter⟩ := mem_ready.1 hi
      have hilt : i < ops.size := (Array.getElem?_eq_some_iff.1 ho).1
      have hil : i < listed.size := by omega
      have hun' : listed.getD i false = false := by simp [hil] at hun ⊢; exact hun
      have hset : ∀ q, (listed.setIfInBounds i true).getD q false = true ↔ listed.getD q false = true ∨ q = i := by
        intro q
        by_cases e : i = q
        · subst e; simp [hil]
        · rw [getD_set_ne false e]
          constructor
          · exact .inl
          · rintro (h | h)
            · exact h
            · exact absurd h.symm e
      have hsetF : ∀ q, q ≠ i → (listed.setIfInBounds i true).getD q false = listed.getD q false := fun q hq => getD_set_ne false (fun e => hq e.symm)
      have hcl' : Closed ops (fun q => (listed.setIfInBounds i true).getD q false = true) := by
        intro q p hq hL e he hb
        rcases (hset q).1 hL with h | rfl
        · exact (hset _).2 (.inl (hcl q p hq h e he hb))
        · rw [ho] at hq; cases hq
          exact (hset _).2 (.inl (hafter e he hb))
      have anc : ∀ q, reach (ancTbl ops.toList []) q i = true → q ≠ i → listed.getD q false = true := fun q hq hne =>
        ((hset q).1 (reach_spec hq hcl' ((hset i).2 (.inr rfl)))).resolve_right hne
      have desc : ∀ q, reach (ancTbl ops.toList []) i q = true → listed.getD q false = false := fun q hq => by
        cases h : listed.getD q false with
        | false => rfl
        | true => have := reach_spec hq hcl h; rw [hun'] at this; cases this
      have hcnt' : (listed.setIfInBounds i true).toList.count false ≤ fuel := by
        rw [Array.toList_setIfInBounds, List.count_set (by simpa using hil)]
        have h1 : listed.toList[i]'(by simpa using hil) = false := by simp [hil] at hun; simpa using hun
        rw [h1]
        have h2 : listed.toList.count false - (if (false == false) = true then 1 else 0) + (if (true == false) = true then 1 else 0) = listed.toList.count false - 1 := rfl
        refine Nat.le_trans (Nat.le_of_eq h2) ?_
        omega
      rcases hmem with ⟨hlst, k, hk, hkM, hm, hcase⟩ | ⟨hall, _⟩
      case inr => rw [hall i hilt] at hun'; cases hun'
      have hlook : i ≤ p + 1 → ∀ t ∈ o.looksAt ops, aget σ.env t = aget (S i).env t := fun hip t ht => henv.agree hc (hSenv i hip) (fun q p hq hp => by
        by_cases e : i = q
        · subst e; simp [hun']
        · have := hc.look i q o p t ho hq e hp ht
          split at this
          · rename_i hlt
            have := anc q this (by omega)
            simp only [this, hlt]
          · rename_i hge
            have := desc q this
            simp only [this, Bool.false_eq_true, false_iff]; omega)
      have hd' : ∀ {d : Option Nat} {q : Nat}, q ≤ p + 2 → dstOk (S q) d → dstOk σ d := fun {d q} hq hd => by
        revert hd; unfold dstOk
        cases d with
        | none => exact fun h => h
        | some d => simp only; rw [hn1, (hlo2 q hq).2]; exact fun h => h
      have hnext : ∀ (σ' : St) (j' : Nat → Option Loc) (a' : Act) (w' : World), ERel WG C j' σ' a' w' → σ'.lo = σ.lo → σ'.n = σ.n → σ'.env = pEnv σ.env o.dst (u i) →
          (((listed.setIfInBounds i true).getD (p + 1) false = false ∧ Mem (fun q => (listed.setIfInBounds i true).getD q false) σ') ∨ ((∀ q, q < ops.size → (listed.setIfInBounds i true).getD q false = true) ∧ σ' = S (p + 2))) →
          wpAnyIn (fw C.rnd) 0 P .any ops (PostR WG C Q) fuel (listed.setIfInBounds i true) a' w' := by
        intro σ' j' a' w' hr' h1 h2 h3 h4
        exact ih _ σ' j' a' w' hr' (by simpa using hsz') hcnt' hcl' (h1.trans hlo1) (h2.trans hn1) (by rw [h3]; exact henv.put hc ho hset) h4
      rcases Nat.lt_or_ge i p with hip | hip
      · -- ahead of the box
        have hne1 : p + 1 ≠ i := by omega
        have hne2 : p ≠ i := by omega
        obtain ⟨hd, ds, hds, hst⟩ := hstep i o hip ho
        have hnx : (S i).nx = (S 0).nx := (hlo i (by omega)).2.2
        have quiet : i ∉ M → ∀ σ' : St, σ'.tab = σ.tab → σ'.nx = σ.nx → (((listed.setIfInBounds i true).getD (p + 1) false = false ∧ Mem (fun q => (listed.setIfInBounds i true).getD q false) σ') ∨ ((∀ q, q < ops.size → (listed.setIfInBounds i true).getD q false = true) ∧ σ' = S (p + 2))) := fun hi σ' ht hx => by
          refine .inl ⟨by rw [hsetF _ hne1]; exact hlst, k, hk, hkM, fun m hmm => ?_, ?_⟩
          · show (listed.setIfInBounds i true).getD m false = true ↔ _
            rw [hsetF m (fun e => hi (e ▸ hmm))]; exact hm m hmm
          · show ((listed.setIfInBounds i true).getD p false = false ∧ _) ∨ ((listed.setIfInBounds i true).getD p false = true ∧ _)
            rw [hsetF p hne2, ht, hx]; exact hcase
        rcases hst with ⟨hnM, _, c, v, side, hV, hs, hu⟩ | ⟨hnM, _, c, side, g, vs, r, hV, hs, hfv, hu⟩ | ⟨hinM, _, hSt, side, g, vs, v, hV, hs, hu, hdry, hwet⟩ | ⟨hnM, _, sd, v, side, hsd, hV, hs, hu⟩
        · have hV0 := hV σ.tab σ.nx (by
            have h1 : stab ks σ.tab (S k).tab := by
              rcases hcase with ⟨_, ht, _⟩ | ⟨_, ht, _⟩
              · rw [ht]; exact stab.refl _ _
              · intro b hb
                have := hks b hb
                rw [ht, aget_aset, if_neg (by omega)]
            exact (h1.trans (hstab k hk)).trans (hstab i (by omega)).symm)
          have hV' := (stepV_congr (P := P) (σ := { S i with tab := σ.tab, nx := σ.nx }) (σ' := σ) hds (hlook (by omega)) (fun _ => rfl) (fun _ => ⟨rfl, rfl⟩)).trans hV0
          exact WPO_pure hds ho (hd' (by omega) hd) hV' hs C j a w _ hr (fun j' a' w' hr' => hnext _ j' a' w' hr' rfl rfl (by rw [hu]; rfl) (quiet hnM _ rfl rfl))
        · have hnm := stepV_notMem hV (fun _ _ _ _ h => by cases h)
          have hV' := (stepV_congr (σ := S i) (σ' := σ) (P := P) hds (hlook (by omega)) (fun h => by rw [stepV_call hV] at h; cases h) (fun h => by rw [hnm] at h; cases h)).trans hV
          exact WPO_call hds ho (hd' (by omega) hd) hV' hs (fun hcc => hfv hcc σ.tab σ.nx) (fun _ => ⟨rfl, rfl⟩) C j a w _ hr (fun j' a' w' hr' => hnext _ j' a' w' hr' rfl rfl (by rw [hu]; rfl) (quiet hnM _ rfl rfl))
        · have hnm := stepV_notMem hV (fun _ _ _ _ h => by cases h)
          have hV' := (stepV_congr (σ := S i) (σ' := σ) (P := P) hds (hlook (by omega)) (fun h => by rw [stepV_call hV] at h; cases h) (fun h => by rw [hnm] at h; cases h)).trans hV
          have hki : k ≤ i := by
            rcases Nat.lt_or_ge i k with h | h
            · exact absurd (show listed.getD i false = true from (hm i hinM).2 h) (by rw [hun']; simp)
            · exact h
          have s1 := hsame i k hki (by omega) (fun m hmm ⟨h1, h2⟩ => by
            have h3 := anc m (hc.mem m hmm i hinM h2) (by omega)
            have := (hm m hmm).1 h3; omega)
          have hk' : ∀ m ∈ M, ((listed.setIfInBounds i true).getD m false = true ↔ m < i + 1) := fun m hmm => by
            rw [hset]
            constructor
            · rintro (h | rfl)
              · rcases Nat.lt_trichotomy m i with h1 | h1 | h1
                · omega
                · omega
                · have := desc m (hc.mem i hinM m hmm h1); rw [h] at this; cases this
              · omega
            · intro h
              rcases Nat.lt_or_ge m i with h1 | h1
              · exact .inl (anc m (hc.mem m hmm i hinM h1) (by omega))
              · right; omega
          rcases hcase with ⟨hp, ht, hx⟩ | ⟨hp, ht, hx⟩
          · refine WPO_call (tab := (S (i + 1)).tab) (nx := σ.nx) hds ho (hd' (by omega) hd) hV' hs (fun _ => ?_) (fun h => by cases h) C j a w _ hr (fun j' a' w' hr' => hnext _ j' a' w' hr' rfl rfl (by rw [hu]; rfl) (.inl ⟨by rw [hsetF _ hne1]; exact hlst, i + 1, hip, List.mem_cons_of_mem _ (List.mem_map.2 ⟨i, hinM, rfl⟩), hk', .inl ⟨by show (listed.setIfInBounds i true).getD p false = false; rw [hsetF p hne2]; exact hp, rfl, hx⟩⟩))
            rw [ht, hx, ← s1, ← hnx]; exact hdry
          · refine WPO_call (tab := aset (S (i + 1)).tab (S 0).nx blk) (nx := σ.nx) hds ho (hd' (by omega) hd) hV' hs (fun _ => ?_) (fun h => by cases h) C j a w _ hr (fun j' a' w' hr' => hnext _ j' a' w' hr' rfl rfl (by rw [hu]; rfl) (.inl ⟨by rw [hsetF _ hne1]; exact hlst, i + 1, hip, List.mem_cons_of_mem _ (List.mem_map.2 ⟨i, hinM, rfl⟩), hk', .inr ⟨by show (listed.setIfInBounds i true).getD p false = true; rw [hsetF p hne2]; exact hp, rfl, hx⟩⟩))
            rw [ht, hx, ← s1, ← hnx]; exact hwet
        · -- a row of data
          have hV' := (freshG_congr (P := P) (o := o) (σ := S i) (σ' := σ) (fun t ht => hlook (by omega) t (mem_looks ht))).trans hV
          rcases freshG_sound hV' hs with ⟨hgn, hop'⟩ | ⟨h1, g, v', hgn, rfl, hop'⟩
          · have huv : uV o true v = v := by unfold uV; rw [hgn]
            refine WPO_just hds ho (c := true) (v := v) (by rw [hgn]; rfl) (hd' (by omega) hd) (fun _ => hop') C j a w _ hr (fun j' a' w' hr' => hnext _ j' a' w' hr' rfl rfl (by rw [hu, huv]; rfl) (quiet hnM _ rfl rfl))
          · have huv : uV o true v' = .cnd true v' := by unfold uV; rw [hgn]
            have hgd : guardC ds σ o.guard = some true := (guardC_congr hds (fun n b t e1 e2 => hlook (by omega) t (List.mem_append_right _ (by rw [e1]; simp [e2])))).trans (hsd h1)
            refine WPO_just hds ho (c := true) (v := v') hgd (hd' (by omega) hd) (fun _ => hop') C j a w _ hr (fun j' a' w' hr' => hnext _ j' a' w' hr' rfl rfl (by rw [hu, huv]; rfl) (quiet hnM _ rfl rfl))
      · rcases Nat.lt_or_ge p i with hip2 | hip2
        · -- the box is filled
          have e : i = p + 1 := by omega
          subst e
          rw [hoB] at ho; cases ho
          have hall : ∀ q, q < p + 1 → listed.getD q false = true := fun q hq => anc q (hlast q hq) (by omega)
          have hkp : ∀ m ∈ M, m < k := fun m hmm => (hm m hmm).1 (hall m (by have := hM m hmm; omega))
          have s1 := hsame p k hk (Nat.le_refl _) (fun m hmm ⟨h1, h2⟩ => by have := hkp m hmm; omega)
          rcases hcase with ⟨hp, _⟩ | ⟨_, ht, hx⟩
          · have hp' : listed.getD p false = false := hp
            rw [hall p (by omega)] at hp'; cases hp'
          have hnp := (hlo p (Nat.le_refl _)).2.2
          have ht' : σ.tab = (S (p + 1)).tab := by rw [ht, hSA]; show aset (S k).tab _ _ = aset (S p).tab (S p).nx blk; rw [s1, hnp]
          have hx' : σ.nx = (S (p + 1)).nx := by rw [hx, hSA]; show _ = (S p).nx + 1; rw [hnp]
          have hV' := (stepV_congr (σ := S (p + 1)) (σ' := σ) (P := P) hmB (hlook (Nat.le_refl _)) (fun _ => ht') (fun _ => ⟨ht', hx'⟩)).trans hVB
          refine WPO_mem hmB hoB (hd' (by omega) hdB) hV' hsB hnB C j a w _ hr (fun j' a' w' hr' => ?_)
          have hagree : ∀ t, aget (S (p + 1)).env t = aget σ.env t := fun t => (hSenv _ (Nat.le_refl _)).agree hc henv (fun q o ho _ => by
            have hq : q < ops.size := (Array.getElem?_eq_some_iff.1 ho).1
            by_cases hq1 : q < p + 1
            · simp only [hall q hq1, hq1]
            · have e : q = p + 1 := by omega
              subst e
              simp only [hlst]; simp)
          obtain ⟨j2, hr2⟩ := Weak.env (WG := WG) (σ := stP σ oB (vB.getD .zc) (S (p + 2)).tab (S (p + 2)).nx) (e := (S (p + 2)).env) (fun t v h => by
            rw [hSB] at h
            simp only [stP, aget_pEnv] at h ⊢
            rw [← huB]
            split at h
            · rename_i hh; rw [if_pos hh]; exact h
            · rename_i hh; rw [if_neg hh, ← hagree]; exact h) C j' a' w' hr'
          have hfin : ({ (stP σ oB (vB.getD .zc) (S (p + 2)).tab (S (p + 2)).nx) with env := (S (p + 2)).env } : St) = S (p + 2) := by
            obtain ⟨l1, l2⟩ := hlo2 (p + 2) (Nat.le_refl _)
            cases hS : S (p + 2) with
            | mk e t x l n =>
              rw [hS] at l1 l2
              simp only at l1 l2
              simp only [stP, hlo1, hn1, l1, l2]
          rw [hfin] at hr2
          have hall2 : ∀ q, q < ops.size → (listed.setIfInBounds (p + 1) true).getD q false = true := fun q hq => by
            by_cases hq1 : q < p + 1
            · exact (hset q).2 (.inl (hall q hq1))
            · exact (hset q).2 (.inr (by omega))
          refine ih _ (S (p + 2)) j2 a' w' hr2 (by simpa using hsz') hcnt' hcl' (hlo2 _ (Nat.le_refl _)).1 (hlo2 _ (Nat.le_refl _)).2 ?_ (.inr ⟨hall2, rfl⟩)
          have h2 : (S (p + 2)).env = pEnv (S (p + 1)).env oB.dst (u (p + 1)) := by rw [hSB]; rfl
          rw [h2]
          exact (hSenv (p + 1) (Nat.le_refl _)).put hc hoB (fun q => by
            rw [hset]
            by_cases hq1 : q < p + 1
            · simp [hall q hq1, hq1]
            · constructor
              · rintro (h | h)
                · have hq2 : q < listed.size := by
                    rcases Nat.lt_or_ge q listed.size with h3 | h3
                    · exact h3
                    · simp [Array.getElem?_eq_none h3] at h
                  exact .inr (by omega)
                · exact .inr h
              · rintro (h | h)
                · omega
                · exact .inr h)
        · -- the box is made
          have e : i = p := by omega
          subst e
          rw [hoA] at ho; cases ho
          have hni : i + 1 ≠ i := by omega
          have hnp := (hlo i (Nat.le_refl _)).2.2
          rcases hcase with ⟨hp, ht, hx⟩ | ⟨hp, _⟩
          case inr => exact absurd (show listed.getD i false = true from hp) (by rw [hun']; simp)
          obtain ⟨sideA, hV, hs⟩ := hA σ.env σ.tab σ.lo σ.n
          have hV' : stepV P [] oA σ = some (.mem (some (.ref (S i).nx 0)) (aset σ.tab (S i).nx blk) ((S i).nx + 1) sideA) := by
            rw [← hV, hnp, ← hx]
          refine WPO_mem (fun g d hg => by simp [aget] at hg) hoA (hd' (by omega) hdA) hV' hs (fun h => by cases h) C j a w _ hr (fun j' a' w' hr' => hnext _ j' a' w' hr' rfl rfl (by rw [huA]; rfl) (.inl ⟨by rw [hsetF _ hni]; exact hlst, k, hk, hkM, fun m hmm => ?_, .inr ⟨(hset i).2 (.inr rfl), ?_, ?_⟩⟩))
          · show (listed.setIfInBounds i true).getD m false = true ↔ _
            rw [hsetF m (by have := hM m hmm; omega)]; exact hm m hmm
          · show aset σ.tab (S i).nx blk = _
            rw [ht, hnp]
          · show (S i).nx + 1 = _
            rw [hnp]

def finA (P : Program) (WG : World) (isM : Bool) (ks : List Nat) (blk : Blk) (ds : Met) (o : Oper) (σ : St) (r : Option SV) (K : St → Prop) : Prop :=
  match r with
  | some (.pure c v side) => isM = false ∧ (∀ t n, stab ks t σ.tab → stepV P ds o { σ with tab := t, nx := n } = some (.pure c v side)) ∧ side ∧ dstOk σ o.dst ∧ K (stP σ o (uV o c v) σ.tab σ.nx)
  | some (.call c side g vs) => side ∧ dstOk σ o.dst ∧
      if isM then c = true ∧ ∃ v tab, CallT P WG g vs σ.tab σ.nx (fun r t n => r = v ∧ t = tab ∧ n = σ.nx) noP ∧ CallT P WG g vs (aset σ.tab σ.nx blk) (σ.nx + 1) (fun r t n => r = v ∧ t = aset tab σ.nx blk ∧ n = σ.nx + 1) noP ∧ stab ks tab σ.tab ∧ Hold K (stP σ o (uV o true v) tab σ.nx)
      else ∃ r, (c = true → FVv P WG g vs r) ∧ Hold K (stP σ o (uV o c r) σ.tab σ.nx)
  | some (.mem _ _ _ side) => if isM then False else match freshG P o σ side with
    | some (v, side) => side ∧ dstOk σ o.dst ∧ K (stP σ o v σ.tab σ.nx)
    | none => False
  | none => False
def boxA (P : Program) (o : Oper) (nx : Nat) (blk : Blk) : Prop := ∀ e t lo n, match stepV P [] o ⟨e, t, nx, lo, n⟩ with | some (.mem (some v) tab nx' side) => v = .ref nx 0 ∧ tab = aset t nx blk ∧ nx' = nx + 1 ∧ side | _ => False
def storeA (P : Program) (ds : Met) (o : Oper) (σ : St) (Q : VX → St → Prop) : Prop :=
  match stepV P ds o σ with
  | some (.mem v tab nx side) => side ∧ dstOk σ o.dst ∧ (v = none → o.dst = none) ∧ Q .normal (stP σ o (v.getD .zc) tab nx)
  | _ => False
def wpA (P : Program) (WG : World) (M ks : List Nat) (blk : Blk) (Q : VX → St → Prop) : Nat → Nat → Met → List Oper → St → Prop
  | 0, q, ds, [o1, o2], σ => dstOk σ o1.dst ∧ boxA P o1 σ.nx blk ∧ storeA P ((q, o1.dst) :: ds) o2 (stP σ o1 (.ref σ.nx 0) (aset σ.tab σ.nx blk) (σ.nx + 1)) Q
  | n + 1, q, ds, o :: l, σ => finA P WG (inM M q) ks blk ds o σ (stepV P ds o σ) (wpA P WG M ks blk Q n (q + 1) ((q, o.dst) :: ds) l)
  | _, _, _, _, _ => False
def FinA (P : Program) (ops : Array Oper) (blk : Blk) (Q : VX → St → Prop) (S : Nat → St) (u : Nat → V) (p : Nat) : Prop :=
  (∃ o, ops[p]? = some o ∧ dstOk (S p) o.dst ∧ S (p + 1) = stP (S p) o (u p) (aset (S p).tab (S p).nx blk) ((S p).nx + 1) ∧ u p = .ref (S p).nx 0 ∧ ∀ e t lo n, ∃ side, stepV P [] o ⟨e, t, (S p).nx, lo, n⟩ = some (.mem (some (.ref (S p).nx 0)) (aset t (S p).nx blk) ((S p).nx + 1) side) ∧ side) ∧
  (∃ o ds v side, ops[p + 1]? = some o ∧ MetOk ops ds ∧ dstOk (S (p + 1)) o.dst ∧ stepV P ds o (S (p + 1)) = some (.mem v (S (p + 2)).tab (S (p + 2)).nx side) ∧ side ∧ (v = none → o.dst = none) ∧ S (p + 2) = stP (S (p + 1)) o (u (p + 1)) (S (p + 2)).tab (S (p + 2)).nx ∧ u (p + 1) = v.getD .zc) ∧
  Q .normal (S (p + 2))
theorem FinA.congr {blk : Blk} {S S' : Nat → St} {u u' : Nat → V} {p : Nat} (h : FinA P ops blk Q S u p) (h0 : S' p = S p) (h1 : S' (p + 1) = S (p + 1)) (h2 : S' (p + 2) = S (p + 2)) (h3 : u' p = u p) (h4 : u' (p + 1) = u (p + 1)) : FinA P ops blk Q S' u' p := by
  unfold FinA
  rw [h0, h1, h2, h3, h4]
  exact h
theorem metCons {ds : Met} {q : Nat} {o : Oper} (hds : MetOk ops ds) (ho : ops[q]? = some o) : MetOk ops ((q, o.dst) :: ds) := fun g d hg => by
  simp only [aget] at hg
  split at hg
  · rename_i e; subst e; cases hg; simp [ho]
  · exact hds g d hg
theorem wpA_ext {M ks : List Nat} {blk : Blk} : ∀ (n : Nat) (l : List Oper) (q : Nat) (ds : Met) (σ : St), MetOk ops ds → (∀ k, ops[q + k]? = l[k]?) → wpA P WG M ks blk Q n q ds l σ →
    ∃ (S : Nat → St) (u : Nat → V), S q = σ ∧ (∀ (i : Nat) o, q ≤ i → i < q + n → ops[i]? = some o → AStep P WG ops M ks blk i o (S i) (S (i + 1)) (u i)) ∧ FinA P ops blk Q S u (q + n)
  | 0, [o1, o2], q, ds, σ, hds, hl, h => by
    obtain ⟨h1, h2, h3⟩ := h
    have ho1 : ops[q]? = some o1 := by simpa using hl 0
    have ho2 : ops[q + 1]? = some o2 := by simpa using hl 1
    unfold storeA at h3
    split at h3
    · rename_i v tab nx side hV
      obtain ⟨s1, s2, s3, s4⟩ := h3
      let σ1 := stP σ o1 (.ref σ.nx 0) (aset σ.tab σ.nx blk) (σ.nx + 1)
      let σ2 := stP σ1 o2 (v.getD .zc) tab nx
      let S : Nat → St := fun i => if i ≤ q then σ else if i = q + 1 then σ1 else σ2
      let u : Nat → V := fun i => if i = q then .ref σ.nx 0 else v.getD .zc
      have e0 : S q = σ := if_pos (Nat.le_refl _)
      have e1 : S (q + 1) = σ1 := by
        show (if q + 1 ≤ q then σ else if q + 1 = q + 1 then σ1 else σ2) = σ1
        rw [if_neg (by omega), if_pos rfl]
      have e2 : S (q + 2) = σ2 := by
        show (if q + 2 ≤ q then σ else if q + 2 = q + 1 then σ1 else σ2) = σ2
        rw [if_neg (by omega), if_neg (by omega)]
      have u0 : u q = .ref σ.nx 0 := if_pos rfl
      have u1 : u (q + 1) = v.getD .zc := if_neg (by omega)
      refine ⟨S, u, e0, fun i o h1 h2 _ => by omega, ?_⟩
      rw [Nat.add_zero]
      unfold FinA
      rw [e0, e1, e2, u0, u1]
      refine ⟨⟨o1, ho1, h1, rfl, rfl, fun e t lo n => ?_⟩, ⟨o2, _, v, side, ho2, metCons hds ho1, s2, hV, s1, s3, rfl, rfl⟩, s4⟩
      have := h2 e t lo n
      split at this
      · rename_i v' tab' nx' side' hV'
        obtain ⟨rfl, rfl, rfl, hs⟩ := this
        exact ⟨side', hV', hs⟩
      · exact this.elim
    · exact h3.elim
  | n + 1, o :: l, q, ds, σ, hds, hl, h => by
    have ho : ops[q]? = some o := by simpa using hl 0
    have hds' := metCons hds ho
    have hl' : ∀ k, ops[q + 1 + k]? = l[k]? := fun k => by
      have := hl (k + 1)
      rw [List.getElem?_cons_succ] at this
      rw [← this]; congr 1; omega
    have build : ∀ (u0 : V) (σ' : St), AStep P WG ops M ks blk q o σ σ' u0 → wpA P WG M ks blk Q n (q + 1) ((q, o.dst) :: ds) l σ' →
        ∃ (S : Nat → St) (u : Nat → V), S q = σ ∧ (∀ (i : Nat) o, q ≤ i → i < q + (n + 1) → ops[i]? = some o → AStep P WG ops M ks blk i o (S i) (S (i + 1)) (u i)) ∧ FinA P ops blk Q S u (q + (n + 1)) := by
      intro u0 σ' hp h1
      obtain ⟨S, u, hS, hst, hf⟩ := wpA_ext n l (q + 1) _ _ hds' hl' h1
      have e : q + (n + 1) = q + 1 + n := by omega
      refine ⟨fun i => if i ≤ q then σ else S i, fun i => if i = q then u0 else u i, by simp, fun i p' hi hi' hp' => ?_, ?_⟩
      · by_cases e : i = q
        · subst e
          rw [ho] at hp'; cases hp'
          simp only [Nat.le_refl, if_true]
          rw [if_neg (by omega), hS]
          exact hp
        · have e1 : ¬ i ≤ q := by omega
          have e2 : ¬ i + 1 ≤ q := by omega
          simp only [e1, e2, e, if_false]
          exact hst i p' (by omega) (by omega) hp'
      · rw [e]
        exact hf.congr (if_neg (by omega)) (if_neg (by omega)) (if_neg (by omega)) (if_neg (by omega)) (if_neg (by omega))
    simp only [wpA] at h
    cases hV : stepV P ds o σ with
    | none => rw [hV] at h; exact h.elim
    | some sv =>
      rw [hV] at h
      cases sv with
      | pure c v side =>
        obtain ⟨h1, h2, h3, h4, h5⟩ := h
        exact build (uV o c v) _ ⟨h4, ds, hds, .inl ⟨inM_false h1, rfl, c, v, side, h2, h3, rfl⟩⟩ h5
      | call c side g vs =>
        obtain ⟨h1, h2, h3⟩ := h
        cases hM : inM M q with
        | true =>
          rw [hM] at h3
          simp only [if_true] at h3
          obtain ⟨rfl, v, tab, a, b, st, k⟩ := h3
          exact build (uV o true v) _ ⟨h2, ds, hds, .inr (.inr (.inl ⟨inM_true hM, st, rfl, side, g, vs, v, hV, h1, rfl, a, b⟩))⟩ k
        | false =>
          rw [hM] at h3
          simp only [Bool.false_eq_true, if_false] at h3
          obtain ⟨r, a, k⟩ := h3
          exact build (uV o c r) _ ⟨h2, ds, hds, .inr (.inl ⟨inM_false hM, rfl, c, side, g, vs, r, hV, h1, a, rfl⟩)⟩ k
      | mem v tab nx side =>
        simp only [finA] at h
        cases hM : inM M q with
        | true => rw [hM] at h; simp at h
        | false =>
          rw [hM] at h
          simp only [Bool.false_eq_true, if_false] at h
          split at h
          · rename_i v' s' hF
            obtain ⟨h1, h2, k⟩ := h
            exact build v' _ ⟨h2, ds, hds, .inr (.inr (.inr ⟨inM_false hM, rfl, side, v', s', fun hs => stepV_guard hV hs, hF, h1, rfl⟩))⟩ k
          · exact h.elim
  | 0, [], _, _, _, _, _, h => h.elim
  | 0, [_], _, _, _, _, _, h => h.elim
  | 0, _ :: _ :: _ :: _, _, _, _, _, _, h => h.elim
  | _ + 1, [], _, _, _, _, _, h => h.elim

def lastOk (ops : Array Oper) (M : List Nat) (p : Nat) : Bool := decide (ops.size = p + 2) && (M.all fun m => decide (m < p)) && (List.range (p + 1)).all fun q => reach (ancTbl ops.toList []) q (p + 1)
theorem T_drawK {id : Nat} {σ : St} (p : Nat) (M ks : List Nat) (blk : Blk) (hmix : P.follows .mixedOrders = true) (hchk : (drawOk ops M && lastOk ops M p) = true) (hks : (ks.all fun b => decide (b < σ.nx)) = true) (h : wpA P WG M ks blk Q p 0 [] ops.toList σ) : T P WG (.region id ops true) σ Q := by
  simp only [Bool.and_eq_true, lastOk, decide_eq_true_eq, List.all_eq_true, List.mem_range] at hchk hks
  obtain ⟨h1, ⟨h2, h3⟩, h4⟩ := hchk
  obtain ⟨S, u, hS, hst, hf⟩ := wpA_ext (ops := ops) p ops.toList 0 [] σ (fun g d hg => by simp [aget] at hg) (fun k => by simp) h
  subst hS
  rw [Nat.zero_add] at hf hst
  exact drawA_main S u M ks p blk hks (drawOk_spec h1) hmix h2 h3 h4 (fun q o hq ho => hst q o (Nat.zero_le _) hq ho) hf.1 hf.2.1 hf.2.2
theorem T_drawA {id : Nat} {σ : St} (p : Nat) (M : List Nat) (blk : Blk) (hmix : P.follows .mixedOrders = true) (hchk : (drawOk ops M && lastOk ops M p) = true) (h : wpA P WG M [] blk Q p 0 [] ops.toList σ) : T P WG (.region id ops true) σ Q :=
  T_drawK p M [] blk hmix hchk rfl h

theorem wpA_zero {M ks : List Nat} {blk : Blk} (q : Nat) (ds : Met) (o1 o2 : Oper) (σ : St) : wpA P WG M ks blk Q 0 q ds [o1, o2] σ = (dstOk σ o1.dst ∧ boxA P o1 σ.nx blk ∧ storeA P ((q, o1.dst) :: ds) o2 (stP σ o1 (.ref σ.nx 0) (aset σ.tab σ.nx blk) (σ.nx + 1)) Q) := rfl
theorem wpA_succ {M ks : List Nat} {blk : Blk} (n q : Nat) (ds : Met) (o : Oper) (l : List Oper) (σ : St) : wpA P WG M ks blk Q (n + 1) q ds (o :: l) σ = finA P WG (inM M q) ks blk ds o σ (stepV P ds o σ) (wpA P WG M ks blk Q n (q + 1) ((q, o.dst) :: ds) l) := rfl
theorem finA_pure {isM : Bool} {ks : List Nat} {blk : Blk} {ds : Met} {o : Oper} {σ : St} {K : St → Prop} {c : Bool} {v : V} {side : Prop} : finA P WG isM ks blk ds o σ (some (.pure c v side)) K = (isM = false ∧ (∀ t n, stab ks t σ.tab → stepV P ds o { σ with tab := t, nx := n } = some (.pure c v side)) ∧ side ∧ dstOk σ o.dst ∧ K (stP σ o (uV o c v) σ.tab σ.nx)) := rfl
theorem finA_callM {ks : List Nat} {blk : Blk} {ds : Met} {o : Oper} {σ : St} {K : St → Prop} {c : Bool} {side : Prop} {g : FuncId} {vs : List V} : finA P WG true ks blk ds o σ (some (.call c side g vs)) K = (side ∧ dstOk σ o.dst ∧ c = true ∧ ∃ v tab, CallT P WG g vs σ.tab σ.nx (fun r t n => r = v ∧ t = tab ∧ n = σ.nx) noP ∧
    CallT P WG g vs (aset σ.tab σ.nx blk) (σ.nx + 1) (fun r t n => r = v ∧ t = aset tab σ.nx blk ∧ n = σ.nx + 1) noP ∧ stab ks tab σ.tab ∧ Hold K (stP σ o (uV o true v) tab σ.nx)) := rfl
theorem finA_mem {ks : List Nat} {blk : Blk} {ds : Met} {o : Oper} {σ : St} {K : St → Prop} {v : Option V} {tab : Tab} {nx : Nat} {side : Prop} : finA P WG false ks blk ds o σ (some (.mem v tab nx side)) K = (match freshG P o σ side with | some (v, side) => side ∧ dstOk σ o.dst ∧ K (stP σ o v σ.tab σ.nx) | none => False) := rfl
theorem finA_call {ks : List Nat} {blk : Blk} {ds : Met} {o : Oper} {σ : St} {K : St → Prop} {c : Bool} {side : Prop} {g : FuncId} {vs : List V} : finA P WG false ks blk ds o σ (some (.call c side g vs)) K = (side ∧ dstOk σ o.dst ∧ ∃ r, (c = true → FVv P WG g vs r) ∧ Hold K (stP σ o (uV o c r) σ.tab σ.nx)) := rfl
end
attribute [push_cast] wpA_zero wpA_succ finA_pure finA_call finA_callM finA_mem stab_nil stab_cons boxA storeA
end Go.Gp

namespace Go.Gp
open Go.RowKit
section
variable {P : Program} {WG : World} {σ : St} {Q : VX → St → Prop} {ops : Array Oper}
def Hold3 (K : St → List MemAt → List Again → Prop) (σ : St) (m : List MemAt) (g : List Again) : Prop := K σ m g
theorem Hold3.intro {K : St → List MemAt → List Again → Prop} {σ : St} {m : List MemAt} {g : List Again} (h : K σ m g) : Hold3 K σ m g := h
def finH (P : Program) (WG : World) (isM : Bool) (q : Nat) (ds : Met) (o : Oper) (σ : St) (r : Option SV) (mems : List MemAt) (again : List Again) (K : St → List MemAt → List Again → Prop) : Prop :=
  match r with
  | none => False
  | some (.pure c v side) => isM = false ∧ side ∧ dstOk σ o.dst ∧ K (stP σ o (uV o c v) σ.tab σ.nx) mems (if isLoad o.op then (q, ds, o, σ, c, v) :: again else again)
  | some (.call c side g vs) => side ∧ dstOk σ o.dst ∧
      if isM then c = true ∧ ∃ v tab nx, CallT P WG g vs σ.tab σ.nx (fun r t n => r = v ∧ t = tab ∧ n = nx) noP ∧ Hold3 K (stP σ o (uV o true v) tab nx) ((q + 1, tab, nx) :: mems) again
      else ∃ r, (c = true → FVv P WG g vs r) ∧ Hold3 K (stP σ o (uV o c r) σ.tab σ.nx) mems again
  | some (.mem v tab nx side) =>
      if isM then side ∧ dstOk σ o.dst ∧ (v = none → o.dst = none) ∧ K (stP σ o (v.getD .zc) tab nx) ((q + 1, tab, nx) :: mems) again
      else match freshG P o σ side with
        | some (v, side) => side ∧ dstOk σ o.dst ∧ K (stP σ o v σ.tab σ.nx) mems again
        | none => False
def wpH (P : Program) (WG : World) (M : List Nat) (al : List (Nat × Nat)) (Q : VX → St → Prop) : Nat → Met → List Oper → St → List MemAt → List Again → Prop
  | _, _, [], σ, mems, again => againAll P al mems again ∧ Q .normal σ
  | q, ds, o :: l, σ, mems, again => finH P WG (inM M q) q ds o σ (stepV P ds o σ) mems again (wpH P WG M al Q (q + 1) ((q, o.dst) :: ds) l)
theorem wpH_D {M : List Nat} {al : List (Nat × Nat)} : ∀ (l : List Oper) (q : Nat) (ds : Met) (σ : St) (mems : List MemAt) (again : List Again), wpH P WG M al Q q ds l σ mems again → wpD P WG false M al Q q ds l σ mems again
  | [], q, ds, σ, mems, again, h => h
  | o :: l, q, ds, σ, mems, again, h => by
    have ih := wpH_D (M := M) (al := al) l (q + 1) ((q, o.dst) :: ds)
    rw [wpD_cons]
    simp only [wpH] at h
    cases hV : stepV P ds o σ with
    | none => rw [hV] at h; exact h.elim
    | some sv =>
      rw [hV] at h
      cases sv with
      | pure c v side => exact ⟨h.1, h.2.1, h.2.2.1, ih _ _ _ h.2.2.2⟩
      | call c side g vs =>
        refine ⟨h.1, h.2.1, ?_⟩
        have h3 := h.2.2
        cases hM : inM M q with
        | true =>
          rw [hM] at h3
          simp only [if_true] at h3 ⊢
          obtain ⟨e, v, tab, nx, a, b⟩ := h3
          exact ⟨e, v, tab, nx, a, ih _ _ _ b⟩
        | false =>
          rw [hM] at h3
          simp only [Bool.false_eq_true, if_false] at h3 ⊢
          obtain ⟨r, a, b⟩ := h3
          exact ⟨r, a, ih _ _ _ b⟩
      | mem v tab nx side =>
        simp only [finH, finD] at h ⊢
        cases hM : inM M q with
        | true =>
          rw [hM] at h
          simp only [if_true] at h ⊢
          exact ⟨h.1, h.2.1, h.2.2.1, ih _ _ _ h.2.2.2⟩
        | false =>
          rw [hM] at h
          simp only [Bool.false_eq_true, if_false] at h ⊢
          split at h
          · rename_i v s hf
            rw [hf]
            exact ⟨h.1, h.2.1, ih _ _ _ h.2.2⟩
          · exact h.elim
theorem T_drawH {id : Nat} (M : List Nat) (al : List (Nat × Nat)) (hmix : P.follows .mixedOrders = true) (hchk : (drawOk ops M && alOk ops M al) = true) (h : wpH P WG M al Q 0 [] ops.toList σ [(0, σ.tab, σ.nx)] []) : T P WG (.region id ops true) σ Q :=
  T_drawS M al hmix hchk (wpH_D _ _ _ _ _ _ h)
theorem wpH_nil {M : List Nat} {al : List (Nat × Nat)} (q : Nat) (ds : Met) (σ : St) (mems : List MemAt) (again : List Again) : wpH P WG M al Q q ds [] σ mems again = (againAll P al mems again ∧ Q .normal σ) := rfl
theorem wpH_cons {M : List Nat} {al : List (Nat × Nat)} (q : Nat) (ds : Met) (o : Oper) (l : List Oper) (σ : St) (mems : List MemAt) (again : List Again) : wpH P WG M al Q q ds (o :: l) σ mems again = finH P WG (inM M q) q ds o σ (stepV P ds o σ) mems again (wpH P WG M al Q (q + 1) ((q, o.dst) :: ds) l) := rfl
section
variable {isM : Bool} {q : Nat} {ds : Met} {o : Oper} {mems : List MemAt} {again : List Again} {K : St → List MemAt → List Again → Prop} {c : Bool} {side : Prop} {g : FuncId} {vs : List V} {tab : Tab} {nx : Nat}
theorem finH_pure {v : V} : finH P WG isM q ds o σ (some (.pure c v side)) mems again K = (isM = false ∧ side ∧ dstOk σ o.dst ∧ K (stP σ o (uV o c v) σ.tab σ.nx) mems (if isLoad o.op then (q, ds, o, σ, c, v) :: again else again)) := rfl
theorem finH_call : finH P WG false q ds o σ (some (.call c side g vs)) mems again K = (side ∧ dstOk σ o.dst ∧ ∃ r, (c = true → FVv P WG g vs r) ∧ Hold3 K (stP σ o (uV o c r) σ.tab σ.nx) mems again) := rfl
theorem finH_callM : finH P WG true q ds o σ (some (.call c side g vs)) mems again K = (side ∧ dstOk σ o.dst ∧ c = true ∧ ∃ v tab nx, CallT P WG g vs σ.tab σ.nx (fun r t n => r = v ∧ t = tab ∧ n = nx) noP ∧ Hold3 K (stP σ o (uV o true v) tab nx) ((q + 1, tab, nx) :: mems) again) := rfl
theorem finH_mem {v : Option V} : finH P WG true q ds o σ (some (.mem v tab nx side)) mems again K = (side ∧ dstOk σ o.dst ∧ (v = none → o.dst = none) ∧ K (stP σ o (v.getD .zc) tab nx) ((q + 1, tab, nx) :: mems) again) := rfl
theorem finH_memF {v : Option V} : finH P WG false q ds o σ (some (.mem v tab nx side)) mems again K = (match freshG P o σ side with | some (v, side) => side ∧ dstOk σ o.dst ∧ K (stP σ o v σ.tab σ.nx) mems again | none => False) := rfl
end
end
attribute [push_cast] wpH_cons wpH_nil finH_pure finH_call finH_callM finH_mem finH_memF
end Go.Gp
