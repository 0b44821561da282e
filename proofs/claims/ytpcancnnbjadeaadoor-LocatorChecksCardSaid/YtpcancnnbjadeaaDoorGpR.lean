/-
  Regions that draw their order, the rule.
-/
import Derived.Test.YtpcancnnbjadeaaDoorGpQ
set_option linter.unusedSimpArgs false
set_option linter.unusedVariables false
namespace Go.Gp
open Go.RowKit

abbrev Again := Nat × Met × Oper × St × Bool × V
abbrev MemAt := Nat × Tab × Nat

def againF (P : Program) : Again → MemAt → Prop
  | (_, ds, o, σ, c, v), (_, tab, nx) =>
    match stepV P ds o { σ with tab, nx } with
    | some (.pure c' v' side) => c' = c ∧ v' = v ∧ side
    | _ => False

def allowed (tbl : List Nat) (M : List Nat) (i k : Nat) : Bool := M.all fun m => (!reach tbl m i || decide (m < k)) && (!reach tbl i m || decide (k ≤ m))

def inP : List (Nat × Nat) → Nat → Nat → Bool
  | [], _, _ => false
  | (a, b) :: l, i, k => if i = a ∧ k = b then true else inP l i k
def inM : List Nat → Nat → Bool
  | [], _ => false
  | m :: l, q => if q = m then true else inM l q
theorem inM_false : ∀ {M : List Nat} {q : Nat}, inM M q = false → q ∉ M
  | [], _, _ => by simp
  | m :: l, q, h => by
    simp only [inM] at h
    split at h
    · cases h
    · rename_i hne
      simp only [List.mem_cons, not_or]
      exact ⟨hne, inM_false h⟩
theorem inM_true : ∀ {M : List Nat} {q : Nat}, inM M q = true → q ∈ M
  | [], _, h => by simp [inM] at h
  | m :: l, q, h => by
    simp only [inM] at h
    split at h
    · rename_i e; subst e; exact List.mem_cons_self
    · exact List.mem_cons_of_mem _ (inM_true h)

/-- The memories over which a load may also be carried out are among 'al'. -/
def alOk (ops : Array Oper) (M : List Nat) (al : List (Nat × Nat)) : Bool :=
  (M.all fun m => decide (m < ops.size)) &&
  (List.range ops.size).all fun i => match ops[i]? with
    | none => true
    | some o => !isLoad o.op || (0 :: M.map (· + 1)).all fun k => !allowed (ancTbl ops.toList []) M i k || (M.all fun m => decide (m < i) == decide (m < k)) || inP al i k

section
variable {P : Program} {WG : World} {Q : VX → St → Prop} {ops : Array Oper}

def PStep (P : Program) (WG : World) (ops : Array Oper) (M : List Nat) (AF : List Again) (MF : List MemAt) (q : Nat) (o : Oper) (σ σ' : St) (u : V) : Prop :=
  dstOk σ o.dst ∧ ∃ ds, MetOk ops ds ∧
    ((q ∉ M ∧ σ' = stP σ o u σ.tab σ.nx ∧ ∃ c v side, stepV P ds o σ = some (.pure c v side) ∧ side ∧ u = uV o c v ∧ (isLoad o.op = true → (q, ds, o, σ, c, v) ∈ AF)) ∨
     (q ∉ M ∧ σ' = stP σ o u σ.tab σ.nx ∧ ∃ c side g vs r, stepV P ds o σ = some (.call c side g vs) ∧ side ∧ (c = true → FVv P WG g vs r) ∧ u = uV o c r) ∨
     (q ∈ M ∧ (q + 1, σ'.tab, σ'.nx) ∈ MF ∧ σ' = stP σ o u σ'.tab σ'.nx ∧
       ((∃ v side, stepV P ds o σ = some (.mem v σ'.tab σ'.nx side) ∧ side ∧ (v = none → o.dst = none) ∧ u = v.getD .zc) ∨
        (∃ side g vs v, stepV P ds o σ = some (.call true side g vs) ∧ side ∧ CallT P WG g vs σ.tab σ.nx (fun r t n => r = v ∧ t = σ'.tab ∧ n = σ'.nx) noP ∧ u = uV o true v))))

theorem stepV_notMem {σ : St} {ds : Met} {o : Oper} {r : SV} (h : stepV P ds o σ = some r) (hm : ∀ v t n s, r ≠ .mem v t n s) : isMem P o.op = false := by
  unfold stepV at h
  split at h
  · cases h
  split at h
  · rename_i hop; rw [hop]; rfl
  · rename_i hop; rw [hop]; rfl
  · split at h
    · split at h
      · split at h
        · cases h; exact absurd rfl (hm _ _ _ _)
        · cases h
      · rename_i hf; simpa using hf
    · cases h
theorem stepV_call {σ : St} {ds : Met} {o : Oper} {c : Bool} {s : Prop} {g : FuncId} {vs : List V} (h : stepV P ds o σ = some (.call c s g vs)) : isLoad o.op = false := by
  unfold stepV at h
  split at h
  · cases h
  split at h
  · split at h <;> cases h
  · rename_i hop; rw [hop]; rfl
  · split at h
    · split at h
      · split at h <;> cases h
      · split at h <;> cases h
    · cases h

/-- The slots where the operations of 'L' have been carried out. -/
def EnvIs (ops : Array Oper) (u : Nat → V) (e0 : List (Nat × V)) (L : Nat → Prop) (e : List (Nat × V)) : Prop :=
  ∀ t, (∃ q o, ops[q]? = some o ∧ L q ∧ o.dst = some t ∧ aget e t = some (u q)) ∨ ((∀ (q : Nat) o, ops[q]? = some o → L q → o.dst ≠ some t) ∧ aget e t = aget e0 t)

theorem EnvIs.put {u : Nat → V} {e0 e : List (Nat × V)} {L L' : Nat → Prop} {M : List Nat} (hc : DrawOk ops M) (h : EnvIs ops u e0 L e) {i : Nat} {o : Oper} (hi : ops[i]? = some o) (hL : ∀ q, L' q ↔ L q ∨ q = i) : EnvIs ops u e0 L' (pEnv e o.dst (u i)) := by
  intro t
  rw [aget_pEnv]
  by_cases hd : o.dst = some t
  · rw [if_pos hd]
    exact .inl ⟨i, o, hi, (hL i).2 (.inr rfl), hd, rfl⟩
  · rw [if_neg hd]
    rcases h t with ⟨q, p, hq, hLq, hp, he⟩ | ⟨hno, he⟩
    · exact .inl ⟨q, p, hq, (hL q).2 (.inl hLq), hp, he⟩
    · refine .inr ⟨fun q p hq hLq hp => ?_, he⟩
      rcases (hL q).1 hLq with h1 | rfl
      · exact hno q p hq h1 hp
      · rw [hi] at hq; cases hq; exact hd hp

theorem EnvIs.agree {u : Nat → V} {e0 e e' : List (Nat × V)} {L L' : Nat → Prop} {M : List Nat} (hc : DrawOk ops M) (h : EnvIs ops u e0 L e) (h' : EnvIs ops u e0 L' e') {t : Nat}
    (ht : ∀ (q : Nat) o, ops[q]? = some o → o.dst = some t → (L q ↔ L' q)) : aget e t = aget e' t := by
  rcases h t with ⟨q, o, hq, hL, ho, he⟩ | ⟨hno, he⟩ <;> rcases h' t with ⟨q', o', hq', hL', ho', he'⟩ | ⟨hno', he'⟩
  · by_cases e : q = q'
    · subst e; rw [he, he']
    · exact absurd ho (hc.dst q q' o o' t hq hq' e ho')
  · exact absurd ho (hno' q o hq ((ht q o hq ho).1 hL))
  · exact absurd ho' (hno q' o' hq' ((ht q' o' hq' ho').2 hL'))
  · rw [he, he']

theorem ERel.drew {C : Ctx} {j : Nat → Option Loc} {σ : St} {a : Act} {w : World} (h : ERel WG C j σ a w) : ERel WG C j σ a { w with drawn := w.drawn + 1 } :=
  ⟨h.mem.heap_eq rfl rfl rfl rfl, h.lo, h.lx, fun t v hv => let ⟨m, h1, h2⟩ := h.env t v hv; ⟨m, h1, VR.mono (w := w) (w' := { w with drawn := w.drawn + 1 }) (ok := okc C (Own j σ.tab) w) (ok' := okc C (Own j σ.tab) { w with drawn := w.drawn + 1 }) (j := j) (nx := σ.nx) (fun k hk => ⟨hk, rfl⟩) (fun b hb => ⟨rfl, hb⟩) h2⟩, h.n, h.defers⟩

theorem draw_main {id : Nat} (S : Nat → St) (u : Nat → V) (M : List Nat) (AF : List Again) (MF : List MemAt) (hc : DrawOk ops M) (al : List (Nat × Nat)) (hal0 : alOk ops M al = true) (hmix : P.follows .mixedOrders = true)
    (h0 : (0, (S 0).tab, (S 0).nx) ∈ MF) (hstep : ∀ (q : Nat) o, ops[q]? = some o → PStep P WG ops M AF MF q o (S q) (S (q + 1)) (u q))
    (hagain : ∀ x ∈ AF, ∀ y ∈ MF, inP al x.1 y.1 = true → againF P x y) (hQ : Q .normal (S ops.size)) : T P WG (.region id ops true) (S 0) Q := by
  simp only [alOk, Bool.and_eq_true] at hal0
  have hM : ∀ m ∈ M, m < ops.size := fun m hm => by simpa using List.all_eq_true.1 hal0.1 m hm
  have hop : ∀ q, q < ops.size → ∃ o, ops[q]? = some o := fun q hq => ⟨ops[q], by simp [hq]⟩
  -- what stays along the listed order
  have hlo : ∀ q, q ≤ ops.size → (S q).lo = (S 0).lo ∧ (S q).n = (S 0).n := by
    intro q
    induction q with
    | zero => exact fun _ => ⟨rfl, rfl⟩
    | succ q ih =>
      intro hq
      obtain ⟨o, ho⟩ := hop q hq
      obtain ⟨h1, h2⟩ := ih (by omega)
      obtain ⟨_, ds, _, h⟩ := hstep q o ho
      have : (S (q + 1)).lo = (S q).lo ∧ (S (q + 1)).n = (S q).n := by
        rcases h with ⟨_, he, _⟩ | ⟨_, he, _⟩ | ⟨_, _, he, _⟩ <;> rw [he] <;> exact ⟨rfl, rfl⟩
      exact ⟨this.1.trans h1, this.2.trans h2⟩
  have hsame : ∀ b a, a ≤ b → b ≤ ops.size → (∀ m ∈ M, ¬ (a ≤ m ∧ m < b)) → (S b).tab = (S a).tab ∧ (S b).nx = (S a).nx := by
    intro b
    induction b with
    | zero => intro a h1 _ _; have h : a = 0 := Nat.le_zero.1 h1; rw [h]; exact ⟨rfl, rfl⟩
    | succ b ih =>
      intro a h1 h2 h3
      by_cases e : a = b + 1
      · subst e; exact ⟨rfl, rfl⟩
      · obtain ⟨o, ho⟩ := hop b h2
        obtain ⟨i1, i2⟩ := ih a (by omega) (by omega) (fun m hm h => h3 m hm ⟨h.1, by omega⟩)
        obtain ⟨_, ds, _, h⟩ := hstep b o ho
        have hb : b ∉ M := fun hb => h3 b hb ⟨by omega, by omega⟩
        rcases h with ⟨_, he, _⟩ | ⟨_, he, _⟩ | ⟨hm, _⟩
        · rw [he]; exact ⟨i1, i2⟩
        · rw [he]; exact ⟨i1, i2⟩
        · exact absurd hm hb
  have hSenv : ∀ i, i ≤ ops.size → EnvIs ops u (S 0).env (fun q => q < i) (S i).env := by
    intro i
    induction i with
    | zero => exact fun _ t => .inr ⟨fun q o _ hq => absurd hq (Nat.not_lt_zero _), rfl⟩
    | succ i ih =>
      intro hi
      obtain ⟨o, ho⟩ := hop i hi
      have h1 := (ih (by omega)).put hc ho (L' := fun q => q < i + 1) (fun q => by omega)
      have h2 : (S (i + 1)).env = pEnv (S i).env o.dst (u i) := by
        obtain ⟨_, ds, _, h⟩ := hstep i o ho
        rcases h with ⟨_, he, _⟩ | ⟨_, he, _⟩ | ⟨_, _, he, _⟩ <;> rw [he] <;> rfl
      rw [h2]; exact h1
  intro C j a w hr
  refine wp_region_any hmix ?_
  have hr0 : ERel WG C j (S 0) a { w with drawn := w.drawn + 1 } := hr.drew
  -- the invariant
  suffices key : ∀ (fuel : Nat) (listed : Array Bool) (σ : St) (j : Nat → Option Loc) (a : Act) (w : World), ERel WG C j σ a w → listed.size = ops.size → listed.toList.count false ≤ fuel →
      Closed ops (fun i => listed.getD i false = true) → σ.lo = (S 0).lo → σ.n = (S 0).n → EnvIs ops u (S 0).env (fun i => listed.getD i false = true) σ.env →
      (∃ k, k ≤ ops.size ∧ k ∈ 0 :: M.map (· + 1) ∧ (k, (S k).tab, (S k).nx) ∈ MF ∧ σ.tab = (S k).tab ∧ σ.nx = (S k).nx ∧ ∀ m ∈ M, (listed.getD m false = true ↔ m < k)) →
      wpAny P .any ops (PostR WG C Q) fuel listed a w by
    refine key ops.size (Array.replicate ops.size false) (S 0) j a _ hr0 (by simp) ?_ ?_ rfl rfl ?_ ⟨0, Nat.zero_le _, List.mem_cons_self, h0, rfl, rfl, fun m hm => ?_⟩
    · simp [List.count_replicate]
    · intro i o ho h; simp [Array.getElem?_replicate] at h; split at h <;> simp at h
    · intro t; exact .inr ⟨fun q o ho h => by simp [Array.getElem?_replicate] at h; split at h <;> simp at h, rfl⟩
    · constructor
      · intro h; simp [Array.getElem?_replicate] at h; split at h <;> simp at h
      · intro h; exact absurd h (Nat.not_lt_zero _)
  -- at the end
  have done : ∀ (listed : Array Bool) (σ : St) (j : Nat → Option Loc) (a : Act) (w : World), ERel WG C j σ a w → listed.size = ops.size → (∀ i, i < ops.size → listed.getD i false = true) →
      σ.lo = (S 0).lo → σ.n = (S 0).n → EnvIs ops u (S 0).env (fun i => listed.getD i false = true) σ.env →
      (∃ k, k ≤ ops.size ∧ k ∈ 0 :: M.map (· + 1) ∧ (k, (S k).tab, (S k).nx) ∈ MF ∧ σ.tab = (S k).tab ∧ σ.nx = (S k).nx ∧ ∀ m ∈ M, (listed.getD m false = true ↔ m < k)) → PostR WG C Q .normal a w := by
    intro listed σ j a w hr hsz hall hlo1 hn1 henv ⟨k, hk, _, _, ht, hx, hm⟩
    have hagree : ∀ t, aget (S ops.size).env t = aget σ.env t := fun t => (hSenv _ (Nat.le_refl _)).agree hc henv (fun q o ho _ => by
      have : q < ops.size := (Array.getElem?_eq_some_iff.1 ho).1
      simp only [hall q this, this])
    obtain ⟨s1, s2⟩ := hsame ops.size k hk (Nat.le_refl _) (fun m hmm ⟨h1, h2⟩ => by
      have := (hm m hmm).1 (hall m h2); omega)
    obtain ⟨l1, l2⟩ := hlo ops.size (Nat.le_refl _)
    have e : { σ with env := (S ops.size).env } = S ops.size := by
      cases hS : S ops.size with
      | mk e t x l n =>
        rw [hS] at s1 s2 l1 l2
        simp only at s1 s2 l1 l2
        obtain ⟨e', t', x', l', n'⟩ := σ
        simp only at ht hx hlo1 hn1 ⊢
        subst s1 s2 l1 l2 ht hx hlo1 hn1
        rfl
    obtain ⟨j', hr'⟩ := Weak.env (WG := WG) (σ := σ) (e := (S ops.size).env) (fun t v h => (hagree t).symm.trans h) C j a w hr
    rw [e] at hr'
    exact ⟨.normal, S ops.size, j', .normal, hr', hQ⟩
  intro fuel
  induction fuel with
  | zero =>
    intro listed σ j a w hr hsz hcnt hcl hlo1 hn1 henv hmem
    have hall : ∀ i, i < ops.size → listed.getD i false = true := by
      intro i hi
      have h1 : listed.toList.count false = 0 := by omega
      have h2 := List.count_eq_zero.1 h1
      have hi' : i < listed.size := by omega
      cases hq : listed[i] with
      | true => simp [hi', hq]
      | false => exact absurd (by rw [← hq]; simp) h2
    refine ⟨?_, done listed σ j a w hr hsz hall hlo1 hn1 henv hmem⟩
    apply List.eq_nil_iff_forall_not_mem.2
    intro i hi
    obtain ⟨h1, o, ho, _⟩ := mem_ready.1 hi
    have hi' : i < listed.size := by rw [hsz]; exact (Array.getElem?_eq_some_iff.1 ho).1
    have := hall i (by omega)
    simp [hi'] at this h1
    rw [this] at h1; cases h1
  | succ fuel ih =>
    intro listed σ j a w hr hsz hcnt hcl hlo1 hn1 henv hmem
    refine ⟨fun hnil => ?_, fun i hi => ?_⟩
    · refine done listed σ j a w hr hsz (fun i => ?_) hlo1 hn1 henv hmem
      induction i using Nat.strongRecOn with
      | _ i ihi =>
        intro hi
        obtain ⟨o, ho⟩ := hop i hi
        cases hq : listed.getD i false with
        | true => rfl
        | false =>
          have hi' : i < listed.size := by omega
          have : i ∈ Region.ready .any ops listed := mem_ready.2 ⟨by simp [hi'] at hq ⊢; exact hq, o, ho, fun e he hb => ihi e.on (hc.before i o ho e he hb) (by have := hc.before i o ho e he hb; omega)⟩
          rw [hnil] at this; cases this
    · obtain ⟨hun, o, ho, hafter⟩ := mem_ready.1 hi
      have hilt : i < ops.size := (Array.getElem?_eq_some_iff.1 ho).1
      have hil : i < listed.size := by omega
      have hun' : listed.getD i false = false := by simp [hil] at hun ⊢; exact hun
      have hset : ∀ q, (listed.setIfInBounds i true).getD q false = true ↔ listed.getD q false = true ∨ q = i := by
        intro q
        by_cases e : i = q
        · subst e; simp [hil]
        · rw [getD_set_ne false e]
          constructor
          · exact .inl
          · rintro (h | h)
            · exact h
            · exact absurd h.symm e
      have hcl' : Closed ops (fun q => (listed.setIfInBounds i true).getD q false = true) := by
        intro q p hq hL e he hb
        rcases (hset q).1 hL with h | rfl
        · exact (hset _).2 (.inl (hcl q p hq h e he hb))
        · rw [ho] at hq; cases hq
          exact (hset _).2 (.inl (hafter e he hb))
      have anc : ∀ q, reach (ancTbl ops.toList []) q i = true → q ≠ i → listed.getD q false = true := fun q hq hne =>
        ((hset q).1 (reach_spec hq hcl' ((hset i).2 (.inr rfl)))).resolve_right hne
      have desc : ∀ q, reach (ancTbl ops.toList []) i q = true → listed.getD q false = false := fun q hq => by
        cases h : listed.getD q false with
        | false => rfl
        | true => have := reach_spec hq hcl h; rw [hun'] at this; cases this
      have hlook : ∀ t ∈ o.looksAt ops, aget σ.env t = aget (S i).env t := fun t ht => henv.agree hc (hSenv i (by omega)) (fun q p hq hp => by
        by_cases e : i = q
        · subst e; simp [hun']
        · have := hc.look i q o p t ho hq e hp ht
          split at this
          · rename_i hlt
            have := anc q this (by omega)
            simp only [this, hlt]
          · rename_i hge
            have := desc q this
            simp only [this, Bool.false_eq_true, false_iff]; omega)
      have hcnt' : (listed.setIfInBounds i true).toList.count false ≤ fuel := by
        rw [Array.toList_setIfInBounds, List.count_set (by simpa using hil)]
        have h1 : listed.toList[i]'(by simpa using hil) = false := by simp [hil] at hun; simpa using hun
        rw [h1]
        have h2 : listed.toList.count false - (if (false == false) = true then 1 else 0) + (if (true == false) = true then 1 else 0) = listed.toList.count false - 1 := rfl
        refine Nat.le_trans (Nat.le_of_eq h2) ?_
        omega
      have hnext : ∀ (σ' : St) (j' : Nat → Option Loc) (a' : Act) (w' : World), ERel WG C j' σ' a' w' → σ'.lo = σ.lo → σ'.n = σ.n → σ'.env = pEnv σ.env o.dst (u i) →
          (∃ k, k ≤ ops.size ∧ k ∈ 0 :: M.map (· + 1) ∧ (k, (S k).tab, (S k).nx) ∈ MF ∧ σ'.tab = (S k).tab ∧ σ'.nx = (S k).nx ∧ ∀ m ∈ M, ((listed.setIfInBounds i true).getD m false = true ↔ m < k)) →
          wpAny P .any ops (PostR WG C Q) fuel (listed.setIfInBounds i true) a' w' := by
        intro σ' j' a' w' hr' h1 h2 h3 h4
        exact ih _ σ' j' a' w' hr' (by simpa using hsz) hcnt' hcl' (h1.trans hlo1) (h2.trans hn1) (by rw [h3]; exact henv.put hc ho hset) h4
      obtain ⟨k, hk, hkM, hkF, ht, hx, hm⟩ := hmem
      obtain ⟨hd, ds, hds, hcase⟩ := hstep i o ho
      have hd' : dstOk σ o.dst := by
        revert hd; unfold dstOk
        cases o.dst with
        | none => exact fun h => h
        | some d => simp only; rw [hn1, (hlo i (by omega)).2]; exact fun h => h
      have quiet : i ∉ M → ∃ k, k ≤ ops.size ∧ k ∈ 0 :: M.map (· + 1) ∧ (k, (S k).tab, (S k).nx) ∈ MF ∧ σ.tab = (S k).tab ∧ σ.nx = (S k).nx ∧ ∀ m ∈ M, ((listed.setIfInBounds i true).getD m false = true ↔ m < k) := fun hi => by
        refine ⟨k, hk, hkM, hkF, ht, hx, fun m hmm => ?_⟩
        rw [hset, hm m hmm]
        constructor
        · rintro (h | rfl)
          · exact h
          · exact absurd hmm hi
        · exact .inl
      rcases hcase with ⟨hnM, _, c, v, side, hV, hs, hu, hAF⟩ | ⟨hnM, _, c, side, g, vs, r, hV, hs, hfv, hu⟩ | ⟨hinM, hMF, hSt, hcase⟩
      · -- data alone
        have hnm := stepV_notMem hV (fun _ _ _ _ h => by cases h)
        have hV' : ∃ side', stepV P ds o σ = some (.pure c v side') ∧ side' := by
          cases hld : isLoad o.op with
          | false => exact ⟨side, (stepV_congr hds hlook (fun h => by rw [hld] at h; cases h) (fun h => by rw [hnm] at h; cases h)).trans hV, hs⟩
          | true =>
            have hal : allowed (ancTbl ops.toList []) M i k = true := by
              simp only [allowed, List.all_eq_true, Bool.and_eq_true, Bool.or_eq_true, Bool.not_eq_true', decide_eq_true_eq]
              intro m hmm
              refine ⟨?_, ?_⟩
              · cases hq : reach (ancTbl ops.toList []) m i with
                | false => exact .inl rfl
                | true => exact .inr ((hm m hmm).1 (anc m hq (fun e => hnM (e ▸ hmm))))
              · cases hq : reach (ancTbl ops.toList []) i m with
                | false => exact .inl rfl
                | true =>
                  right
                  have h1 := desc m hq
                  rcases Nat.lt_or_ge m k with h2 | h2
                  · rw [(hm m hmm).2 h2] at h1; cases h1
                  · exact h2
            have h3 := List.all_eq_true.1 hal0.2 i (by simpa using hilt)
            simp only [ho, hld, Bool.not_true, Bool.false_or] at h3
            have h4 := List.all_eq_true.1 h3 k hkM
            simp only [hal, Bool.not_true, Bool.false_or, Bool.or_eq_true] at h4
            rcases h4 with h4 | h4
            · refine ⟨side, (stepV_congr hds hlook (fun _ => ?_) (fun h => by rw [hnm] at h; cases h)).trans hV, hs⟩
              have h5 : ∀ m ∈ M, (m < i ↔ m < k) := fun m hmm => by
                have := List.all_eq_true.1 h4 m hmm
                simpa [beq_iff_eq] using this
              rw [ht]
              rcases Nat.le_total k i with h | h
              · exact (hsame i k h (by omega) (fun m hmm ⟨a, b⟩ => by have := (h5 m hmm).1 b; omega)).1.symm
              · exact (hsame k i h hk (fun m hmm ⟨a, b⟩ => by have := (h5 m hmm).2 b; omega)).1
            have h1 := hagain _ (hAF hld) _ hkF h4
            simp only [againF] at h1
            split at h1
            · rename_i c' v' side' hst
              obtain ⟨rfl, rfl, hs'⟩ := h1
              refine ⟨side', ?_, hs'⟩
              rw [← hst]
              exact stepV_congr (σ := { S i with tab := (S k).tab, nx := (S k).nx }) hds hlook (fun _ => ht) (fun h => by rw [hnm] at h; cases h)
            · exact h1.elim
        obtain ⟨side', hV', hs'⟩ := hV'
        exact WPO_pure hds ho hd' hV' hs' C j a w _ hr (fun j' a' w' hr' => hnext _ j' a' w' hr' rfl rfl (by rw [hu]; rfl) (quiet hnM))
      · -- a call on data
        have hnm := stepV_notMem hV (fun _ _ _ _ h => by cases h)
        have hV' := (stepV_congr (σ := S i) (σ' := σ) (P := P) hds hlook (fun h => by rw [stepV_call hV] at h; cases h) (fun h => by rw [hnm] at h; cases h)).trans hV
        exact WPO_call hds ho hd' hV' hs (fun hcc => hfv hcc σ.tab σ.nx) (fun _ => ⟨rfl, rfl⟩) C j a w _ hr (fun j' a' w' hr' => hnext _ j' a' w' hr' rfl rfl (by rw [hu]; rfl) (quiet hnM))
      · -- memory
        have hki : k ≤ i := by
          rcases Nat.lt_or_ge i k with h | h
          · have := (hm i hinM).2 h; rw [hun'] at this; cases this
          · exact h
        obtain ⟨s1, s2⟩ := hsame i k hki (by omega) (fun m hmm ⟨h1, h2⟩ => by
          have h3 := anc m (hc.mem m hmm i hinM h2) (by omega)
          have := (hm m hmm).1 h3; omega)
        have ht' : σ.tab = (S i).tab := ht.trans s1.symm
        have hx' : σ.nx = (S i).nx := hx.trans s2.symm
        have hk' : ∃ k, k ≤ ops.size ∧ k ∈ 0 :: M.map (· + 1) ∧ (k, (S k).tab, (S k).nx) ∈ MF ∧ (S (i + 1)).tab = (S k).tab ∧ (S (i + 1)).nx = (S k).nx ∧ ∀ m ∈ M, ((listed.setIfInBounds i true).getD m false = true ↔ m < k) := by
          refine ⟨i + 1, hilt, List.mem_cons_of_mem _ (List.mem_map.2 ⟨i, hinM, rfl⟩), hMF, rfl, rfl, fun m hmm => ?_⟩
          rw [hset]
          constructor
          · rintro (h | rfl)
            · rcases Nat.lt_trichotomy m i with h1 | h1 | h1
              · omega
              · omega
              · have := desc m (hc.mem i hinM m hmm h1); rw [h] at this; cases this
            · omega
          · intro h
            rcases Nat.lt_or_ge m i with h1 | h1
            · exact .inl (anc m (hc.mem m hmm i hinM h1) (by omega))
            · right; omega
        rcases hcase with ⟨v, side, hV, hs, hn, hu⟩ | ⟨side, g, vs, v, hV, hs, hcall, hu⟩
        · have hV' := (stepV_congr (σ := S i) (σ' := σ) (P := P) hds hlook (fun _ => ht') (fun _ => ⟨ht', hx'⟩)).trans hV
          exact WPO_mem hds ho hd' hV' hs hn C j a w _ hr (fun j' a' w' hr' => hnext _ j' a' w' hr' rfl rfl (by rw [hu]; rfl) hk')
        · have hV' := (stepV_congr (σ := S i) (σ' := σ) (P := P) hds hlook (fun _ => ht') (fun _ => ⟨ht', hx'⟩)).trans hV
          refine WPO_call hds ho hd' hV' hs (fun _ => ?_) (fun h => by cases h) C j a w _ hr (fun j' a' w' hr' => hnext _ j' a' w' hr' rfl rfl (by rw [hu]; rfl) hk')
          rw [ht', hx']; exact hcall

/-! As a rule that is evaluated. -/
def finD (P : Program) (WG : World) (isM : Bool) (q : Nat) (ds : Met) (o : Oper) (σ : St) (r : Option SV) (mems : List MemAt) (again : List Again) (K : St → List MemAt → List Again → Prop) : Prop :=
  match r with
  | none => False
  | some (.pure c v side) => isM = false ∧ side ∧ dstOk σ o.dst ∧ K (stP σ o (uV o c v) σ.tab σ.nx) mems (if isLoad o.op then (q, ds, o, σ, c, v) :: again else again)
  | some (.call c side g vs) => side ∧ dstOk σ o.dst ∧
      if isM then c = true ∧ ∃ v tab nx, CallT P WG g vs σ.tab σ.nx (fun r t n => r = v ∧ t = tab ∧ n = nx) noP ∧ K (stP σ o (uV o true v) tab nx) ((q + 1, tab, nx) :: mems) again
      else ∃ r, (c = true → FVv P WG g vs r) ∧ K (stP σ o (uV o c r) σ.tab σ.nx) mems again
  | some (.mem v tab nx side) => isM = true ∧ side ∧ dstOk σ o.dst ∧ (v = none → o.dst = none) ∧ K (stP σ o (v.getD .zc) tab nx) ((q + 1, tab, nx) :: mems) again

def againM (P : Program) (al : List (Nat × Nat)) (x : Again) : List MemAt → Prop
  | [] => True
  | y :: l => (inP al x.1 y.1 = true → againF P x y) ∧ againM P al x l
def againAll (P : Program) (al : List (Nat × Nat)) (mems : List MemAt) : List Again → Prop
  | [] => True
  | x :: l => againM P al x mems ∧ againAll P al mems l

def wpD (P : Program) (WG : World) (M : List Nat) (al : List (Nat × Nat)) (Q : VX → St → Prop) : Nat → Met → List Oper → St → List MemAt → List Again → Prop
  | _, _, [], σ, mems, again => againAll P al mems again ∧ Q .normal σ
  | q, ds, o :: l, σ, mems, again => finD P WG (inM M q) q ds o σ (stepV P ds o σ) mems again (wpD P WG M al Q (q + 1) ((q, o.dst) :: ds) l)

theorem againAll_spec {al : List (Nat × Nat)} {mems : List MemAt} : ∀ {again : List Again}, againAll P al mems again → ∀ x ∈ again, ∀ y ∈ mems, inP al x.1 y.1 = true → againF P x y
  | [], _, x, hx, _, _ => by cases hx
  | x :: l, h, x', hx', y, hy => by
    rcases List.mem_cons.1 hx' with rfl | hx'
    · have : ∀ (mems : List MemAt), againM P al x' mems → y ∈ mems → inP al x'.1 y.1 = true → againF P x' y := by
        intro mems
        induction mems with
        | nil => intro _ h; cases h
        | cons z r ih =>
          intro h1 h2
          rcases List.mem_cons.1 h2 with rfl | h2
          · exact h1.1
          · exact ih h1.2 h2
      exact this mems h.1 hy
    · exact againAll_spec h.2 x' hx' y hy

theorem wpD_ext {M : List Nat} {al : List (Nat × Nat)} : ∀ (l : List Oper) (q : Nat) (ds : Met) (σ : St) (mems : List MemAt) (again : List Again), MetOk ops ds → (∀ k, ops[q + k]? = l[k]?) → wpD P WG M al Q q ds l σ mems again →
    ∃ (S : Nat → St) (u : Nat → V) (AF : List Again) (MF : List MemAt), S q = σ ∧ (∀ x ∈ again, x ∈ AF) ∧ (∀ y ∈ mems, y ∈ MF) ∧ (∀ (i : Nat) o, q ≤ i → ops[i]? = some o → PStep P WG ops M AF MF i o (S i) (S (i + 1)) (u i)) ∧
      (∀ x ∈ AF, ∀ y ∈ MF, inP al x.1 y.1 = true → againF P x y) ∧ Q .normal (S (q + l.length))
  | [], q, ds, σ, mems, again, _, hl, h => by
    refine ⟨fun _ => σ, fun _ => .zc, again, mems, rfl, fun _ h => h, fun _ h => h, fun i o hi ho => ?_, againAll_spec h.1, h.2⟩
    have := hl (i - q)
    rw [show q + (i - q) = i by omega, ho] at this
    simp at this
  | o :: l, q, ds, σ, mems, again, hds, hl, h => by
    have ho : ops[q]? = some o := by simpa using hl 0
    have hds' : MetOk ops ((q, o.dst) :: ds) := fun g d hg => by
      simp only [aget] at hg
      split at hg
      · rename_i e; subst e; cases hg; simp [ho]
      · exact hds g d hg
    have hl' : ∀ k, ops[q + 1 + k]? = l[k]? := fun k => by
      have := hl (k + 1)
      rw [List.getElem?_cons_succ] at this
      rw [← this]; congr 1; omega
    have build : ∀ (σ1 : St) (mems1 : List MemAt) (again1 : List Again) (u0 : V), wpD P WG M al Q (q + 1) ((q, o.dst) :: ds) l σ1 mems1 again1 → (∀ x ∈ again, x ∈ again1) → (∀ y ∈ mems, y ∈ mems1) →
        (∀ AF MF, (∀ x ∈ again1, x ∈ AF) → (∀ y ∈ mems1, y ∈ MF) → PStep P WG ops M AF MF q o σ σ1 u0) →
        ∃ (S : Nat → St) (u : Nat → V) (AF : List Again) (MF : List MemAt), S q = σ ∧ (∀ x ∈ again, x ∈ AF) ∧ (∀ y ∈ mems, y ∈ MF) ∧ (∀ (i : Nat) o, q ≤ i → ops[i]? = some o → PStep P WG ops M AF MF i o (S i) (S (i + 1)) (u i)) ∧
          (∀ x ∈ AF, ∀ y ∈ MF, inP al x.1 y.1 = true → againF P x y) ∧ Q .normal (S (q + (o :: l).length)) := by
      intro σ1 mems1 again1 u0 h1 ha hm hp
      obtain ⟨S, u, AF, MF, hS, hA, hMm, hst, hag, hQ⟩ := wpD_ext l (q + 1) _ σ1 mems1 again1 hds' hl' h1
      refine ⟨fun i => if i ≤ q then σ else S i, fun i => if i = q then u0 else u i, AF, MF, by simp, fun x hx => hA x (ha x hx), fun y hy => hMm y (hm y hy), fun i p hi hp' => ?_, hag, ?_⟩
      · by_cases e : i = q
        · subst e
          rw [ho] at hp'; cases hp'
          simp only [Nat.le_refl, if_true]
          rw [if_neg (by omega), hS]
          exact hp AF MF hA hMm
        · have e1 : ¬ i ≤ q := by omega
          have e2 : ¬ i + 1 ≤ q := by omega
          simp only [e1, e2, e, if_false]
          exact hst i p (by omega) hp'
      · simp only [List.length_cons]
        rw [if_neg (by omega), show q + (l.length + 1) = q + 1 + l.length by omega]
        exact hQ
    simp only [wpD] at h
    cases hV : stepV P ds o σ with
    | none => rw [hV] at h; exact h.elim
    | some sv =>
      rw [hV] at h
      cases sv with
      | pure c v side =>
        obtain ⟨h1, h2, h3, h4⟩ := h
        refine build _ _ _ (uV o c v) h4 (fun x hx => ?_) (fun y hy => hy) (fun AF MF hA hMm => ⟨h3, ds, hds, .inl ⟨inM_false h1, rfl, c, v, side, hV, h2, rfl, fun hld => hA _ ?_⟩⟩)
        · split
          · exact List.mem_cons_of_mem _ hx
          · exact hx
        · rw [if_pos hld]; exact List.mem_cons_self
      | call c side g vs =>
        obtain ⟨h2, h3, h4⟩ := h
        cases hb : inM M q with
        | true =>
          rw [hb] at h4
          simp only [if_true] at h4
          obtain ⟨rfl, v, tab, nx, hcall, h5⟩ := h4
          exact build _ _ _ (uV o true v) h5 (fun x hx => hx) (fun y hy => List.mem_cons_of_mem _ hy) (fun AF MF hA hMm => ⟨h3, ds, hds, .inr (.inr ⟨inM_true hb, hMm _ List.mem_cons_self, rfl, .inr ⟨side, g, vs, v, hV, h2, hcall, rfl⟩⟩)⟩)
        | false =>
          rw [hb] at h4
          simp only [Bool.false_eq_true, if_false] at h4
          obtain ⟨r, hfv, h5⟩ := h4
          exact build _ _ _ (uV o c r) h5 (fun x hx => hx) (fun y hy => hy) (fun AF MF hA hMm => ⟨h3, ds, hds, .inr (.inl ⟨inM_false hb, rfl, c, side, g, vs, r, hV, h2, hfv, rfl⟩)⟩)
      | mem v tab nx side =>
        obtain ⟨h1, h2, h3, h4, h5⟩ := h
        exact build _ _ _ (v.getD .zc) h5 (fun x hx => hx) (fun y hy => List.mem_cons_of_mem _ hy) (fun AF MF hA hMm => ⟨h3, ds, hds, .inr (.inr ⟨inM_true h1, hMm _ List.mem_cons_self, rfl, .inl ⟨v, side, hV, h2, h4, rfl⟩⟩)⟩)

/-- A region that draws its order: 'M' the operations that touch memory, 'al' the loads to be looked at over other memories also. -/
theorem T_drawS {id : Nat} {σ : St} (M : List Nat) (al : List (Nat × Nat)) (hmix : P.follows .mixedOrders = true) (hchk : (drawOk ops M && alOk ops M al) = true)
    (h : wpD P WG M al Q 0 [] ops.toList σ [(0, σ.tab, σ.nx)] []) : T P WG (.region id ops true) σ Q := by
  simp only [Bool.and_eq_true] at hchk
  obtain ⟨S, u, AF, MF, hS, _, hm, hst, hag, hQ⟩ := wpD_ext (ops := ops) ops.toList 0 [] σ _ _ (fun g d hg => by simp [aget] at hg) (fun k => by simp) h
  subst hS
  refine draw_main S u M AF MF (drawOk_spec hchk.1) al hchk.2 hmix (hm _ List.mem_cons_self) (fun q o ho => hst q o (Nat.zero_le _) ho) hag ?_
  simpa using hQ

theorem wpD_nil {M : List Nat} {al : List (Nat × Nat)} (q : Nat) (ds : Met) (σ : St) (mems : List MemAt) (again : List Again) : wpD P WG M al Q q ds [] σ mems again = (againAll P al mems again ∧ Q .normal σ) := rfl
theorem wpD_cons {M : List Nat} {al : List (Nat × Nat)} (q : Nat) (ds : Met) (o : Oper) (l : List Oper) (σ : St) (mems : List MemAt) (again : List Again) :
    wpD P WG M al Q q ds (o :: l) σ mems again = finD P WG (inM M q) q ds o σ (stepV P ds o σ) mems again (wpD P WG M al Q (q + 1) ((q, o.dst) :: ds) l) := rfl
theorem finD_pure {isM : Bool} {q : Nat} {ds : Met} {o : Oper} {σ : St} {mems : List MemAt} {again : List Again} {K : St → List MemAt → List Again → Prop} {c : Bool} {v : V} {side : Prop} :
    finD P WG isM q ds o σ (some (.pure c v side)) mems again K = (isM = false ∧ side ∧ dstOk σ o.dst ∧ K (stP σ o (uV o c v) σ.tab σ.nx) mems (if isLoad o.op then (q, ds, o, σ, c, v) :: again else again)) := rfl
theorem finD_call {q : Nat} {ds : Met} {o : Oper} {σ : St} {mems : List MemAt} {again : List Again} {K : St → List MemAt → List Again → Prop} {c : Bool} {side : Prop} {g : FuncId} {vs : List V} :
    finD P WG false q ds o σ (some (.call c side g vs)) mems again K = (side ∧ dstOk σ o.dst ∧ ∃ r, (c = true → FVv P WG g vs r) ∧ K (stP σ o (uV o c r) σ.tab σ.nx) mems again) := rfl
theorem finD_callM {q : Nat} {ds : Met} {o : Oper} {σ : St} {mems : List MemAt} {again : List Again} {K : St → List MemAt → List Again → Prop} {c : Bool} {side : Prop} {g : FuncId} {vs : List V} :
    finD P WG true q ds o σ (some (.call c side g vs)) mems again K = (side ∧ dstOk σ o.dst ∧ c = true ∧ ∃ v tab nx, CallT P WG g vs σ.tab σ.nx (fun r t n => r = v ∧ t = tab ∧ n = nx) noP ∧ K (stP σ o (uV o true v) tab nx) ((q + 1, tab, nx) :: mems) again) := rfl
theorem finD_mem {isM : Bool} {q : Nat} {ds : Met} {o : Oper} {σ : St} {mems : List MemAt} {again : List Again} {K : St → List MemAt → List Again → Prop} {v : Option V} {tab : Tab} {nx : Nat} {side : Prop} :
    finD P WG isM q ds o σ (some (.mem v tab nx side)) mems again K = (isM = true ∧ side ∧ dstOk σ o.dst ∧ (v = none → o.dst = none) ∧ K (stP σ o (v.getD .zc) tab nx) ((q + 1, tab, nx) :: mems) again) := rfl

end
end Go.Gp
