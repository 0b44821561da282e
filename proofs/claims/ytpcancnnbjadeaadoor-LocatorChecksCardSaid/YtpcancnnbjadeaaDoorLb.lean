/-
  Functions of the library, as contracts on data.
-/
import Derived.Test.YtpcancnnbjadeaaDoorGpV
import Derived.Test.YtpcancnnbjadeaaDoorShelf
import Derived.Lib.SplitLaws
import Derived.Lib.AppendIntMem
set_option linter.unusedSimpArgs false
set_option linter.unusedVariables false
namespace Go.Proofs.YtpcancnnbjadeaaDoor
open Go Go.Gp Go.RowKit

theorem var_keep {P : Program} {WG w : World} {n : String} {cs : Array Value} (hb : Below WG.heap.size WG w) (h : WG.var? P n = some cs) : w.var? P n = some cs := by
  unfold World.var? at h ⊢
  cases hg : P.globalNamed n with
  | none => rw [hg] at h; cases h
  | some g =>
    rw [hg] at h
    simp only [Option.bind_some] at h ⊢
    cases ho : WG.heap[g]? with
    | none => rw [ho] at h; cases h
    | some o =>
      have hlt : g < WG.heap.size := (Array.getElem?_eq_some_iff.1 ho).1
      rw [hb.block g hlt, ho]
      rw [ho] at h; exact h
theorem cell_keep {WG w : World} {b o : Nat} {x : Value} (hb : Below WG.heap.size WG w) (h : WG.cell? ⟨b, o, none⟩ = some x) : w.cell? ⟨b, o, none⟩ = some x := by
  rcases Nat.lt_or_ge b WG.heap.size with hlt | hge
  · rw [hb.cell (p := ⟨b, o, none⟩) hlt]; exact h
  · exfalso
    unfold World.cell? at h
    rw [Array.getElem?_eq_none (by simpa using hge)] at h
    simp at h

/-- What the tables and variables of the library hold when the call begins. -/
structure GW (WG : World) : Prop where
  maxlen : ∃ m, WG.cell? ⟨0, 0, none⟩ = some (.int .i64 m)
  pow10 : Lib.TabIs Tryd.prog WG "internal/strconv.uint64pow10" .u64 Lib.pow10Tab

theorem hasPrefix_fv (WG : World) (s p : ByteArray) : FV Tryd.prog WG 53 [.v (.string s), .v (.string p)] (vB (Lib.hasPrefix s.data.toList p.data.toList)) := by
  refine FV.of_calls rfl (fun w ok ms hb _ hsz hms => ?_)
  obtain ⟨a, b, rfl, h1, h2⟩ := args_two hsz hms
  rw [h1.flat, h2.flat]
  exact (Tryd.strings_HasPrefix s p w).mono fun e w' ⟨h1, h2⟩ => ⟨_, h1, by subst h2; exact Below.refl _ _, fun _ _ _ => .p (.v rfl)⟩

theorem hasSuffix_fv (WG : World) (s p : ByteArray) (hs : s.size ≤ 9223372036854775807) : FV Tryd.prog WG 54 [.v (.string s), .v (.string p)] (vB (Lib.hasSuffix s.data.toList p.data.toList)) := by
  refine FV.of_calls rfl (fun w ok ms hb _ hsz hms => ?_)
  obtain ⟨a, b, rfl, h1, h2⟩ := args_two hsz hms
  rw [h1.flat, h2.flat]
  exact (Tryd.strings_HasSuffix s p w hs).mono fun e w' ⟨h1, h2⟩ => ⟨_, h1, by subst h2; exact Below.refl _ _, fun _ _ _ => .p (.v rfl)⟩

theorem itoa_fv (WG : World) (g : GW WG) (n : Int) (h0 : -9223372036854775808 ≤ n) (h1 : n ≤ 9223372036854775807) : FV Tryd.prog WG 49 [.v (.int .i64 n)] (vS ⟨(Lib.itoa n).toArray⟩) := by
  refine FV.of_calls rfl (fun w ok ms hb _ hsz hms => ?_)
  rw [args_one hsz hms]
  refine (Tryd.strconv_Itoa n h0 h1 w (var_keep hb g.pow10)).mono fun e w' ⟨h1, k, os, h2⟩ => ⟨_, h1, ?_, fun _ _ _ => .p (.v rfl)⟩
  subst h2
  exact Lib.below_grow _ w (Nat.le_refl _) k os

theorem split_fv (WG : World) (g : GW WG) (s sep : ByteArray) (hs : s.size < 4294967281) (h1 : 1 ≤ sep.size) : FV Tryd.prog WG 52 [.v (.string s), .v (.string sep)] (.p (.sl 1 ((Lib.splitB sep 0 (Lib.countB s sep) s).map pS))) := by
  refine FV.of_calls rfl (fun w ok ms hb _ hsz hms => ?_)
  obtain ⟨a, b, rfl, ha, hbb⟩ := args_two hsz hms
  rw [ha.flat, hbb.flat]
  obtain ⟨m, hm⟩ := g.maxlen
  refine (Tryd.strings_Split s sep m w hs (cell_keep hb hm) h1).mono fun e w' ⟨he, hw⟩ => ⟨_, he, ?_, fun ok' _ hnew => .p ?_⟩
  · subst hw; exact (Below.refl _ _).alloc (Nat.le_refl _) _
  · subst hw
    have hlen := Lib.splitB_all sep h1 0 _ s rfl
    generalize Lib.splitB sep 0 (Lib.countB s sep) s = xs at hlen hnew ⊢
    have hblk : (w.alloc (.cells (xs.map Value.string).toArray 9)).heap[w.heap.size]? = some (.cells (xs.map Value.string).toArray 9 (0, 0)) := by
      show (w.heap.push _)[w.heap.size]? = _
      simp
    refine .sl (fun k => .string (xs.getD k ⟨#[]⟩)) (by simp [hlen]) (hnew _ (Nat.le_refl _) (by simp)) (Nat.le_refl _) (fun k hk => ?_) (fun i x hx => ?_) (fun i k x y hx hy => ?_) (fun i k x y hx hy => ?_)
    · have hk' : k < xs.length := by omega
      rw [cell_row hblk]
      simp [hk', List.getD]
    · simp only [List.getElem?_map] at hx
      cases hq : xs[i]? with
      | none => simp [hq] at hx
      | some b => simp [hq] at hx; subst hx; rfl
    · simp only [List.getElem?_map] at hx
      cases hq : xs[i]? with
      | none => simp [hq] at hx
      | some b =>
        simp [hq] at hx; subst hx
        rcases k with _ | k
        · simp [PV.cells] at hy; subst hy; rfl
        · simp [PV.cells] at hy
    · simp only [List.getElem?_map] at hx
      cases hq : xs[i]? with
      | none => simp [hq] at hx
      | some b =>
        simp [hq] at hx; subst hx
        rcases k with _ | k
        · simp [PV.cells] at hy; subst hy
          simp only [Nat.mul_one, Nat.add_zero, List.getD, hq, Option.getD_some]
          exact .v rfl
        · simp [PV.cells] at hy

theorem strs_get {w : World} {ok : Nat → Prop} {B o s : Nat} {xs : List ByteArray} {f : Nat → Value} {n : Nat} (hn : n = (xs.map pS).length)
    (hcell : ∀ k, k < n * 1 → w.cell? ⟨B, o + k, none⟩ = some (f k)) (hrel : ∀ (i k : Nat) x y, (xs.map pS)[i]? = some x → x.cells[k]? = some y → PR w ok y (f (i * 1 + k))) : ∀ (j : Nat) x, xs[j]? = some x → w.cell? ⟨B, o + j, none⟩ = some (.string x) := by
  intro j x hx
  have hj := (List.getElem?_eq_some_iff.1 hx).1
  rw [hcell j (by rw [hn]; simpa using hj)]
  have := hrel j 0 (pS x) (pS x) (by simp [hx]) rfl
  rw [Nat.mul_one, Nat.add_zero] at this
  rw [this.flat]

theorem join_fv (WG : World) (xs : List ByteArray) (sep : ByteArray) (hN : xs.length ≤ 140737488355328) (hlen : (Lib.join (xs.map (·.data.toList)) sep.data.toList).length ≤ 140737488355328) :
    FV Tryd.prog WG 50 [.sl 1 (xs.map pS), .v (.string sep)] (vS ⟨(Lib.join (xs.map (·.data.toList)) sep.data.toList).toArray⟩) := by
  refine FV.of_calls rfl (fun w ok ms hb hok hsz hms => ?_)
  obtain ⟨a, b, rfl, ha, hbb⟩ := args_two hsz hms
  rw [hbb.flat]
  generalize hps : xs.map pS = ps at ha
  cases ha with
  | nil =>
    have : xs = [] := List.map_eq_nil_iff.1 hps
    subst this
    exact (Tryd.strings_Join_none _ _ sep w).mono fun e w' ⟨h1, h2⟩ => ⟨_, h1, by subst h2; exact Below.refl _ _, fun _ _ _ => .p (.v (by rfl))⟩
  | sl f hn hkb hc hcell hl hone hrel =>
    subst hps
    have hn' := hn
    rw [List.length_map] at hn'
    subst hn'
    exact (Tryd.strings_Join _ _ _ xs sep w (strs_get (s := 1) hn hcell hrel) (hok _ hkb) hN hc hlen).mono fun e w' ⟨h1, h2⟩ => ⟨_, h1, h2, fun _ _ _ => .p (.v rfl)⟩

end Go.Proofs.YtpcancnnbjadeaaDoor
