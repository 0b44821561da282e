/-
  Functions of the library, as contracts on data.
  Small functions of the reference.
  Writing: numerals, locators.
  The reference's host and Check.
  The reference's Check and Text.
  Copies.
  Functions of locator.
  locator.host.
  locator.write.
  Pure: the two readings of a host agree.
  Pure: the program's host is the reference's.
  locator.Check, locator.Text.
-/
import Derived.Test.YtgekglfmianoeaaGreatDoorKD
import Derived.Test.YtgekglfmianoeaaGreatDoorKC
import Derived.Test.YtgekglfmianoeaaGreatDoorShelf
import Derived.Lib.SplitLaws
import Derived.Lib.AppendIntMem
import Derived.Lib.ItoaNum
set_option linter.unusedSimpArgs false
set_option linter.unusedVariables false
set_option maxRecDepth 20000
namespace Go.Proofs.YtgekglfmianoeaaGreatDoor
open Go Go.Gp
def letterB (c : Int) : Bool := (decide (97 ≤ c) && decide (c ≤ 122)) || (decide (48 ≤ c) && decide (c ≤ 57))

def partB (c : Int) : Bool := letterB c || (decide (65 ≤ c) && decide (c ≤ 90)) || decide (c = 45) || decide (c = 95) || decide (c = 46)
def nameB (s : ByteArray) : Bool := decide (1 ≤ s.size ∧ s.size ≤ 40) && !strEq s ⟨#[46]⟩ && !strEq s ⟨#[46, 46]⟩ && decide (∀ k, k < s.size → partB ((bAt s k).toNat) = true)

def classOf (c : Nat) : Nat := if (97 ≤ c ∧ c ≤ 122) ∨ (48 ≤ c ∧ c ≤ 57) then 1 else if 65 ≤ c ∧ c ≤ 90 then 2 else if c = 45 then 3 else if c = 95 then 4 else if c = 46 then 5 else 0
def classV : List PV := (List.range 256).map fun c => .v (.int .u8 (classOf c))

def classZ : List V := List.replicate 256 (V.p (.v (.int .u8 0)))

set_option maxHeartbeats 4000000 in
theorem class_fv (WG : World) : FV Tryz.prog WG 204 [] (.p (.agg classV)) := by
  refine CallT.pure rfl (CallT_fn Tryz.func204 (rs := [.cell 0 251]) (n := 2) rfl rfl (Nat.le_of_ble_eq_true rfl) rfl ?_)
  simp only [wpC_seq, wpC_region, wpR_cons, wpR_nil, enter', enumFrom, List.map_nil]
  generalize hE : stepE Tryz.prog [] _ _ = r
  have hr : r = some (.mem true ⟨[(0, .ref 0 0)], [(0, .box classZ)], 1, 0, 2⟩ ⟨[], [], 0, 0, 2⟩ ((true = true → true = true ∧ True) ∧ 0 < 2 ∧ (some (V.ref 0 0) = none → some 0 = (none : Option Nat)))) := by rw [← hE]; kernel_rfl
  subst hr
  rw [fin_mem]
  refine ⟨⟨fun _ => ⟨rfl, trivial⟩, Nat.zero_lt_two, fun h => by cases h⟩, fun _ => ?_, fun h => by cases h⟩
  simp only [wpR_nil, thenQ_normal, wpC_seq, wpC_region, wpR_cons]
  generalize hE : stepE Tryz.prog [] _ _ = r
  have hr : r = some (.pure ⟨[(0, .ref 0 0), (1, .p (.agg classV))], [(0, .box classZ)], 1, 0, 2⟩ ((true = true → true = true ∧ True) ∧ 1 < 2)) := by rw [← hE]; kernel_rfl
  subst hr
  rw [fin_pure]
  refine ⟨⟨fun _ => ⟨rfl, trivial⟩, by decide⟩, ?_⟩
  rw [wpR_cons]
  generalize hE : stepE Tryz.prog _ _ _ = r
  have hr : r = some (.mem true ⟨[(0, .ref 0 0), (1, .p (.agg classV))], [(0, .box (classV.map .p))], 1, 0, 2⟩ ⟨[(0, .ref 0 0), (1, .p (.agg classV))], [(0, .box classZ)], 1, 0, 2⟩ ((true = true → true = true ∧ (V.cells (.p (.agg classV))).length = 256 ∧ 0 + 256 ≤ classZ.length) ∧ True ∧ ((none : Option V) = none → (none : Option Nat) = none))) := by rw [← hE]; kernel_rfl
  subst hr
  rw [fin_mem]
  refine ⟨⟨fun _ => ⟨rfl, by kernel_rfl, Nat.le_of_ble_eq_true (by kernel_rfl)⟩, trivial, fun _ => rfl⟩, fun _ => ?_, fun h => by cases h⟩
  simp only [wpR_nil, thenQ_normal, wpC_ret, bodyQ'_ret, resK]
  generalize hE : resV Tryz.prog _ _ = r
  have hr : r = some (.p (.agg classV)) := by rw [← hE]; kernel_rfl
  subst hr
  rfl

theorem class_get (c : Nat) (h : c < 256) : (classV.map V.p).getD c (.p (.v .nilFunc)) = .p (.v (.int .u8 (classOf c))) := by
  have : (classV.map V.p)[c]? = some (.p (.v (.int .u8 (classOf c)))) := by simp [classV, h]
  simp only [List.getD_eq_getElem?_getD, this, Option.getD_some]
theorem class_len : classV.length = 256 := by simp [classV]

theorem partB_class (c : Nat) : partB c = true ↔ classOf c ≠ 0 := by
  simp only [partB, letterB, classOf, Bool.or_eq_true, Bool.and_eq_true, decide_eq_true_eq]
  by_cases h1 : (97 ≤ c ∧ c ≤ 122) ∨ (48 ≤ c ∧ c ≤ 57)
  · rw [if_pos h1]; exact ⟨fun _ => by decide, fun _ => by omega⟩
  rw [if_neg h1]
  by_cases h2 : 65 ≤ c ∧ c ≤ 90
  · rw [if_pos h2]; exact ⟨fun _ => by decide, fun _ => by omega⟩
  rw [if_neg h2]
  by_cases h3 : c = 45
  · rw [if_pos h3]; exact ⟨fun _ => by decide, fun _ => by omega⟩
  rw [if_neg h3]
  by_cases h4 : c = 95
  · rw [if_pos h4]; exact ⟨fun _ => by decide, fun _ => by omega⟩
  rw [if_neg h4]
  by_cases h5 : c = 46
  · rw [if_pos h5]; exact ⟨fun _ => by decide, fun _ => by omega⟩
  rw [if_neg h5]
  exact ⟨fun h => by omega, fun h => absurd rfl h⟩

theorem nameB_false {s : ByteArray} {i : Nat} (h : i < s.size) (hp : partB ((bAt s i).toNat) = false) : nameB s = false := by
  have : decide (∀ k, k < s.size → partB ((bAt s k).toNat) = true) = false := decide_eq_false fun h' => by rw [h' i h] at hp; cases hp
  simp only [nameB, this, Bool.and_false]

set_option maxHeartbeats 4000000 in
theorem lname_fv (WG : World) (s : ByteArray) : FV Tryz.prog WG 181 [.v (.string s)] (vB (nameB s)) := by
  refine CallT.pure rfl (CallT_fn Tryz.func181 (rs := [.tmp 2]) (n := 32) rfl rfl (Nat.le_of_ble_eq_true rfl) rfl ?_)
  simp only [push_cast, reduceIte, Nat.reduceMul, Nat.reduceEqDiff, Nat.reduceAdd, Nat.reduceLT, Nat.reduceLeDiff, reduceCtorEq, Int.reduceToNat]
  refine ⟨fun h => ?_, fun h => ?_⟩
  · simp only [Bool.or_eq_true, decide_eq_true_eq] at h
    rcases h with ((h | h) | h) | h <;> simp [nameB, h] <;> omega
  · simp only [Bool.or_eq_false_iff, decide_eq_false_iff_not] at h
    refine T_loopS (fun i : Nat => ⟨[(0, vS s), (21, vI s.size), (22, vI i)], [], 0, 0, 32⟩) (fun i => i ≤ s.size ∧ ∀ k, k < i → partB ((bAt s k).toNat) = true) (fun i => s.size - i) 0 ⟨Nat.zero_le _, fun k hk => absurd hk (Nat.not_lt_zero k)⟩ (by simp [Le, subE, aget]) (fun i hi => ?_)
    simp only [push_cast, reduceIte, Nat.reduceMul, Nat.reduceEqDiff, Nat.reduceAdd, Nat.reduceLT, Nat.reduceLeDiff, reduceCtorEq, Int.reduceToNat]
    refine ⟨fun h1 => T_drawS [] [] mixed (by kernel_rfl) ?_, fun h1 => ?_⟩
    · simp only [push_cast, reduceIte, Nat.reduceMul, Nat.reduceEqDiff, Nat.reduceAdd, Nat.reduceLT, Nat.reduceLeDiff, reduceCtorEq, Int.reduceToNat]
      have h2 : i < s.size := by simpa using h1
      have h3 := (bAt s i).toNat_lt
      refine ⟨.p (.agg classV), (class_fv WG).v rfl, by omega, ?_⟩
      simp only [push_cast, reduceIte, Nat.reduceMul, Nat.reduceEqDiff, Nat.reduceAdd, Nat.reduceLT, Nat.reduceLeDiff, reduceCtorEq, Int.reduceToNat, class_get _ h3, class_len]
      have hp := partB_class (bAt s i).toNat
      refine ⟨by omega, fun h4 => ?_, fun h4 => ⟨i + 1, ⟨by omega, fun k hk => ?_⟩, by omega, ?_⟩⟩
      · exact (nameB_false h2 (by cases hb : partB (bAt s i).toNat with | false => rfl | true => have := hp.1 hb; simp at h4; exact absurd h4 this)).symm
      · by_cases e : k = i
        · subst e; simp at h4; exact hp.2 h4
        · exact hi.2 k (by omega)
      · simp [Le, subE, aget, wrap_i64 (i + 1) (by omega) (by omega)]
    · simp at h1
      have : i = s.size := by omega
      subst this
      simp [nameB, h]
      exact ⟨by omega, hi.2⟩
end Go.Proofs.YtgekglfmianoeaaGreatDoor

namespace Go.Proofs.YtgekglfmianoeaaGreatDoor
open Go Go.Gp Go.RowKit
theorem var_keep {P : Program} {WG w : World} {n : String} {cs : Array Value} (hb : Below WG.heap.size WG w) (h : WG.var? P n = some cs) : w.var? P n = some cs := by
  unfold World.var? at h ⊢
  cases hg : P.globalNamed n with
  | none => rw [hg] at h; cases h
  | some g =>
    rw [hg] at h
    simp only [Option.bind_some] at h ⊢
    cases ho : WG.heap[g]? with
    | none => rw [ho] at h; cases h
    | some o =>
      have hlt : g < WG.heap.size := (Array.getElem?_eq_some_iff.1 ho).1
      rw [hb.block g hlt, ho]
      rw [ho] at h; exact h
theorem cell_keep {WG w : World} {b o : Nat} {x : Value} (hb : Below WG.heap.size WG w) (h : WG.cell? ⟨b, o, none⟩ = some x) : w.cell? ⟨b, o, none⟩ = some x := by
  rcases Nat.lt_or_ge b WG.heap.size with hlt | hge
  · rw [hb.cell (p := ⟨b, o, none⟩) hlt]; exact h
  · exfalso
    unfold World.cell? at h
    rw [Array.getElem?_eq_none (by simpa using hge)] at h
    simp at h

structure GW (WG : World) : Prop where
  maxlen : ∃ m, WG.cell? ⟨0, 0, none⟩ = some (.int .i64 m)
  pow10 : Lib.TabIs Tryz.prog WG "internal/strconv.uint64pow10" .u64 Lib.pow10Tab

theorem hasPrefix_fv (WG : World) (s p : ByteArray) : FV Tryz.prog WG 202 [.v (.string s), .v (.string p)] (vB (Lib.hasPrefix s.data.toList p.data.toList)) := by
  refine FV.of_calls rfl (fun w ok ms hb _ hsz hms => ?_)
  obtain ⟨a, b, rfl, h1, h2⟩ := args_two hsz hms
  rw [h1.flat, h2.flat]
  exact (Tryz.strings_HasPrefix s p w).mono fun e w' ⟨h1, h2⟩ => ⟨_, h1, by subst h2; exact Below.refl _ _, fun _ _ _ => .p (.v rfl)⟩

theorem hasSuffix_fv (WG : World) (s p : ByteArray) (hs : s.size ≤ 9223372036854775807) : FV Tryz.prog WG 203 [.v (.string s), .v (.string p)] (vB (Lib.hasSuffix s.data.toList p.data.toList)) := by
  refine FV.of_calls rfl (fun w ok ms hb _ hsz hms => ?_)
  obtain ⟨a, b, rfl, h1, h2⟩ := args_two hsz hms
  rw [h1.flat, h2.flat]
  exact (Tryz.strings_HasSuffix s p w hs).mono fun e w' ⟨h1, h2⟩ => ⟨_, h1, by subst h2; exact Below.refl _ _, fun _ _ _ => .p (.v rfl)⟩

theorem itoa_fv (WG : World) (g : GW WG) (n : Int) (h0 : -9223372036854775808 ≤ n) (h1 : n ≤ 9223372036854775807) : FV Tryz.prog WG 182 [.v (.int .i64 n)] (vS ⟨(Lib.itoa n).toArray⟩) := by
  refine FV.of_calls rfl (fun w ok ms hb _ hsz hms => ?_)
  rw [args_one hsz hms]
  refine (Tryz.strconv_Itoa n h0 h1 w (var_keep hb g.pow10)).mono fun e w' ⟨h1, k, os, h2⟩ => ⟨_, h1, ?_, fun _ _ _ => .p (.v rfl)⟩
  subst h2
  exact Lib.below_grow _ w (Nat.le_refl _) k os

theorem split_fv (WG : World) (g : GW WG) (s sep : ByteArray) (hs : s.size < 4294967281) (h1 : 1 ≤ sep.size) : FV Tryz.prog WG 201 [.v (.string s), .v (.string sep)] (.p (.sl 1 ((Lib.splitB sep 0 (Lib.countB s sep) s).map pS))) := by
  refine FV.of_calls rfl (fun w ok ms hb _ hsz hms => ?_)
  obtain ⟨a, b, rfl, ha, hbb⟩ := args_two hsz hms
  rw [ha.flat, hbb.flat]
  obtain ⟨m, hm⟩ := g.maxlen
  refine (Tryz.strings_Split s sep m w hs (cell_keep hb hm) h1).mono fun e w' ⟨he, hw⟩ => ⟨_, he, ?_, fun ok' _ hnew => .p ?_⟩
  · subst hw; exact (Below.refl _ _).alloc (Nat.le_refl _) _
  · subst hw
    have hlen := Lib.splitB_all sep h1 0 _ s rfl
    generalize Lib.splitB sep 0 (Lib.countB s sep) s = xs at hlen hnew ⊢
    have hblk : (w.alloc (.cells (xs.map Value.string).toArray 9)).heap[w.heap.size]? = some (.cells (xs.map Value.string).toArray 9 (0, 0)) := by
      show (w.heap.push _)[w.heap.size]? = _
      simp
    refine .sl (fun k => .string (xs.getD k ⟨#[]⟩)) (by simp [hlen]) ⟨hnew _ (Nat.le_refl _) (by simp), _, _, _, hblk⟩ (Nat.le_refl _) (fun k hk => ?_) (fun i x hx => ?_) (fun i k x y hx hy => ?_) (fun i k x y hx hy => ?_)
    · have hk' : k < xs.length := by omega
      rw [cell_row hblk]
      simp [hk', List.getD]
    · simp only [List.getElem?_map] at hx
      cases hq : xs[i]? with
      | none => simp [hq] at hx
      | some b => simp [hq] at hx; subst hx; rfl
    · simp only [List.getElem?_map] at hx
      cases hq : xs[i]? with
      | none => simp [hq] at hx
      | some b =>
        simp [hq] at hx; subst hx
        rcases k with _ | k
        · simp [PV.cells] at hy; subst hy; rfl
        · simp [PV.cells] at hy
    · simp only [List.getElem?_map] at hx
      cases hq : xs[i]? with
      | none => simp [hq] at hx
      | some b =>
        simp [hq] at hx; subst hx
        rcases k with _ | k
        · simp [PV.cells] at hy; subst hy
          simp only [Nat.mul_one, Nat.add_zero, List.getD, hq, Option.getD_some]
          exact .v rfl
        · simp [PV.cells] at hy

theorem strs_get {w : World} {ok : Nat → Prop} {B o s : Nat} {xs : List ByteArray} {f : Nat → Value} {n : Nat} (hn : n = (xs.map pS).length)
    (hcell : ∀ k, k < n * 1 → w.cell? ⟨B, o + k, none⟩ = some (f k)) (hrel : ∀ (i k : Nat) x y, (xs.map pS)[i]? = some x → x.cells[k]? = some y → PR w ok y (f (i * 1 + k))) : ∀ (j : Nat) x, xs[j]? = some x → w.cell? ⟨B, o + j, none⟩ = some (.string x) := by
  intro j x hx
  have hj := (List.getElem?_eq_some_iff.1 hx).1
  rw [hcell j (by rw [hn]; simpa using hj)]
  have := hrel j 0 (pS x) (pS x) (by simp [hx]) rfl
  rw [Nat.mul_one, Nat.add_zero] at this
  rw [this.flat]

theorem join_fv (WG : World) (xs : List ByteArray) (sep : ByteArray) (hN : xs.length ≤ 140737488355328) (hlen : (Lib.join (xs.map (·.data.toList)) sep.data.toList).length ≤ 140737488355328) :
    FV Tryz.prog WG 183 [.sl 1 (xs.map pS), .v (.string sep)] (vS ⟨(Lib.join (xs.map (·.data.toList)) sep.data.toList).toArray⟩) := by
  refine FV.of_calls rfl (fun w ok ms hb hok hsz hms => ?_)
  obtain ⟨a, b, rfl, ha, hbb⟩ := args_two hsz hms
  rw [hbb.flat]
  generalize hps : xs.map pS = ps at ha
  cases ha with
  | nil =>
    have : xs = [] := List.map_eq_nil_iff.1 hps
    subst this
    exact (Tryz.strings_Join_none _ _ sep w).mono fun e w' ⟨h1, h2⟩ => ⟨_, h1, by subst h2; exact Below.refl _ _, fun _ _ _ => .p (.v (by rfl))⟩
  | sl f hn hkb hc hcell hl hone hrel =>
    subst hps
    have hn' := hn
    rw [List.length_map] at hn'
    subst hn'
    exact (Tryz.strings_Join _ _ _ xs sep w (strs_get (s := 1) hn hcell hrel) (hok _ hkb.1) hN hc hlen).mono fun e w' ⟨h1, h2⟩ => ⟨_, h1, h2, fun _ _ _ => .p (.v rfl)⟩

end Go.Proofs.YtgekglfmianoeaaGreatDoor

namespace Go.Proofs.YtgekglfmianoeaaGreatDoor
open Go Go.Gp
structure Locator where
  scheme : Int
  host : ByteArray
  port : Int
  parts : List ByteArray
  dir : Bool
  deriving DecidableEq
def locP (l : Locator) : PV := .agg [pU8 l.scheme, pS l.host, pI l.port, .sl 1 (l.parts.map pS), pB l.dir]
def locC (l : Locator) : List V := [vU8 l.scheme, vS l.host, vI l.port, .p (.sl 1 (l.parts.map pS)), vB l.dir]

def usualI (s : Int) : Int := if s = 1 then 873 else 443
theorem strEq_iff (a b : ByteArray) : strEq a b = true ↔ a = b := by
  simp only [strEq, ByteArray.toList_eq, beq_iff_eq]
  refine ⟨fun h => ?_, fun h => by rw [h]⟩
  obtain ⟨⟨x⟩⟩ := a; obtain ⟨⟨y⟩⟩ := b
  simpa using h
theorem strEq_false (a b : ByteArray) : strEq a b = false ↔ a ≠ b := by
  rw [← Bool.not_eq_true, strEq_iff]

end Go.Proofs.YtgekglfmianoeaaGreatDoor

namespace Go.Proofs.YtgekglfmianoeaaGreatDoor
open Go Go.Gp
theorem dec_len (u : Nat) : (Lib.decDigits u).length ≤ u + 1 := by
  induction u using Nat.strongRecOn with
  | _ u ih =>
    rw [Lib.decDigits]
    split
    · simp
    · have := ih (u / 10) (by omega)
      simp only [List.length_append, List.length_cons, List.length_nil]; omega

structure OkL (l : Locator) : Prop where
  parts : l.parts.length ≤ 300
  host : l.host.size ≤ 500
  part : ∀ (i : Nat) p, l.parts[i]? = some p → p.size ≤ 500
def bsl' : ByteArray := ⟨#[47]⟩
def wrParts (s : ByteArray) : List ByteArray → ByteArray
  | [] => s
  | p :: r => wrParts (s ++ bsl' ++ p) r
def wr0 (l : Locator) : ByteArray := (if l.scheme = 1 then ⟨#[114, 115, 121, 110, 99, 58, 47, 47]⟩ else ⟨#[104, 116, 116, 112, 115, 58, 47, 47]⟩) ++ l.host
def wr1 (l : Locator) : ByteArray := if l.port = 0 then wr0 l else wr0 l ++ ⟨#[58]⟩ ++ ⟨(Lib.decDigits l.port.toNat).toArray⟩
def refW (l : Locator) : ByteArray := if (l.dir || decide (l.parts.length = 0)) = true then wrParts (wr1 l) l.parts ++ bsl' else wrParts (wr1 l) l.parts
theorem wr0_size (l : Locator) (h : OkL l) : (wr0 l).size ≤ 508 := by
  have := h.host
  unfold wr0
  split <;> simp only [ByteArray.size_append]
  · have : (⟨#[114, 115, 121, 110, 99, 58, 47, 47]⟩ : ByteArray).size = 8 := rfl
    omega
  · have : (⟨#[104, 116, 116, 112, 115, 58, 47, 47]⟩ : ByteArray).size = 8 := rfl
    omega

end Go.Proofs.YtgekglfmianoeaaGreatDoor

namespace Go.Proofs.YtgekglfmianoeaaGreatDoor
open Go Go.Gp
def cAt (s : ByteArray) (i : Int) : Int := ((bAt s i.toNat).toNat : Int)
def firstB (s : ByteArray) (i : Nat) : Bool := decide ((i : Int) = 0) || decide (cAt s (i - 1) = 46)
def lastB (s : ByteArray) (i : Nat) : Bool := decide ((i : Int) = s.size - 1) || decide (cAt s (i + 1) = 46)
def hostBad (s : ByteArray) (i : Nat) : Bool :=
  (!letterB (cAt s i) && !decide (cAt s i = 45) && !decide (cAt s i = 46)) || (decide (cAt s i = 46) && (firstB s i || lastB s i)) || (decide (cAt s i = 45) && (firstB s i || lastB s i))
def hostB (s : ByteArray) : Bool := decide (1 ≤ s.size ∧ s.size ≤ 60) && decide (∀ i, i < s.size → hostBad s i = false)

end Go.Proofs.YtgekglfmianoeaaGreatDoor

namespace Go.Proofs.YtgekglfmianoeaaGreatDoor
open Go Go.Gp
def badB (l : Locator) : Bool := ((!decide (l.scheme = 1) && !decide (l.scheme = 2)) || !hostB l.host || decide (l.port < 0) || decide (65535 < l.port) || decide (l.port = usualI l.scheme) || (decide ((l.parts.length : Int) = 0) && !l.dir))
def checkI (l : Locator) : Int := if 10 < l.parts.length then 4 else if badB l then 8 else if l.parts.any (fun p => !nameB p) then 8 else if 200 < (refW l).size then 4 else 0

theorem check_port {l : Locator} (h : checkI l = 0) : 0 ≤ l.port ∧ l.port ≤ 65535 := by
  unfold checkI at h
  split at h
  · cases h
  · split at h
    · cases h
    · rename_i hb
      simp only [badB, Bool.or_eq_true, decide_eq_true_eq, not_or] at hb
      omega

end Go.Proofs.YtgekglfmianoeaaGreatDoor

namespace Go.Proofs.YtgekglfmianoeaaGreatDoor
open Go Go.Gp
end Go.Proofs.YtgekglfmianoeaaGreatDoor

namespace Go.Proofs.YtgekglfmianoeaaGreatDoor
open Go Go.Gp
set_option maxHeartbeats 8000000 in
theorem check1_fv (WG : World) (s : ByteArray) : FV Tryz.prog WG 180 [.v (.string s)] (vB (!nameB s)) := by
  refine CallT.pure rfl (CallT_fn Tryz.func180 (rs := [.tmp 2]) (n := 6) rfl rfl (Nat.le_of_ble_eq_true rfl) rfl ?_)
  simp only [push_cast, reduceIte, Nat.reduceMul, Nat.reduceEqDiff, Nat.reduceAdd, Nat.reduceLT, Nat.reduceLeDiff, reduceCtorEq, Int.reduceToNat]
  refine (lname_fv WG s).call rfl ?_
  simp only [push_cast, reduceIte, Nat.reduceMul, Nat.reduceEqDiff, Nat.reduceAdd, Nat.reduceLT, Nat.reduceLeDiff, reduceCtorEq, Int.reduceToNat]

def idxF (f : ByteArray → Bool) (xs : List ByteArray) : Int := match xs.findIdx? f with | some i => i | none => -1

set_option maxHeartbeats 8000000 in
theorem indexFunc_fv (WG : World) (xs : List ByteArray) (hx : xs.length < 1000000) : FV Tryz.prog WG 205 [.sl 1 (xs.map pS), .clo (.func 180) [] []] (vI (idxF (fun s => !nameB s) xs)) := by
  refine CallT.pure rfl (CallT_fn Tryz.func205 (rs := [.tmp 4]) (n := 19) rfl rfl (Nat.le_of_ble_eq_true rfl) rfl ?_)
  simp only [push_cast, reduceIte, Nat.reduceMul, Nat.reduceEqDiff, Nat.reduceAdd, Nat.reduceLT, Nat.reduceLeDiff, reduceCtorEq, Int.reduceToNat]
  refine T_loopS (fun i : Nat => ⟨[(0, .p (.sl 1 (xs.map pS))), (1, .p (.clo (.func 180) [] [])), (7, vI xs.length), (8, vI i)], [], 0, 0, 19⟩) (fun i => i ≤ xs.length ∧ ∀ k p, k < i → xs[k]? = some p → nameB p = true) (fun i => xs.length - i) 0 ⟨Nat.zero_le _, fun k p hk => absurd hk (Nat.not_lt_zero k)⟩ (by simp [Le, subE, aget]) (fun i hi => ?_)
  simp only [push_cast, reduceIte, Nat.reduceMul, Nat.reduceEqDiff, Nat.reduceAdd, Nat.reduceLT, Nat.reduceLeDiff, reduceCtorEq, Int.reduceToNat]
  refine ⟨fun h1 => ?_, fun h1 => ?_⟩
  · have h2 : i < xs.length := by simpa using h1
    have h3 : xs[i]? = some xs[i] := by simp [h2]
    generalize xs[i] = p at h3
    simp only [push_cast, reduceIte, Nat.reduceMul, Nat.reduceEqDiff, Nat.reduceAdd, Nat.reduceLT, Nat.reduceLeDiff, reduceCtorEq, Int.reduceToNat, Int.toNat_natCast, List.getElem?_map, h3, Option.map_some]
    refine ⟨by omega, ?_⟩
    refine (check1_fv WG p).call rfl ?_
    simp only [push_cast, reduceIte, Nat.reduceMul, Nat.reduceEqDiff, Nat.reduceAdd, Nat.reduceLT, Nat.reduceLeDiff, reduceCtorEq, Int.reduceToNat]
    have hp : xs[i] = p := by rw [List.getElem?_eq_getElem h2] at h3; exact Option.some.inj h3
    refine ⟨fun h4 => ?_, fun h4 => ⟨i + 1, ⟨by omega, fun k q hk hq => ?_⟩, by omega, ?_⟩⟩
    · have : xs.findIdx? (fun s => !nameB s) = some i := by
        rw [List.findIdx?_eq_some_iff_getElem]
        refine ⟨h2, by rw [hp]; exact h4, fun j hj => ?_⟩
        have := hi.2 j xs[j] hj (by simp)
        simp [this]
      simp only [idxF, this]
    · by_cases e : k = i
      · subst e; rw [h3] at hq; cases hq; simpa using h4
      · exact hi.2 k q (by omega) hq
    · simp [Le, subE, aget, wrap_i64 (i + 1) (by omega) (by omega)]
  · have h2 : ¬ i < xs.length := by simpa using h1
    have : xs.findIdx? (fun s => !nameB s) = none := by
      rw [List.findIdx?_eq_none_iff]
      intro q hq
      obtain ⟨k, hk⟩ := List.mem_iff_getElem?.1 hq
      have := hi.2 k q (by have := (List.getElem?_eq_some_iff.1 hk).1; omega) hk
      simp [this]
    simp only [idxF, this]

theorem idxF_ge (f : ByteArray → Bool) (xs : List ByteArray) : decide (0 ≤ idxF f xs) = xs.any f := by
  unfold idxF
  cases h : xs.findIdx? f with
  | none =>
    rw [List.findIdx?_eq_none_iff] at h
    have : xs.any f = false := List.any_eq_false.2 fun x hx => by rw [h x hx]; simp
    rw [this]; rfl
  | some i =>
    rw [List.findIdx?_eq_some_iff_getElem] at h
    obtain ⟨hlt, hf, _⟩ := h
    have : xs.any f = true := List.any_eq_true.2 ⟨xs[i], List.getElem_mem hlt, hf⟩
    rw [this]; exact decide_eq_true (Int.natCast_nonneg i)

set_option maxHeartbeats 8000000 in
theorem containsFunc_fv (WG : World) (xs : List ByteArray) (hx : xs.length < 1000000) : FV Tryz.prog WG 179 [.sl 1 (xs.map pS), .clo (.func 180) [] []] (vB (xs.any fun s => !nameB s)) := by
  refine CallT.pure rfl (CallT_fn Tryz.func179 (rs := [.tmp 4]) (n := 9) rfl rfl (Nat.le_of_ble_eq_true rfl) rfl ?_)
  simp only [push_cast, reduceIte, Nat.reduceMul, Nat.reduceEqDiff, Nat.reduceAdd, Nat.reduceLT, Nat.reduceLeDiff, reduceCtorEq, Int.reduceToNat]
  refine (indexFunc_fv WG xs hx).call rfl ?_
  simp only [push_cast, reduceIte, Nat.reduceMul, Nat.reduceEqDiff, Nat.reduceAdd, Nat.reduceLT, Nat.reduceLeDiff, reduceCtorEq, Int.reduceToNat, idxF_ge]
end Go.Proofs.YtgekglfmianoeaaGreatDoor

namespace Go.Proofs.YtgekglfmianoeaaGreatDoor
open Go Go.Gp
def dotS : ByteArray := ⟨#[46]⟩
def labelsOf (s : ByteArray) : List ByteArray := Lib.splitB dotS 0 (Lib.countB s dotS) s
def lowB (c : Nat) : Bool := decide (classOf c = 1 ∨ classOf c = 3)
def labelB (s : ByteArray) : Bool := !strEq s ⟨#[]⟩ && !Lib.hasPrefix s.data.toList [45] && !Lib.hasSuffix s.data.toList [45] && decide (∀ i, i < s.size → lowB (bAt s i).toNat = true)
def lhostB (s : ByteArray) : Bool := decide (1 ≤ s.size ∧ s.size ≤ 60) && (labelsOf s).all labelB

theorem split_le (sep : ByteArray) : ∀ (k : Nat) (s p : ByteArray), p ∈ Lib.splitB sep 0 k s → p.size ≤ s.size
  | 0, s, p, h => by
    simp only [Lib.splitB_zero, List.mem_singleton] at h; subst h; exact Nat.le_refl _
  | k + 1, s, p, h => by
    unfold Lib.splitB at h
    split at h
    · simp only [List.mem_singleton] at h; subst h; exact Nat.le_refl _
    · rcases List.mem_cons.1 h with rfl | h
      · simp only [ByteArray.size_extract]; omega
      · have := split_le sep k _ p h
        simp only [ByteArray.size_extract] at this; omega

set_option maxHeartbeats 8000000 in
theorem lhost_fv (WG : World) (g : GW WG) (s : ByteArray) : FV Tryz.prog WG 178 [.v (.string s)] (vB (lhostB s)) := by
  refine CallT.pure rfl (CallT_fn Tryz.func178 (rs := [.tmp 2]) (n := 50) rfl rfl (Nat.le_of_ble_eq_true rfl) rfl ?_)
  simp only [push_cast, reduceIte, Nat.reduceMul, Nat.reduceEqDiff, Nat.reduceAdd, Nat.reduceLT, Nat.reduceLeDiff, reduceCtorEq, Int.reduceToNat]
  refine ⟨fun h => ?_, fun h => ?_⟩
  · simp only [Bool.or_eq_true, decide_eq_true_eq] at h
    rcases h with h | h <;> simp [lhostB] <;> omega
  · simp only [Bool.or_eq_false_iff, decide_eq_false_iff_not] at h
    refine (split_fv WG g s ⟨#[46]⟩ (by omega) (Nat.le_refl 1)).call rfl ?_
    simp only [push_cast, reduceIte, Nat.reduceMul, Nat.reduceEqDiff, Nat.reduceAdd, Nat.reduceLT, Nat.reduceLeDiff, reduceCtorEq, Int.reduceToNat]
    have hlab : Lib.splitB ⟨#[46]⟩ 0 (Lib.countB s ⟨#[46]⟩) s = labelsOf s := rfl
    rw [hlab]
    have hlen : (labelsOf s).length ≤ 61 := by
      have h1 := Lib.splitB_all dotS (Nat.le_refl 1) 0 _ s rfl
      have h2 := Lib.countB_le dotS (Nat.le_refl 1) s.size s (Nat.le_refl _)
      unfold labelsOf; omega
    refine T_loopS (fun i : Nat => ⟨[(0, vS s), (16, .p (.sl 1 ((labelsOf s).map pS))), (17, vI (labelsOf s).length), (18, vI i)], [], 0, 0, 50⟩) (fun i => i ≤ (labelsOf s).length ∧ ∀ k p, k < i → (labelsOf s)[k]? = some p → labelB p = true) (fun i => (labelsOf s).length - i) 0 ⟨Nat.zero_le _, fun k p hk => absurd hk (Nat.not_lt_zero k)⟩ (by simp [Le, subE, aget]) (fun i hi => ?_)
    simp only [push_cast, reduceIte, Nat.reduceMul, Nat.reduceEqDiff, Nat.reduceAdd, Nat.reduceLT, Nat.reduceLeDiff, reduceCtorEq, Int.reduceToNat]
    refine ⟨fun h1 => ?_, fun h1 => ?_⟩
    · have h2 : i < (labelsOf s).length := by simpa using h1
      have h3 : (labelsOf s)[i]? = some (labelsOf s)[i] := by simp [h2]
      generalize (labelsOf s)[i] = p at h3
      simp only [push_cast, reduceIte, Nat.reduceMul, Nat.reduceEqDiff, Nat.reduceAdd, Nat.reduceLT, Nat.reduceLeDiff, reduceCtorEq, Int.reduceToNat, Int.toNat_natCast, List.getElem?_map, h3, Option.map_some]
      have hps : p.size ≤ 60 := by
        have := split_le dotS (Lib.countB s dotS) s p (List.mem_of_getElem? h3)
        omega
      refine ⟨by omega, vB (Lib.hasPrefix p.data.toList [45]), fun _ => (hasPrefix_fv WG p ⟨#[45]⟩).q rfl, ?_⟩
      simp only [push_cast, reduceIte, Nat.reduceMul, Nat.reduceEqDiff, Nat.reduceAdd, Nat.reduceLT, Nat.reduceLeDiff, reduceCtorEq, Int.reduceToNat]
      refine ⟨vB (Lib.hasSuffix p.data.toList [45]), fun _ => (hasSuffix_fv WG p ⟨#[45]⟩ (by omega)).q rfl, ?_⟩
      simp only [push_cast, reduceIte, Nat.reduceMul, Nat.reduceEqDiff, Nat.reduceAdd, Nat.reduceLT, Nat.reduceLeDiff, reduceCtorEq, Int.reduceToNat]
      have bad : labelB p = false → false = lhostB s := fun hb => by
        have : (labelsOf s).all labelB = false := List.all_eq_false.2 ⟨p, List.mem_of_getElem? h3, by rw [hb]; simp⟩
        simp only [lhostB, this, Bool.and_false]
      refine ⟨fun h4 => bad ?_, fun h4 => ?_⟩
      · simp only [Bool.or_eq_true] at h4
        rcases h4 with (h4 | h4) | h4 <;> simp [labelB, h4]
      · simp only [Bool.or_eq_false_iff] at h4
        refine T_loopS (fun k : Nat => ⟨[(0, vS s), (16, .p (.sl 1 ((labelsOf s).map pS))), (17, vI (labelsOf s).length), (18, vI i), (4, vS p), (33, vI p.size), (34, vI k)], [], 0, 0, 50⟩) (fun k => k ≤ p.size ∧ ∀ q, q < k → lowB (bAt p q).toNat = true) (fun k => p.size - k) 0 ⟨Nat.zero_le _, fun k hk => absurd hk (Nat.not_lt_zero k)⟩ (by simp [Le, subE, aget]) (fun k hk => ?_)
        simp only [push_cast, reduceIte, Nat.reduceMul, Nat.reduceEqDiff, Nat.reduceAdd, Nat.reduceLT, Nat.reduceLeDiff, reduceCtorEq, Int.reduceToNat]
        refine ⟨fun h5 => T_drawS [] [] mixed (by kernel_rfl) ?_, fun h5 => ?_⟩
        · have h6 : k < p.size := by simpa using h5
          have h7 := (bAt p k).toNat_lt
          simp only [push_cast, reduceIte, Nat.reduceMul, Nat.reduceEqDiff, Nat.reduceAdd, Nat.reduceLT, Nat.reduceLeDiff, reduceCtorEq, Int.reduceToNat]
          refine ⟨.p (.agg classV), (class_fv WG).v rfl, by omega, ?_⟩
          simp only [push_cast, reduceIte, Nat.reduceMul, Nat.reduceEqDiff, Nat.reduceAdd, Nat.reduceLT, Nat.reduceLeDiff, reduceCtorEq, Int.reduceToNat, class_get _ h7, class_len]
          have hlow : lowB (bAt p k).toNat = !(!decide (((classOf (bAt p k).toNat : Nat) : Int) = 1) && !decide (((classOf (bAt p k).toNat : Nat) : Int) = 3)) := by
            rw [Bool.eq_iff_iff]
            simp only [lowB, decide_eq_true_eq, Bool.not_eq_true', Bool.and_eq_false_iff, Bool.not_eq_false', decide_eq_true_eq]
            omega
          refine ⟨by omega, fun h8 => bad ?_, fun h8 => ⟨k + 1, ⟨by omega, fun q hq => ?_⟩, by omega, ?_⟩⟩
          · rw [h8] at hlow
            have : decide (∀ i, i < p.size → lowB (bAt p i).toNat = true) = false := decide_eq_false fun h' => by rw [h' k h6] at hlow; cases hlow
            simp only [labelB, this, Bool.and_false]
          · by_cases e : q = k
            · subst e; rw [hlow, h8]; rfl
            · exact hk.2 q (by omega)
          · simp [Le, subE, aget, wrap_i64 (k + 1) (by omega) (by omega)]
        · have h6 : ¬ k < p.size := by simpa using h5
          have hlb : labelB p = true := by
            simp only [labelB, h4.1.1, h4.1.2, h4.2, Bool.not_false, Bool.true_and]
            exact decide_eq_true fun q hq => hk.2 q (by omega)
          refine ⟨i + 1, ⟨by omega, fun k q hk hq => ?_⟩, by omega, ?_⟩
          · by_cases e : k = i
            · subst e; rw [h3] at hq; cases hq; exact hlb
            · exact hi.2 k q (by omega) hq
          · simp [Le, subE, aget, wrap_i64 (i + 1) (by omega) (by omega)]
    · have h2 : ¬ i < (labelsOf s).length := by simpa using h1
      have : (labelsOf s).all labelB = true := List.all_eq_true.2 fun p hp => by
        obtain ⟨k, hk⟩ := List.mem_iff_getElem?.1 hp
        exact hi.2 k p (by have := (List.getElem?_eq_some_iff.1 hk).1; omega) hk
      simp only [lhostB, this, Bool.and_true]
      exact (decide_eq_true (by omega)).symm
end Go.Proofs.YtgekglfmianoeaaGreatDoor

namespace Go.Proofs.YtgekglfmianoeaaGreatDoor
open Go Go.Gp
theorem bytes_ext {a b : ByteArray} (h : a.data.toList = b.data.toList) : a = b := by
  obtain ⟨⟨x⟩⟩ := a; obtain ⟨⟨y⟩⟩ := b
  simpa using h
theorem app_list (a b : ByteArray) : (a ++ b).data.toList = a.data.toList ++ b.data.toList := by simp [ByteArray.data_append]

theorem wrParts_list : ∀ (ps : List ByteArray) (s : ByteArray), (wrParts s ps).data.toList = s.data.toList ++ (ps.map fun p => 47 :: p.data.toList).flatten
  | [], s => by simp [wrParts]
  | p :: r, s => by
    rw [wrParts, wrParts_list r, app_list, app_list]
    simp [bsl']

theorem joined (ps : List ByteArray) (s : ByteArray) (dir : Bool) :
    (if (dir && decide (0 < (ps.length : Int))) = true then s ++ (⟨#[47]⟩ ++ ⟨(Lib.join (ps.map (·.data.toList)) [47]).toArray⟩) ++ ⟨#[47]⟩ else s ++ (⟨#[47]⟩ ++ ⟨(Lib.join (ps.map (·.data.toList)) [47]).toArray⟩)) =
    if (dir || decide (ps.length = 0)) = true then wrParts s ps ++ bsl' else wrParts s ps := by
  cases ps with
  | nil =>
    simp only [List.length_nil, List.map_nil, Lib.join_nil]
    have h1 : ¬ (dir && decide (0 < ((0 : Nat) : Int))) = true := by simp
    rw [if_neg h1]
    simp only [decide_true, Bool.or_true, if_true]
    rfl
  | cons p r =>
    have e : wrParts s (p :: r) = s ++ (⟨#[47]⟩ ++ ⟨(Lib.join ((p :: r).map (·.data.toList)) [47]).toArray⟩) := by
      apply bytes_ext
      rw [wrParts_list, app_list, app_list, List.map_cons, List.map_cons, Lib.join_cons]
      simp [Lib.joinTail, Function.comp_def]
    rw [e]
    cases dir <;> simp [bsl']

theorem itoa_nat (n : Nat) : Lib.itoa (n : Int) = Lib.decDigits n := by
  unfold Lib.itoa
  rw [if_neg (by omega)]; simp

theorem len_list (p : ByteArray) : p.data.toList.length = p.size := Array.length_toList
theorem joinTail_len (sep : List UInt8) (n : Nat) : ∀ ps : List ByteArray, (∀ p ∈ ps, p.size ≤ n) → (Lib.joinTail sep (ps.map (·.data.toList))).length ≤ (sep.length + n) * ps.length
  | [], _ => by simp [Lib.joinTail]
  | p :: r, h => by
    have h1 := joinTail_len sep n r (fun q hq => h q (List.mem_cons_of_mem _ hq))
    have h2 := h p List.mem_cons_self
    have h3 := len_list p
    simp only [Lib.joinTail, List.map_cons, List.flatMap_cons, List.flatten_cons, List.length_append, List.length_cons, h3] at h1 ⊢
    simp only [Nat.mul_add, Nat.mul_one]; omega
theorem join_len (sep : List UInt8) (n : Nat) (ps : List ByteArray) (h : ∀ p ∈ ps, p.size ≤ n) : (Lib.join (ps.map (·.data.toList)) sep).length ≤ (sep.length + n) * ps.length := by
  cases ps with
  | nil => simp [Lib.join_nil]
  | cons p r =>
    rw [List.map_cons, Lib.join_cons]
    have h1 := joinTail_len sep n r (fun q hq => h q (List.mem_cons_of_mem _ hq))
    have h2 := h p List.mem_cons_self
    have h3 := len_list p
    simp only [List.length_append, List.length_cons, h3] at h1 ⊢
    simp only [Nat.mul_add, Nat.mul_one]; omega

theorem wr1_size (l : Locator) (h : OkL l) (h0 : 0 ≤ l.port) (h1 : l.port ≤ 65535) : (wr1 l).size ≤ 70000 := by
  obtain ⟨n, hn⟩ : ∃ n : Nat, l.port = n := ⟨_, (Int.toNat_of_nonneg h0).symm⟩
  have hdl := dec_len n
  have z58 : (⟨#[58]⟩ : ByteArray).size = 1 := rfl
  have zd : (⟨(Lib.decDigits n).toArray⟩ : ByteArray).size = (Lib.decDigits n).length := by simp [ByteArray.size]
  have hpn : l.port.toNat = n := by omega
  have := wr0_size l h
  unfold wr1
  split
  · omega
  · rw [hpn]
    simp only [ByteArray.size_append, z58, zd]
    omega

set_option maxHeartbeats 8000000 in
theorem write_fv (WG : World) (g : GW WG) (l : Locator) (h : OkL l) (h0 : 0 ≤ l.port) (h1 : l.port ≤ 65535) : FV Tryz.prog WG 159 [locP l] (vS (refW l)) := by
  refine CallT.pure rfl (CallT_fnT Tryz.func159 (rs := [.tmp 2]) (n := 39) rfl rfl (Nat.le_of_ble_eq_true rfl) rfl ?_)
  have z47 : (⟨#[47]⟩ : ByteArray).size = 1 := rfl
  have z58 : (⟨#[58]⟩ : ByteArray).size = 1 := rfl
  have zr : (⟨#[114, 115, 121, 110, 99, 58, 47, 47]⟩ : ByteArray).size = 8 := rfl
  have zh : (⟨#[104, 116, 116, 112, 115, 58, 47, 47]⟩ : ByteArray).size = 8 := rfl
  have hh := h.host
  have hps := h.parts
  have hw0 := wr0_size l h
  have hw1 := wr1_size l h h0 h1
  obtain ⟨n, hn⟩ : ∃ n : Nat, l.port = n := ⟨_, (Int.toNat_of_nonneg h0).symm⟩
  have hdl := dec_len n
  have zd : (⟨(Lib.decDigits n).toArray⟩ : ByteArray).size = (Lib.decDigits n).length := by simp [ByteArray.size]
  have hpn : l.port.toNat = n := by omega
  have hjl := join_len [47] 500 l.parts (fun p hp => by obtain ⟨k, hk⟩ := List.mem_iff_getElem?.1 hp; exact h.part k p hk)
  have hjl' : (Lib.join (l.parts.map (·.data.toList)) [47]).length ≤ 200000 := by
    refine Nat.le_trans hjl ?_
    show (1 + 500) * l.parts.length ≤ _
    omega
  have zj : (⟨(Lib.join (l.parts.map (·.data.toList)) [47]).toArray⟩ : ByteArray).size ≤ 200000 := by
    simpa only [ByteArray.size, List.size_toArray] using hjl'
  refine T_seqC ?_
  simp only [locP, push_cast, reduceIte, Nat.reduceMul, Nat.reduceEqDiff, Nat.reduceAdd, Nat.reduceLT, Nat.reduceLeDiff, reduceCtorEq, Int.reduceToNat]
  refine T_seqC ?_
  simp only [push_cast, reduceIte, Nat.reduceMul, Nat.reduceEqDiff, Nat.reduceAdd, Nat.reduceLT, Nat.reduceLeDiff, reduceCtorEq, Int.reduceToNat]
  refine ⟨by rw [zh]; omega, T_cut1 ⟨[(1, .ref 0 0), (3, vS (wr0 l))], [(0, .box (locC l))], 1, 0, 39⟩ ?_ (T_cut1 ⟨[(1, .ref 0 0), (3, vS (wr1 l))], [(0, .box (locC l))], 1, 0, 39⟩ ?_ (T_fin ?_))⟩
  · simp only [locC, push_cast, reduceIte, Nat.reduceMul, Nat.reduceEqDiff, Nat.reduceAdd, Nat.reduceLT, Nat.reduceLeDiff, reduceCtorEq, Int.reduceToNat]
    refine ⟨fun hs => ⟨by rw [zr]; omega, ?_⟩, fun hs => ?_⟩ <;> simp at hs <;> simp [Le, subE, aget, wr0, hs]
  · simp only [locC, push_cast, reduceIte, Nat.reduceMul, Nat.reduceEqDiff, Nat.reduceAdd, Nat.reduceLT, Nat.reduceLeDiff, reduceCtorEq, Int.reduceToNat]
    refine ⟨fun hp => ?_, fun hp => ?_⟩ <;> simp at hp
    · rw [hn]
      refine (itoa_fv WG g n (by omega) (by omega)).call rfl ?_
      simp only [push_cast, reduceIte, Nat.reduceMul, Nat.reduceEqDiff, Nat.reduceAdd, Nat.reduceLT, Nat.reduceLeDiff, reduceCtorEq, Int.reduceToNat, itoa_nat]
      refine ⟨by rw [z58, zd]; omega, by simp only [ByteArray.size_append, z58, zd]; omega, ?_⟩
      simp [Le, subE, aget, wr1, hp, hpn, ← hn, ByteArray.append_assoc]
    · simp [Le, subE, aget, wr1, hp]
  · simp only [locC, push_cast, reduceIte, Nat.reduceMul, Nat.reduceEqDiff, Nat.reduceAdd, Nat.reduceLT, Nat.reduceLeDiff, reduceCtorEq, Int.reduceToNat]
    refine (join_fv WG l.parts ⟨#[47]⟩ (by omega) (Nat.le_trans hjl' (by omega))).call rfl ?_
    simp only [push_cast, reduceIte, Nat.reduceMul, Nat.reduceEqDiff, Nat.reduceAdd, Nat.reduceLT, Nat.reduceLeDiff, reduceCtorEq, Int.reduceToNat]
    refine ⟨by rw [z47]; omega, by simp only [ByteArray.size_append, z47]; omega, fun h4 => ⟨by simp only [ByteArray.size_append, z47]; omega, ?_⟩, fun h4 => ?_⟩
    · have := joined l.parts (wr1 l) l.dir
      rw [if_pos h4] at this
      simp only [refW, ← this]
    · have := joined l.parts (wr1 l) l.dir
      rw [if_neg (by rw [h4]; simp)] at this
      simp only [refW, ← this]
end Go.Proofs.YtgekglfmianoeaaGreatDoor

namespace Go.Proofs.YtgekglfmianoeaaGreatDoor
open Go Go.Gp
def spl (c : UInt8) : List UInt8 → List (List UInt8)
  | [] => [[]]
  | b :: l => if b = c then [] :: spl c l else
    match spl c l with
    | h :: t => (b :: h) :: t
    | [] => [[b]]
theorem spl_cons (c : UInt8) (l : List UInt8) : ∃ h t, spl c l = h :: t := by
  cases l with
  | nil => exact ⟨_, _, rfl⟩
  | cons b l =>
    simp only [spl]
    split
    · exact ⟨_, _, rfl⟩
    · split <;> exact ⟨_, _, rfl⟩
theorem index_one (b c : UInt8) (l : List UInt8) : Lib.index (b :: l) [c] = if b = c then 0 else if Lib.index l [c] = -1 then -1 else Lib.index l [c] + 1 := by
  rw [Lib.index]
  by_cases h : b = c
  · subst h; simp [List.isPrefixOf]
  · have : (c == b) = false := by simpa using fun e => h e.symm
    simp [List.isPrefixOf, this, h]
theorem spl_index (c : UInt8) : ∀ l : List UInt8, (Lib.index l [c] = -1 → spl c l = [l]) ∧ ∀ i : Nat, Lib.index l [c] = i → spl c l = l.take i :: spl c (l.drop (i + 1))
  | [] => by
    refine ⟨fun _ => rfl, fun i h => ?_⟩
    have : Lib.index [] [c] = -1 := by simp [Lib.index]
    omega
  | b :: l => by
    obtain ⟨h1, h2⟩ := spl_index c l
    have hge := Lib.index_ge l [c]
    rw [index_one]
    by_cases h : b = c
    · rw [if_pos h]
      refine ⟨fun h => by omega, fun i hi => ?_⟩
      have : i = 0 := by omega
      subst this
      simp [spl, h]
    · rw [if_neg h]
      refine ⟨fun hm => ?_, fun i hi => ?_⟩
      · split at hm
        · rename_i hm'; simp [spl, h, h1 hm']
        · omega
      · split at hi
        · omega
        · obtain ⟨k, rfl⟩ : ∃ k, i = k + 1 := ⟨i - 1, by omega⟩
          have := h2 k (by omega)
          simp [spl, h, this]

theorem extract_list (s : ByteArray) (a b : Nat) : (s.extract a b).data.toList = (s.data.toList.drop a).take (b - a) := by
  simp [ByteArray.data_extract, List.extract_eq_take_drop]
theorem splitB_spl (c : UInt8) : ∀ (k : Nat) (s : ByteArray), Lib.countB s ⟨#[c]⟩ = k → (Lib.splitB ⟨#[c]⟩ 0 k s).map (·.data.toList) = spl c s.data.toList
  | 0, s, hk => by
    rcases Lib.indexB_cases s ⟨#[c]⟩ with hix | ⟨i, hix, _⟩
    · have := (spl_index c s.data.toList).1 hix
      rw [this]; rfl
    · have := Lib.countB_hit s ⟨#[c]⟩ i (Nat.le_refl 1) hix; omega
  | k + 1, s, hk => by
    rcases Lib.indexB_cases s ⟨#[c]⟩ with hix | ⟨i, hix, _⟩
    · have := Lib.countB_miss s ⟨#[c]⟩ hix; omega
    · have h1 := Lib.countB_hit s ⟨#[c]⟩ i (Nat.le_refl 1) hix
      have h2 := (spl_index c s.data.toList).2 i hix
      have h3 := splitB_spl c k (s.extract (i + (⟨#[c]⟩ : ByteArray).size) s.size) (by omega)
      have h4 : (s.extract (i + (⟨#[c]⟩ : ByteArray).size) s.size).data.toList = s.data.toList.drop (i + 1) := Lib.extract_to_end s _
      rw [Lib.splitB_hit _ 0 k s i hix, List.map_cons, h3, h4, h2, extract_list]
      simp

def letU (c : UInt8) : Bool := letterB c.toNat
def badU (c : UInt8) (first last : Bool) : Bool := (!letU c && !decide (c = 45) && !decide (c = 46)) || (decide (c = 46) && (first || last)) || (decide (c = 45) && (first || last))
def lastOf : List UInt8 → Bool
  | [] => true
  | d :: _ => decide (d = 46)
def okR : Bool → List UInt8 → Bool
  | _, [] => true
  | f, c :: l => !badU c f (lastOf l) && okR (decide (c = 46)) l
def badAt (f : Bool) (l : List UInt8) (i : Nat) : Bool :=
  match l[i]? with
  | none => false
  | some c => badU c (match i with | 0 => f | k + 1 => decide (l[k]? = some 46)) (match l[i + 1]? with | none => true | some d => decide (d = 46))
theorem okR_iff : ∀ (l : List UInt8) (f : Bool), okR f l = true ↔ ∀ i, badAt f l i = false
  | [], f => by simp [okR, badAt]
  | c :: l, f => by
    simp only [okR, Bool.and_eq_true, Bool.not_eq_true', okR_iff l]
    have e0 : badAt f (c :: l) 0 = badU c f (lastOf l) := by
      cases l <;> simp [badAt, lastOf]
    have e1 : ∀ i, badAt f (c :: l) (i + 1) = badAt (decide (c = 46)) l i := by
      intro i
      cases i with
      | zero => cases l <;> simp [badAt]
      | succ i => simp [badAt]
    refine ⟨fun ⟨h1, h2⟩ i => ?_, fun h => ⟨by rw [← e0]; exact h 0, fun i => by rw [← e1]; exact h (i + 1)⟩⟩
    cases i with
    | zero => rw [e0]; exact h1
    | succ i => rw [e1]; exact h2 i

def lowU (c : UInt8) : Bool := letU c || decide (c = 45)
def labelL (p : List UInt8) : Bool := !p.isEmpty && decide (p.head? ≠ some 45) && decide (p.getLast? ≠ some 45) && p.all lowU

theorem okR_spl : ∀ l : List UInt8, (l ≠ [] → okR true l = (spl 46 l).all labelL) ∧ ∀ h t, spl 46 l = h :: t → okR false l = (h.all lowU && decide (h.getLast? ≠ some 45) && t.all labelL)
  | [] => ⟨fun h => absurd rfl h, fun h t e => by simp [spl] at e; obtain ⟨rfl, rfl⟩ := e; simp [okR]⟩
  | c :: l => by
    obtain ⟨h1, h2⟩ := okR_spl l
    obtain ⟨h, t, e⟩ := spl_cons 46 l
    have h3 := h2 h t e
    by_cases hc : c = 46
    · subst hc
      have hl : letU 46 = false := by decide
      have e' : spl 46 (46 :: l) = [] :: spl 46 l := by simp [spl]
      refine ⟨fun _ => ?_, fun h' t' e1 => ?_⟩
      · rw [e']; simp [okR, badU, labelL]
      · rw [e'] at e1
        injection e1 with e2 e3
        subst e2 e3
        cases l with
        | nil => simp [okR, badU, lastOf, spl, labelL]
        | cons d l =>
          have := h1 (by simp)
          by_cases hd : d = 46
          · subst hd; simp [okR, badU, lastOf, spl, labelL]
          · simp [okR, badU, lastOf, hd, hl] at this ⊢
            rw [this]
    · have e' : spl 46 (c :: l) = (c :: h) :: t := by simp [spl, hc, e]
      have hlast : lastOf l = h.isEmpty := by
        cases l with
        | nil => simp [spl] at e; obtain ⟨rfl, rfl⟩ := e; rfl
        | cons d l =>
          obtain ⟨a, b, e2⟩ := spl_cons 46 l
          by_cases hd : d = 46
          · subst hd; simp [spl] at e; obtain ⟨rfl, _⟩ := e; simp [lastOf]
          · simp [spl, hd, e2] at e; obtain ⟨rfl, _⟩ := e; simp [lastOf, hd]
      have hgl : (c :: h).getLast? = if h.isEmpty then some c else h.getLast? := by
        cases h <;> simp
      have h45 : letU 45 = false := by decide
      refine ⟨fun _ => ?_, fun h' t' e1 => ?_⟩
      · rw [e']
        simp only [okR, hc, decide_false, h3, List.all_cons, labelL, hgl, badU, hlast]
        by_cases hm : c = 45
        · subst hm; simp [h45]
        · cases hh : h with
          | nil => cases hu : letU c <;> simp [lowU, hm, hu]
          | cons a b => cases hu : letU c <;> simp [lowU, hm, hu, Bool.and_comm, Bool.and_assoc, Bool.and_left_comm]
      · rw [e'] at e1
        injection e1 with e2 e3
        subst e2 e3
        simp only [okR, hc, decide_false, h3, List.all_cons, hgl, badU, hlast]
        by_cases hm : c = 45
        · subst hm
          cases hh : h with
          | nil => simp [h45]
          | cons a b => simp [h45, lowU]
        · cases hh : h with
          | nil => cases hu : letU c <;> simp [lowU, hm, hu]
          | cons a b => cases hu : letU c <;> simp [lowU, hm, hu]
end Go.Proofs.YtgekglfmianoeaaGreatDoor

namespace Go.Proofs.YtgekglfmianoeaaGreatDoor
open Go Go.Gp
theorem get_list {s : ByteArray} {k : Nat} (h : k < s.size) : s.data.toList[k]? = some (bAt s k) := by
  unfold bAt
  have h' : k < s.data.toList.length := by rw [len_list]; exact h
  rw [List.getD_eq_getElem?_getD, List.getElem?_eq_getElem h']; rfl
theorem get_none {s : ByteArray} {k : Nat} (h : s.size ≤ k) : s.data.toList[k]? = none := List.getElem?_eq_none (by rw [len_list]; exact h)
theorem u8_eq (c : UInt8) (n : Nat) (h : n < 256) : ((c.toNat : Int) = (n : Int)) ↔ c = UInt8.ofNat n := by
  rw [← UInt8.toNat_inj, UInt8.toNat_ofNat']
  omega

theorem hostBad_at (s : ByteArray) (i : Nat) (h : i < s.size) : hostBad s i = badAt true s.data.toList i := by
  have e0 : cAt s (i : Int) = ((bAt s i).toNat : Int) := by simp [cAt]
  have e45 : decide (cAt s (i : Int) = 45) = decide (bAt s i = 45) := by rw [e0]; exact decide_eq_decide.2 (u8_eq _ 45 (by decide))
  have e46 : decide (cAt s (i : Int) = 46) = decide (bAt s i = 46) := by rw [e0]; exact decide_eq_decide.2 (u8_eq _ 46 (by decide))
  have el : letterB (cAt s (i : Int)) = letU (bAt s i) := by rw [e0]; rfl
  have ef : firstB s i = (match (generalizing := false) i with | 0 => true | k + 1 => decide (s.data.toList[k]? = some 46)) := by
    cases i with
    | zero => simp [firstB]
    | succ k =>
      have : cAt s (((k + 1 : Nat) : Int) - 1) = ((bAt s k).toNat : Int) := by
        have : ((((k + 1 : Nat) : Int) - 1)).toNat = k := by omega
        rw [cAt, this]
      have e1 : decide (((bAt s k).toNat : Int) = 46) = decide (bAt s k = 46) := decide_eq_decide.2 (u8_eq _ 46 (by decide))
      simp only [firstB, this, e1, get_list (show k < s.size by omega), Option.some.injEq]
      rw [decide_eq_false (show ¬ ((k + 1 : Nat) : Int) = 0 by omega)]; rfl
  have eL : lastB s i = (match s.data.toList[i + 1]? with | none => true | some d => decide (d = 46)) := by
    rcases Nat.lt_or_ge (i + 1) s.size with h1 | h1
    · have : cAt s ((i : Int) + 1) = ((bAt s (i + 1)).toNat : Int) := by
        have : ((i : Int) + 1).toNat = i + 1 := by omega
        rw [cAt, this]
      have e1 : decide (((bAt s (i + 1)).toNat : Int) = 46) = decide (bAt s (i + 1) = 46) := decide_eq_decide.2 (u8_eq _ 46 (by decide))
      simp only [lastB, this, e1, get_list h1]
      rw [decide_eq_false (show ¬ (i : Int) = s.size - 1 by omega)]; rfl
    · rw [get_none h1]
      simp only [lastB]
      rw [decide_eq_true (show (i : Int) = s.size - 1 by omega)]; rfl
  simp only [hostBad, badAt, get_list h, e45, e46, el, ef, eL, badU]
  all_goals cases i <;> rfl

theorem hostB_ok (s : ByteArray) : hostB s = (decide (1 ≤ s.size ∧ s.size ≤ 60) && okR true s.data.toList) := by
  have : decide (∀ i, i < s.size → hostBad s i = false) = okR true s.data.toList := by
    rw [Bool.eq_iff_iff, decide_eq_true_eq, okR_iff]
    refine ⟨fun h i => ?_, fun h i hi => by rw [hostBad_at s i hi]; exact h i⟩
    rcases Nat.lt_or_ge i s.size with h1 | h1
    · rw [← hostBad_at s i h1]; exact h i h1
    · simp only [badAt, get_none h1]
  rw [hostB, this]

theorem lowB_eq (c : UInt8) : lowB c.toNat = lowU c := by
  have h45 : decide (c = 45) = decide (c.toNat = 45) := decide_eq_decide.2 (by rw [← UInt8.toNat_inj]; rfl)
  rw [lowU, h45, letU]
  generalize c.toNat = n
  rw [Bool.eq_iff_iff]
  simp only [lowB, classOf, letterB, decide_eq_true_eq, Bool.or_eq_true, Bool.and_eq_true]
  split
  · exact ⟨fun _ => .inl (by omega), fun _ => by decide⟩
  · split
    · exact ⟨fun h => absurd h (by decide), fun h => by omega⟩
    · split
      · rename_i h; exact ⟨fun _ => .inr h, fun _ => by decide⟩
      · split
        · exact ⟨fun h => absurd h (by decide), fun h => by omega⟩
        · split
          · exact ⟨fun h => absurd h (by decide), fun h => by omega⟩
          · exact ⟨fun h => absurd h (by decide), fun h => by omega⟩

theorem sufL (c : UInt8) (l : List UInt8) : ([c] : List UInt8).isSuffixOf l = decide (l.getLast? = some c) := by
  rw [Bool.eq_iff_iff, List.isSuffixOf_iff_suffix, decide_eq_true_eq]
  refine ⟨fun ⟨t, ht⟩ => by rw [← ht]; simp, fun h => ?_⟩
  obtain ⟨t, ht⟩ := List.getLast?_eq_some_iff.1 h
  exact ⟨t, ht.symm⟩
theorem preL (c : UInt8) (l : List UInt8) : ([c] : List UInt8).isPrefixOf l = decide (l.head? = some c) := by
  cases l with
  | nil => simp [List.isPrefixOf]
  | cons d l =>
    simp only [List.isPrefixOf, List.head?_cons, Option.some.injEq]
    by_cases h : c = d
    · subst h; simp
    · have h' : ¬ d = c := fun e => h e.symm
      simp [h, h']

theorem labelB_eq (s : ByteArray) : labelB s = labelL s.data.toList := by
  have e1 : strEq s ⟨#[]⟩ = s.data.toList.isEmpty := by
    rw [Bool.eq_iff_iff, strEq_iff, List.isEmpty_iff]
    exact ⟨fun h => by rw [h], fun h => bytes_ext (by rw [h])⟩
  have e4 : decide (∀ i, i < s.size → lowB (bAt s i).toNat = true) = s.data.toList.all lowU := by
    rw [Bool.eq_iff_iff, decide_eq_true_eq, List.all_eq_true]
    refine ⟨fun h x hx => ?_, fun h i hi => ?_⟩
    · obtain ⟨k, hk⟩ := List.mem_iff_getElem?.1 hx
      have hlt : k < s.size := by
        rcases Nat.lt_or_ge k s.size with h1 | h1
        · exact h1
        · rw [get_none h1] at hk; cases hk
      rw [get_list hlt] at hk; cases hk
      rw [← lowB_eq]; exact h k hlt
    · rw [lowB_eq]; exact h _ (List.mem_of_getElem? (get_list hi))
  simp only [labelB, labelL, e1, e4, Lib.hasPrefix, Lib.hasSuffix, sufL, preL, decide_not]

theorem lhostB_eq (s : ByteArray) : lhostB s = hostB s := by
  rw [hostB_ok, lhostB]
  by_cases h : 1 ≤ s.size ∧ s.size ≤ 60
  · rw [decide_eq_true h, Bool.true_and, Bool.true_and]
    have hne : s.data.toList ≠ [] := fun e => by have := len_list s; rw [e] at this; simp at this; omega
    rw [(okR_spl _).1 hne, ← splitB_spl 46 _ s rfl, List.all_map]
    show (labelsOf s).all labelB = (labelsOf s).all (labelL ∘ fun x => x.data.toList)
    congr 1
    funext p
    exact labelB_eq p
  · rw [decide_eq_false h, Bool.false_and, Bool.false_and]
end Go.Proofs.YtgekglfmianoeaaGreatDoor

namespace Go.Proofs.YtgekglfmianoeaaGreatDoor
open Go Go.Gp
def okB (l : Locator) : Bool := (decide (l.scheme = 1) || decide (l.scheme = 2)) && lhostB l.host && decide (0 ≤ l.port) && decide (l.port ≤ 65535) && !decide (l.port = usualI l.scheme)
theorem badB_ok (l : Locator) : badB l = !(okB l && (decide (0 < (l.parts.length : Int)) || l.dir)) := by
  have h1 : decide (l.port < 0) = !decide (0 ≤ l.port) := by rw [← decide_not]; exact decide_eq_decide.2 (by omega)
  have h2 : decide (65535 < l.port) = !decide (l.port ≤ 65535) := by rw [← decide_not]; exact decide_eq_decide.2 (by omega)
  have h3 : decide ((l.parts.length : Int) = 0) = !decide (0 < (l.parts.length : Int)) := by rw [← decide_not]; exact decide_eq_decide.2 (by omega)
  simp only [badB, okB, h1, h2, h3, lhostB_eq, Bool.not_and, Bool.not_or, Bool.not_not]

set_option maxHeartbeats 8000000 in
theorem lcheck_fv (WG : World) (g : GW WG) (l : Locator) (h : OkL l) : FV Tryz.prog WG 158 [locP l] (vI (checkI l)) := by
  refine CallT.pure rfl (CallT_fnT Tryz.func158 (rs := [.tmp 2]) (n := 64) rfl rfl (Nat.le_of_ble_eq_true rfl) rfl ?_)
  have hps := h.parts
  refine T_seqC ?_
  simp only [locP, push_cast, reduceIte, Nat.reduceMul, Nat.reduceEqDiff, Nat.reduceAdd, Nat.reduceLT, Nat.reduceLeDiff, reduceCtorEq, Int.reduceToNat]
  refine T_seqC ?_
  simp only [push_cast, reduceIte, Nat.reduceMul, Nat.reduceEqDiff, Nat.reduceAdd, Nat.reduceLT, Nat.reduceLeDiff, reduceCtorEq, Int.reduceToNat]
  refine ⟨fun h1 => ?_, fun h1 => ?_⟩
  · have : 10 < l.parts.length := by simp at h1; omega
    simp only [checkI, this, if_true]
  have hle : ¬ 10 < l.parts.length := by simp at h1; omega
  refine T_seqC ?_
  simp only [push_cast, reduceIte, Nat.reduceMul, Nat.reduceEqDiff, Nat.reduceAdd, Nat.reduceLT, Nat.reduceLeDiff, reduceCtorEq, Int.reduceToNat]
  refine T_cut1 ⟨[(1, .ref 0 0), (3, vI (usualI l.scheme))], [(0, .box (locC l))], 1, 0, 64⟩ ?_ (T_cut1 ⟨[(1, .ref 0 0), (4, vB (okB l))], [(0, .box (locC l))], 1, 0, 64⟩ ?_ (T_cut1 ⟨[(1, .ref 0 0), (4, vB (!badB l && !l.parts.any fun p => !nameB p))], [(0, .box (locC l))], 1, 0, 64⟩ ?_ (T_fin ?_)))
  · simp only [push_cast, reduceIte, Nat.reduceMul, Nat.reduceEqDiff, Nat.reduceAdd, Nat.reduceLT, Nat.reduceLeDiff, reduceCtorEq, Int.reduceToNat]
    refine ⟨fun hs => ?_, fun hs => ?_⟩ <;> simp at hs <;> simp [Le, subE, aget, locC, usualI, hs]
  · simp only [locC, push_cast, reduceIte, Nat.reduceMul, Nat.reduceEqDiff, Nat.reduceAdd, Nat.reduceLT, Nat.reduceLeDiff, reduceCtorEq, Int.reduceToNat]
    refine ⟨vB (lhostB l.host), fun _ => (lhost_fv WG g _).q rfl, ?_⟩
    simp only [push_cast, reduceIte, Nat.reduceMul, Nat.reduceEqDiff, Nat.reduceAdd, Nat.reduceLT, Nat.reduceLeDiff, reduceCtorEq, Int.reduceToNat]
    simp [Le, subE, aget, okB]
  · simp only [locC, push_cast, reduceIte, Nat.reduceMul, Nat.reduceEqDiff, Nat.reduceAdd, Nat.reduceLT, Nat.reduceLeDiff, reduceCtorEq, Int.reduceToNat]
    refine ⟨fun hx => ⟨hx, fun hy => by rw [hx, hy]; rfl⟩, vB (l.parts.any fun p => !nameB p), fun _ => (containsFunc_fv WG l.parts (by omega)).q rfl, ?_⟩
    simp only [push_cast, reduceIte, Nat.reduceMul, Nat.reduceEqDiff, Nat.reduceAdd, Nat.reduceLT, Nat.reduceLeDiff, reduceCtorEq, Int.reduceToNat]
    simp [Le, subE, aget, badB_ok]
  · simp only [locC, push_cast, reduceIte, Nat.reduceMul, Nat.reduceEqDiff, Nat.reduceAdd, Nat.reduceLT, Nat.reduceLeDiff, reduceCtorEq, Int.reduceToNat]
    refine ⟨fun h2 => ?_, fun h2 => ?_⟩
    · simp only [Bool.not_eq_true', Bool.and_eq_false_iff, Bool.not_eq_false'] at h2
      rw [checkI, if_neg hle]
      rcases h2 with h2 | h2
      · rw [if_pos h2]
      · by_cases hb : badB l = true
        · rw [if_pos hb]
        · rw [if_neg hb, if_pos h2]
    · simp only [Bool.not_eq_false', Bool.and_eq_true, Bool.not_eq_true'] at h2
      have hport : 0 ≤ l.port ∧ l.port ≤ 65535 := by
        have := h2.1
        simp only [badB, Bool.or_eq_false_iff, decide_eq_false_iff_not] at this
        omega
      have hnb : ¬ badB l = true := by rw [h2.1]; simp
      have hna : ¬ (l.parts.any fun p => !nameB p) = true := by rw [h2.2]; simp
      refine (write_fv WG g l h hport.1 hport.2).call rfl ?_
      simp only [push_cast, reduceIte, Nat.reduceMul, Nat.reduceEqDiff, Nat.reduceAdd, Nat.reduceLT, Nat.reduceLeDiff, reduceCtorEq, Int.reduceToNat]
      refine ⟨fun h6 => ?_, fun h6 => ?_⟩
      · have : 200 < (refW l).size := by simp at h6; omega
        rw [checkI, if_neg hle, if_neg hnb, if_neg hna, if_pos this]
      · have : ¬ 200 < (refW l).size := by simp at h6; omega
        rw [checkI, if_neg hle, if_neg hnb, if_neg hna, if_neg this]

end Go.Proofs.YtgekglfmianoeaaGreatDoor
