/-
  What the laid variables give; arguments as locators and strings.
  strings.Cut, strconv.Atoi; the cutting closure.
  The reference's Parse: what it makes of a string.
  locator.Parse: what it makes of a string.
  Pure: a valid locator comes back from its string, by either reading.
  Pure: the string of a valid locator, and what each reading makes of it.
  Pure: both readings find a valid locator whose string it is; so they agree.
  Kind; slices.Equal; Holds; calls of the parsers.
  What the rows of the laws on strings take from the laid variables.
-/
import Derived.Test.YtplpggeefemelaaGreatDoorMA
import Derived.Test.YtplpggeefemelaaGreatDoorKD
import Derived.Test.YtplpggeefemelaaGreatDoorTie
import Derived.WalkSmall
import Derived.Lib.SmallJoins
import Derived.Lib.AtoiAll
import Derived.LaidLaws
set_option linter.unusedSimpArgs false
set_option linter.unusedVariables false
set_option maxRecDepth 20000
namespace Go.Proofs.YtplpggeefemelaaGreatDoor
open Go Go.Gp Go.RowKit

theorem laid_mem {P : Program} {w : World} {n : String} {d : DataW Unit} : ∀ {l : List (String × DataW Unit)} {ps : List MemPlace}, DataW.LaidVars P w l ps → (n, d) ∈ l →
    ∃ g t cs fuel p, P.globalNamed n = some g ∧ (P.globals[g]?).map (·.type) = some t ∧ w.var? P n = some cs ∧ DataW.trod (fun _ => ()) P w 0 (fun _ => true) false fuel t cs.toList = some (d, p)
  | [], ps, _, h => by cases h
  | (n', d') :: r, ps, hl, h => by
    obtain ⟨g, t, cs, fuel, p, q, h1, h2, h3, h4, h5, _⟩ := hl
    rcases List.mem_cons.1 h with e | h
    · cases e; exact ⟨g, t, cs, fuel, p, h1, h2, h3, h4⟩
    · exact laid_mem h5 h

theorem pow10_data : (Rows.laid_internal_strconv_uint64pow10 : DataW Unit) = Lib.tabData .u64 Lib.pow10Tab := by kernel_rfl

theorem gw_of {laid : List (String × DataW Unit)} {W : World} (h : laidMet Tryz.prog laid W) (hm : ("internal/strconv.uint64pow10", Rows.laid_internal_strconv_uint64pow10) ∈ laid) (hs : W.ShapedOpen Tryz.prog) : GW W := by
  refine ⟨Go.Proofs.cell_of_shapedOpen_int (g := 1) (zero := #[.int .i64 0]) (t := 3) hs (of_decide_eq_true (by kernel_rfl)) (by kernel_rfl) rfl (by kernel_rfl) (by kernel_rfl) Tryz.underlying3, ?_⟩
  obtain ⟨ps, hl, _⟩ := h
  obtain ⟨g, t, cs, fuel, p, h1, h2, h3, h4⟩ := laid_mem hl hm
  rw [pow10_data] at h4
  obtain rfl : g = 4 := Option.some.inj (h1.symm.trans (show Tryz.prog.globalNamed "internal/strconv.uint64pow10" = some 4 by kernel_rfl))
  obtain rfl : t = 346 := Option.some.inj (h2.symm.trans (show (Tryz.prog.globals[4]?).map (·.type) = some 346 by kernel_rfl))
  unfold Lib.TabIs
  rw [h3, ← Lib.cells_of_tab (by first | exact Tryz.underlying346 | kernel_rfl) (e := 23) (by first | exact Tryz.underlying23 | kernel_rfl) (by kernel_rfl) (by kernel_rfl) h4]

theorem str_of {p : PV} (h : SStr p) : ∃ s : ByteArray, p = pS s ∧ s.size ≤ maxLen := h
theorem strs_of : ∀ {xs : List PV}, (∀ x ∈ xs, SStr x) → ∃ l : List ByteArray, xs = l.map pS
  | [], _ => ⟨[], rfl⟩
  | x :: r, h => by
    obtain ⟨s, rfl, _⟩ := h x List.mem_cons_self
    obtain ⟨l, rfl⟩ := strs_of (fun y hy => h y (List.mem_cons_of_mem _ hy))
    exact ⟨s :: l, rfl⟩
end Go.Proofs.YtplpggeefemelaaGreatDoor

namespace Go.Proofs.YtplpggeefemelaaGreatDoor
open Go Go.Gp Go.RowKit

/-- Head, tail, and whether the mark is there. -/
def cutB (s sep : ByteArray) : ByteArray × ByteArray × Bool := (⟨(Lib.cut s.data.toList sep.data.toList).1.toArray⟩, ⟨(Lib.cut s.data.toList sep.data.toList).2.1.toArray⟩, (Lib.cut s.data.toList sep.data.toList).2.2)

theorem cut_fv (WG : World) (g : GW WG) (s sep : ByteArray) (hs : s.size < 4294967281) : FV Tryz.prog WG 205 [.v (.string s), .v (.string sep)] (.tup [vS (cutB s sep).1, vS (cutB s sep).2.1, vB (cutB s sep).2.2]) := by
  refine FV.of_calls rfl (fun w ok ms hb _ hsz hms => ?_)
  obtain ⟨a, b, rfl, ha, hbb⟩ := args_two hsz hms
  rw [ha.flat, hbb.flat]
  obtain ⟨m, hm⟩ := g.maxlen
  refine (Tryz.strings_Cut s sep m w hs (cell_keep hb hm)).mono fun e w' ⟨he, n, hw⟩ => ⟨_, he, ?_, fun ok' _ hnew => .tup rfl (fun i c hi => ?_)⟩
  · subst hw; exact below_drewN (Below.refl _ _) n
  · match i with
    | 0 => simp at hi; subst hi; exact .p (.v rfl)
    | 1 => simp at hi; subst hi; exact .p (.v rfl)
    | 2 => simp at hi; subst hi; exact .p (.v rfl)
    | i + 3 => simp at hi

/-- The variables that Atoi's errors name. -/
structure GE (WG : World) : Prop where
  syn : ∃ t p, WG.var? Tryz.prog "strconv.ErrSyntax" = some #[.iface t p]
  ran : ∃ t p, WG.var? Tryz.prog "strconv.ErrRange" = some #[.iface t p]

/-- How Atoi ends: the number, and whether there is an error. -/
def atoiN (s : ByteArray) : Int :=
  match Lib.atoiAll s.data.toList with
  | .ok v => v
  | .range => Lib.atoiSat s.data.toList
  | _ => 0
def atoiOk (s : ByteArray) : Bool :=
  match Lib.atoiAll s.data.toList with
  | .ok _ => true
  | _ => false

theorem err_rel {w : World} {ok : Nat → Prop} {N e : Nat} {t : TypeId} {s x : ByteArray} {v : Value} (hN : ok N) (h : w.heap[N]? = some (.cells #[.string x, .string s, v] e (0, 0))) :
    PR w ok (.ifc t (.ptr (.agg [pS x, pS s]) 0)) (.iface t (.pointer (some ⟨N, 0, none⟩))) := by
  refine .ifc (.ptr (fun k => (#[.string x, .string s] : Array Value).getD k undef) ⟨hN, _, _, _, h⟩ rfl (a := 0) (fun k hk => ?_) (fun i c hi => ?_) (fun i c hi => ?_))
  · rw [cell_row h]
    simp only [PV.cells, List.length_cons, List.length_nil] at hk
    match k with
    | 0 => rfl
    | 1 => rfl
    | k + 2 => omega
  · match i with
    | 0 => simp [PV.cells] at hi; subst hi; rfl
    | 1 => simp [PV.cells] at hi; subst hi; rfl
    | i + 2 => simp [PV.cells] at hi
  · match i with
    | 0 => simp [PV.cells] at hi; subst hi; exact .v rfl
    | 1 => simp [PV.cells] at hi; subst hi; exact .v rfl
    | i + 2 => simp [PV.cells] at hi

theorem tup_two {w : World} {ok : Nat → Prop} {j : Nat → Option Gp.Loc} {nx : Nat} {a b : PV} {x y : Value} (h1 : PR w ok a x) (h2 : PR w ok b y) : VR w ok j nx (.tup [.p a, .p b]) (.tuple #[x, y]) := .tup rfl (fun i c hi => by
  match i with
  | 0 => simp at hi; subst hi; exact .p h1
  | 1 => simp at hi; subst hi; exact .p h2
  | i + 2 => simp at hi)

theorem atoi_fv (WG : World) (g : GE WG) (s : ByteArray) (hs : s.size ≤ 281474976710656) : ∃ e : PV, FV Tryz.prog WG 206 [.v (.string s)] (.tup [vI (atoiN s), .p e]) ∧ ((atoiOk s = true ∧ e = .v .nilIface) ∨ (atoiOk s = false ∧ ∃ t x, e = .ifc t x)) := by
  cases h : Lib.atoiAll s.data.toList with
  | ok v =>
    refine ⟨.v .nilIface, FV.of_calls rfl (fun w ok ms hb _ hsz hms => ?_), .inl ⟨by simp [atoiOk, h], rfl⟩⟩
    rw [args_one hsz hms]
    refine (Tryz.strconv_Atoi_ok s (by omega) v h w).mono fun e w' ⟨he, hw⟩ => ⟨_, he, ?_, fun ok' _ hnew => ?_⟩
    · rcases hw with rfl | ⟨t, rfl⟩
      · exact Below.refl _ _
      · exact Joins.below_bytesWorld _ _ _ _ (Nat.le_refl _)
    · simp only [atoiN, h]; exact tup_two (a := pI v) (b := .v .nilIface) (.v rfl) (.v rfl)
  | «range» =>
    obtain ⟨t, p, hv⟩ := g.ran
    refine ⟨.ifc 299 (.ptr (.agg [pS ⟨#[65, 116, 111, 105]⟩, pS s]) 0), FV.of_calls rfl (fun w ok ms hb _ hsz hms => ?_), .inr ⟨by simp [atoiOk, h], _, _, rfl⟩⟩
    rw [args_one hsz hms]
    refine (Tryz.strconv_Atoi_range_var s hs h t p w (var_keep hb hv)).mono fun e w' ⟨N, he, h1, h2, h3⟩ => ⟨_, he, h3, fun ok' _ hnew => ?_⟩
    simp only [atoiN, h]
    exact tup_two (.v rfl) (err_rel (hnew N h1 (Array.getElem?_eq_some_iff.1 h2).1) h2)
  | _ =>
    obtain ⟨t, p, hv⟩ := g.syn
    refine ⟨.ifc 299 (.ptr (.agg [pS ⟨#[65, 116, 111, 105]⟩, pS s]) 0), FV.of_calls rfl (fun w ok ms hb _ hsz hms => ?_), .inr ⟨by simp [atoiOk, h], _, _, rfl⟩⟩
    rw [args_one hsz hms]
    refine (Tryz.strconv_Atoi_syntax_var s hs h t p w (var_keep hb hv)).mono fun e w' ⟨N, he, h1, h2, h3⟩ => ⟨_, he, h3, fun ok' _ hnew => ?_⟩
    simp only [atoiN, h]
    exact tup_two (.v rfl) (err_rel (hnew N h1 (Array.getElem?_eq_some_iff.1 h2).1) h2)

set_option maxHeartbeats 4000000 in
theorem cutc_ct (WG : World) (g : GW WG) (mark rest : ByteArray) (hs : rest.size < 4294967281) {b : Nat} {tab : Tab} {nx : Nat} {K KP : V → Tab → Nat → Prop} (hb : aget tab b = some (.box [vS rest]))
    (hK : K (.tup [vS (cutB rest mark).1, vB (cutB rest mark).2.2]) (aset tab b (.box [vS (cutB rest mark).2.1])) nx) : CallT Tryz.prog WG 204 [vS mark, .ref b 0] tab nx K KP := by
  refine CallT_fn Tryz.func204 (rs := [.tmp 3, .tmp 4]) (n := 18) rfl rfl (Nat.le_of_ble_eq_true rfl) rfl ?_
  simp only [push_cast, reduceIte, Nat.reduceMul, Nat.reduceEqDiff, Nat.reduceAdd, Nat.reduceLT, Nat.reduceLeDiff, reduceCtorEq, Int.reduceToNat, hb]
  refine (cut_fv WG g rest mark hs).call rfl ?_
  simp only [push_cast, reduceIte, Nat.reduceMul, Nat.reduceEqDiff, Nat.reduceAdd, Nat.reduceLT, Nat.reduceLeDiff, reduceCtorEq, Int.reduceToNat, hb]
  exact hK

/-- The first place from 'i' on at which one of two bytes stands, or the length. -/
def untilN (l : List UInt8) (i : Nat) (a b : UInt8) : Nat := i + ((l.drop i).takeWhile fun c => decide (c ≠ a) && decide (c ≠ b)).length
theorem until_step {l : List UInt8} {i : Nat} {a b c : UInt8} (h : l[i]? = some c) : untilN l i a b = if (decide (c ≠ a) && decide (c ≠ b)) = true then untilN l (i + 1) a b else i := by
  have hlt := (List.getElem?_eq_some_iff.1 h).1
  have hc := (List.getElem?_eq_some_iff.1 h).2
  have hd : l.drop i = c :: l.drop (i + 1) := by rw [List.drop_eq_getElem_cons hlt, hc]
  unfold untilN
  rw [hd, List.takeWhile_cons]
  split
  · simp only [List.length_cons]; omega
  · rfl
theorem until_end {l : List UInt8} {i : Nat} {a b : UInt8} (h : l.length ≤ i) : untilN l i a b = i := by
  unfold untilN; rw [List.drop_eq_nil_of_le h]; rfl
theorem until_le (l : List UInt8) (i : Nat) (a b : UInt8) (h : i ≤ l.length) : i ≤ untilN l i a b ∧ untilN l i a b ≤ l.length := by
  unfold untilN
  have := (List.takeWhile_prefix (fun c => decide (c ≠ a) && decide (c ≠ b)) (l := l.drop i)).length_le
  simp only [List.length_drop] at this
  omega
theorem u8_ne (c a : UInt8) : decide (((c.toNat : Nat) : Int) = (a.toNat : Nat)) = decide (c = a) := decide_eq_decide.2 (by rw [← UInt8.toNat_inj]; omega)

set_option maxHeartbeats 4000000 in
theorem until_fv (WG : World) (s : ByteArray) (hs : s.size < 1000000) (a b : UInt8) (k : Nat) (hk : k ≤ s.size) : FV Tryz.prog WG 214 [.v (.string s), pI k, pU8 a.toNat, pU8 b.toNat] (vI (untilN s.data.toList k a b)) := by
  refine CallT.pure rfl (CallT_fn Tryz.func214 (rs := [.tmp 8]) (n := 30) rfl rfl (Nat.le_of_ble_eq_true rfl) rfl ?_)
  simp only [push_cast, reduceIte, Nat.reduceMul, Nat.reduceEqDiff, Nat.reduceAdd, Nat.reduceLT, Nat.reduceLeDiff, reduceCtorEq, Int.reduceToNat]
  refine T_loopS (fun i : Nat => ⟨[(0, vS s), (1, vI i), (2, vU8 a.toNat), (3, vU8 b.toNat)], [], 0, 0, 30⟩) (fun i => i ≤ s.size ∧ untilN s.data.toList i a b = untilN s.data.toList k a b) (fun i => s.size - i) k ⟨hk, rfl⟩ (by simp [Le, subE, aget]) (fun i hi => ?_)
  simp only [push_cast, reduceIte, Nat.reduceMul, Nat.reduceEqDiff, Nat.reduceAdd, Nat.reduceLT, Nat.reduceLeDiff, reduceCtorEq, Int.reduceToNat]
  have hl : s.data.toList.length = s.size := len_list s
  by_cases h1 : i < s.size
  · have h2 : decide ((i : Int) < s.size) = true := decide_eq_true (by omega)
    have hst := until_step (a := a) (b := b) (get_list h1)
    simp only [h2, push_cast, reduceIte, Nat.reduceMul, Nat.reduceEqDiff, Nat.reduceAdd, Nat.reduceLT, Nat.reduceLeDiff, reduceCtorEq, Int.reduceToNat, u8_ne]
    have e : (decide (bAt s i ≠ a) && decide (bAt s i ≠ b)) = (!decide (bAt s i = a) && !decide (bAt s i = b)) := by simp only [ne_eq, decide_not]
    rw [e] at hst
    refine ⟨⟨by omega, by omega⟩, fun hx => ⟨hx, by omega, by omega⟩, fun hx => ?_, fun hx => ?_⟩
    · rw [if_pos hx] at hst
      refine ⟨i + 1, ⟨by omega, by rw [← hi.2, hst]⟩, by omega, ?_⟩
      simp [Le, subE, aget, wrap_i64 (i + 1) (by omega) (by omega)]
    · rw [if_neg (by rw [hx]; simp)] at hst
      rw [← hi.2, hst]
  · have h2 : decide ((i : Int) < s.size) = false := decide_eq_false (by omega)
    simp only [h2, push_cast, reduceIte, Nat.reduceMul, Nat.reduceEqDiff, Nat.reduceAdd, Nat.reduceLT, Nat.reduceLeDiff, reduceCtorEq, Int.reduceToNat]
    rw [← hi.2, until_end (by omega)]
end Go.Proofs.YtplpggeefemelaaGreatDoor

namespace Go.Proofs.YtplpggeefemelaaGreatDoor
open Go Go.Gp

def eB : ByteArray := ⟨#[]⟩
def locZ : PV := .agg [pU8 0, pS eB, pI 0, .v (.slice none 0 0), pB false]
/-- A locator whose parts lie in own array 'b'. -/
def locO (l : Locator) (b : Nat) : V := .agg [vU8 l.scheme, vS l.host, vI l.port, .osl b 1 0 l.parts.length none, vB l.dir]
def arrO (l : Locator) : Blk := .arr 1 (l.parts.map pS) true

/-- Digits, behind a number. -/
def digs : List UInt8 → Int → Option Int
  | [], p => some p
  | c :: r, p => if 48 ≤ c.toNat ∧ c.toNat ≤ 57 then digs r (10 * p + (c.toNat - 48 : Nat)) else none
def bOf (l : List UInt8) : ByteArray := ⟨l.toArray⟩
def noSl (c : UInt8) : Bool := decide (c ≠ 47)
/-- Parts, each behind a mark; is there an empty one at the end? -/
def rParts : List UInt8 → List ByteArray × Bool
  | [] => ([], false)
  | _ :: t =>
    if t.takeWhile noSl = [] ∧ t.dropWhile noSl = [] then ([], true)
    else (bOf (t.takeWhile noSl) :: (rParts (t.dropWhile noSl)).1, (rParts (t.dropWhile noSl)).2)
termination_by l => l.length
decreasing_by
  all_goals
    simp only [List.length_cons]
    have := (List.dropWhile_suffix noSl (l := t)).length_le
    omega
def rsyncB : ByteArray := ⟨#[114, 115, 121, 110, 99, 58, 47, 47]⟩
def httpsB : ByteArray := ⟨#[104, 116, 116, 112, 115, 58, 47, 47]⟩
/-- Scheme, port, place behind: what stands behind the host. -/
def refTail (s : ByteArray) (k : Nat) : Option (Int × Nat) :=
  if k < s.size ∧ bAt s k = 58 then
    if 6 < untilN s.data.toList k 47 47 - k then none
    else match digs ((s.data.toList.drop (k + 1)).take (untilN s.data.toList k 47 47 - (k + 1))) 0 with
      | some p => some (p, untilN s.data.toList k 47 47)
      | none => none
  else some (0, k)
def finL (l : Locator) (s : ByteArray) : Option Locator := if checkI l = 0 ∧ refW l = s then some l else none
def refRest (s : ByteArray) (sc : Int) : Option Locator :=
  match refTail s (untilN s.data.toList 8 58 47) with
  | none => none
  | some (p, k) => finL ⟨sc, s.extract 8 (untilN s.data.toList 8 58 47), p, (rParts (s.data.toList.drop k)).1, (rParts (s.data.toList.drop k)).2⟩ s
/-- What the reference's Parse gives, if anything. -/
def refParse (s : ByteArray) : Option Locator :=
  if s.size < 9 ∨ 200 < s.size then none
  else if s.extract 0 8 = rsyncB then refRest s 1
  else if s.extract 0 8 = httpsB then refRest s 2
  else none

def zC : List V := [vU8 0, vS eB, vI 0, .p (.v (.slice none 0 0)), vB false]
def lC (sc : Int) (h : ByteArray) (p : Int) (b n : Nat) (d : Bool) : List V := [vU8 sc, vS h, vI p, .osl b 1 0 n none, vB d]
/-- How a parser ends. -/
def parseK (o : Option Locator) : V → Tab → Nat → Prop := fun r t n => match o with | some l => r = .tup [locO l 0, vI 0] ∧ t = [(0, arrO l)] ∧ n = 1 | none => r = .tup [.p locZ, vI 12] ∧ t = [] ∧ n = 0

theorem parseK_none {t : Tab} {n : Nat} : tidyK 0 (parseK none) (.tup [.p locZ, vI 12]) t n := ⟨[], _, [], 0, ⟨rfl, rfl, rfl⟩, by simp [V.rn, V.rnL], by simp [V.bd, V.bdL], Nat.le_refl _, trivial, trivial, trivial⟩
theorem parseK_some {l : Locator} {t : Tab} {n b : Nat} (h : aget t b = some (arrO l)) : tidyK 0 (parseK (some l)) (.tup [locO l b, vI 0]) t n :=
  ⟨[(0, b)], _, _, 1, ⟨rfl, rfl, rfl⟩, by simp [locO, V.rn, V.rnL, rnf, aget], by simp [locO, V.bd, V.bdL], Nat.zero_le _, ⟨Nat.zero_le _, trivial⟩, ⟨trivial, trivial⟩, ⟨by simpa [rnf, aget, Blk.rn, arrO] using h, Nat.zero_lt_one, by simp [Blk.bd, arrO], trivial⟩⟩

def S1 (s : ByteArray) (sc : Int) : St := ⟨[(0, vS s), (2, .ref 0 0), (4, .ref 1 0)], [(0, .box zC), (1, .box (lC sc eB 0 2 0 false)), (2, .arr 1 [] true)], 3, 0, 121⟩
def S3 (s : ByteArray) (sc : Int) (h : ByteArray) (p : Int) (i : List ByteArray × Bool × Nat) : St := ⟨[(0, vS s), (2, .ref 0 0), (4, .ref 1 0), (5, vI i.2.2)], [(0, .box zC), (1, .box (lC sc h p 2 i.1.length i.2.1)), (2, .arr 1 (i.1.map pS) true)], 3, 0, 121⟩
def S4 (s : ByteArray) (sc : Int) (h : ByteArray) (k e : Nat) (i : Nat × Nat) : St := ⟨[(0, vS s), (2, .ref 0 0), (4, .ref 1 0), (5, vI k), (6, vI e), (7, vI i.2)], [(0, .box zC), (1, .box (lC sc h i.1 2 0 false)), (2, .arr 1 [] true)], 3, 0, 121⟩
/-- What is left to do gives the result. -/
def Left3 (s : ByteArray) (sc : Int) (h : ByteArray) (p : Int) (i : List ByteArray × Bool × Nat) : Prop :=
  refParse s = finL ⟨sc, h, p, i.1 ++ (rParts (s.data.toList.drop i.2.2)).1, i.2.1 || (rParts (s.data.toList.drop i.2.2)).2⟩ s ∧ i.2.2 ≤ s.size ∧ i.1.length + (s.size - i.2.2) ≤ 200 ∧ ∀ q ∈ i.1, q.size ≤ 200
theorem until_eq (l : List UInt8) (k : Nat) : untilN l k 47 47 = k + ((l.drop k).takeWhile noSl).length := by
  have : (fun c : UInt8 => decide (c ≠ 47) && decide (c ≠ 47)) = noSl := by funext c; simp [noSl]
  rw [untilN, this]
theorem drop_while (l : List UInt8) (k : Nat) : (l.drop k).dropWhile noSl = l.drop (untilN l k 47 47) := by
  have h := List.takeWhile_append_dropWhile (p := noSl) (l := l.drop k)
  rw [until_eq, ← List.drop_drop]
  generalize hw : (l.drop k).takeWhile noSl = w at h
  rw [← h, List.drop_left]
  rw [h]
theorem take_while (l : List UInt8) (k : Nat) : (l.drop k).takeWhile noSl = (l.drop k).take (untilN l k 47 47 - k) := by
  have h := List.takeWhile_append_dropWhile (p := noSl) (l := l.drop k)
  rw [until_eq, Nat.add_sub_cancel_left]
  generalize hw : (l.drop k).takeWhile noSl = w at h
  rw [← h, List.take_left]
theorem rParts_step {l : List UInt8} {k : Nat} (h : k < l.length) : rParts (l.drop k) =
    if untilN l (k + 1) 47 47 = k + 1 ∧ untilN l (k + 1) 47 47 = l.length then ([], true)
    else (bOf ((l.drop (k + 1)).take (untilN l (k + 1) 47 47 - (k + 1))) :: (rParts (l.drop (untilN l (k + 1) 47 47))).1, (rParts (l.drop (untilN l (k + 1) 47 47))).2) := by
  rw [List.drop_eq_getElem_cons h, rParts, drop_while, take_while]
  have hu := until_le l (k + 1) 47 47 h
  have e1 : (l.drop (k + 1)).take (untilN l (k + 1) 47 47 - (k + 1)) = [] ↔ untilN l (k + 1) 47 47 = k + 1 := by
    rw [← List.length_eq_zero_iff, List.length_take, List.length_drop]; omega
  have e2 : l.drop (untilN l (k + 1) 47 47) = [] ↔ untilN l (k + 1) 47 47 = l.length := by
    rw [List.drop_eq_nil_iff]; omega
  simp only [e1, e2]
theorem bOf_extract (s : ByteArray) (a b : Nat) : bOf ((s.data.toList.drop a).take (b - a)) = s.extract a b := bytes_ext (by rw [extract_list]; simp [bOf])

set_option maxHeartbeats 8000000 in
theorem refParse_ct0 (WG : World) (s : ByteArray) : CallT Tryz.prog WG 158 [vS s] [] 0 (parseK (refParse s)) noP := by
  refine CallT.tidy (CallT_fnT Tryz.func158 (rs := [.cell 2 146, .tmp 3]) (n := 121) rfl rfl (Nat.le_of_ble_eq_true rfl) rfl ?_)
  refine T_seqC ?_
  simp only [push_cast, reduceIte, Nat.reduceMul, Nat.reduceEqDiff, Nat.reduceAdd, Nat.reduceLT, Nat.reduceLeDiff, reduceCtorEq, Int.reduceToNat]
  refine T_seqC ?_
  simp only [push_cast, reduceIte, Nat.reduceMul, Nat.reduceEqDiff, Nat.reduceAdd, Nat.reduceLT, Nat.reduceLeDiff, reduceCtorEq, Int.reduceToNat]
  refine T_seqC ?_
  simp only [push_cast, reduceIte, Nat.reduceMul, Nat.reduceEqDiff, Nat.reduceAdd, Nat.reduceLT, Nat.reduceLeDiff, reduceCtorEq, Int.reduceToNat]
  refine ⟨fun h => ?_, fun h => ?_⟩
  · have : refParse s = none := by rw [refParse, if_pos (by simp at h; omega)]
    rw [this]; exact parseK_none
  have h0 : 9 ≤ s.size ∧ s.size ≤ 200 := by simp at h; omega
  have hl : s.data.toList.length = s.size := len_list s
  have hsz : ¬ (s.size < 9 ∨ 200 < s.size) := by omega
  refine T_nilBox 1 3 1 rfl rfl ?_
  simp only [push_cast, reduceIte, Nat.reduceMul, Nat.reduceEqDiff, Nat.reduceAdd, Nat.reduceLT, Nat.reduceLeDiff, reduceCtorEq, Int.reduceToNat]
  refine T_cutR (S1 s) (fun sc => refParse s = refRest s sc) ?_ (fun sc hsc => ?_)
  · simp only [push_cast, reduceIte, Nat.reduceMul, Nat.reduceEqDiff, Nat.reduceAdd, Nat.reduceLT, Nat.reduceLeDiff, reduceCtorEq, Int.reduceToNat]
    have ers : (⟨#[114, 115, 121, 110, 99, 58, 47, 47]⟩ : ByteArray) = rsyncB := rfl
    have eht : (⟨#[104, 116, 116, 112, 115, 58, 47, 47]⟩ : ByteArray) = httpsB := rfl
    rw [ers, eht]
    refine ⟨by omega, fun h1 => ?_, fun h1 => ⟨fun h2 => ?_, fun h2 => ?_⟩⟩
    · rw [strEq_iff] at h1
      refine ⟨1, by rw [refParse, if_neg hsz, if_pos h1], [], ?_⟩
      simp [S1, zC, lC, eB, LeR, rnf, aget, envR, tabR, injR, notIn, loR, V.rn, V.rnL, V.bd, V.bdL, Blk.rn, Blk.bd, envRn, envBd]
    · rw [strEq_false] at h1
      rw [strEq_iff] at h2
      refine ⟨2, by rw [refParse, if_neg hsz, if_neg h1, if_pos h2], [], ?_⟩
      simp [S1, zC, lC, eB, LeR, rnf, aget, envR, tabR, injR, notIn, loR, V.rn, V.rnL, V.bd, V.bdL, Blk.rn, Blk.bd, envRn, envBd]
    · rw [strEq_false] at h1 h2
      have : refParse s = none := by rw [refParse, if_neg hsz, if_neg h1, if_neg h2]
      rw [this]; exact parseK_none
  · have hu := until_le s.data.toList 8 58 47 (by omega)
    rw [hl] at hu
    rw [refRest] at hsc
    generalize hk : untilN s.data.toList 8 58 47 = k at hsc hu
    refine T_seqC ?_
    simp only [S1, zC, lC, push_cast, reduceIte, Nat.reduceMul, Nat.reduceEqDiff, Nat.reduceAdd, Nat.reduceLT, Nat.reduceLeDiff, reduceCtorEq, Int.reduceToNat]
    refine (until_fv WG s (by omega) 58 47 8 (by omega)).call rfl ?_
    simp only [push_cast, reduceIte, Nat.reduceMul, Nat.reduceEqDiff, Nat.reduceAdd, Nat.reduceLT, Nat.reduceLeDiff, reduceCtorEq, Int.reduceToNat, hk]
    refine T_seqC ?_
    simp only [push_cast, reduceIte, Nat.reduceMul, Nat.reduceEqDiff, Nat.reduceAdd, Nat.reduceLT, Nat.reduceLeDiff, reduceCtorEq, Int.reduceToNat]
    refine ⟨by omega, ?_⟩
    generalize hh : s.extract 8 k = hst at hsc
    have hhz : hst.size ≤ 200 := by rw [← hh, ByteArray.size_extract]; omega
    refine T_cutR (fun i : Int × Nat => S3 s sc hst i.1 ([], false, i.2)) (fun i => Left3 s sc hst i.1 ([], false, i.2)) ?_ (fun i hi => ?_)
    · have fin3 : ∀ (p : Int) (q : Nat), q ≤ s.size → refTail s k = some (p, q) → Left3 s sc hst p ([], false, q) := fun p q hq ht => by
        refine ⟨?_, hq, by simp; omega, by simp⟩
        rw [hsc, ht]; simp
      simp only [push_cast, reduceIte, Nat.reduceMul, Nat.reduceEqDiff, Nat.reduceAdd, Nat.reduceLT, Nat.reduceLeDiff, reduceCtorEq, Int.reduceToNat]
      refine ⟨fun hx => ⟨hx, by omega, by simp at hx; omega⟩, fun h1 => ?_, fun h1 => ?_⟩
      · simp only [Bool.and_eq_true, decide_eq_true_eq] at h1
        have h1' : k < s.size ∧ bAt s k = 58 := ⟨by omega, (u8_eq _ 58 (by decide)).1 h1.2⟩
        have hst1 := until_step (a := 47) (b := 47) (get_list h1'.1)
        rw [h1'.2, if_pos (by decide)] at hst1
        have hu1 := until_le s.data.toList (k + 1) 47 47 (by omega)
        rw [hl, ← hst1] at hu1
        refine (until_fv WG s (by omega) 47 47 k (by omega)).call rfl ?_
        have htl : refTail s k = if 6 < untilN s.data.toList k 47 47 - k then none else match digs ((s.data.toList.drop (k + 1)).take (untilN s.data.toList k 47 47 - (k + 1))) 0 with | some p => some (p, untilN s.data.toList k 47 47) | none => none := by rw [refTail, if_pos h1']
        generalize he : untilN s.data.toList k 47 47 = e at hu1 htl
        have hw : IntKind.i64.wrap ((e : Int) - k) = e - k := wrap_i64 _ (by omega) (by omega)
        have hw2 : IntKind.i64.wrap ((k : Int) + 1) = ((k + 1 : Nat) : Int) := by rw [wrap_i64 _ (by omega) (by omega)]; omega
        simp only [push_cast, reduceIte, Nat.reduceMul, Nat.reduceEqDiff, Nat.reduceAdd, Nat.reduceLT, Nat.reduceLeDiff, reduceCtorEq, Int.reduceToNat, he, hw, hw2]
        refine ⟨fun h2 => ?_, fun h2 => ?_⟩
        · have : refParse s = none := by rw [hsc, htl, if_pos (by simp at h2; omega)]
          rw [this]; exact parseK_none
        · have h6 : e - k ≤ 6 := by simp at h2; omega
          rw [if_neg (by omega)] at htl
          refine T_loopS (S4 s sc hst k e) (fun i => k + 1 ≤ i.2 ∧ i.2 ≤ e ∧ i.1 < 10 ^ (i.2 - (k + 1)) ∧ digs ((s.data.toList.drop i.2).take (e - i.2)) i.1 = digs ((s.data.toList.drop (k + 1)).take (e - (k + 1))) 0) (fun i => e - i.2) (0, k + 1) ⟨Nat.le_refl _, by omega, by simp, rfl⟩ (by simp [Le, subE, aget, S4, zC, lC, eB]) (fun i hi => ?_)
          obtain ⟨p, i⟩ := i
          obtain ⟨hi1, hi2, hi3, hi4⟩ := hi
          simp only at hi1 hi2 hi3 hi4
          have hp5 : p < 100000 := Nat.lt_of_lt_of_le hi3 (Nat.pow_le_pow_right (by decide) (show i - (k + 1) ≤ 5 by omega))
          simp only [S4, zC, lC, push_cast, reduceIte, Nat.reduceMul, Nat.reduceEqDiff, Nat.reduceAdd, Nat.reduceLT, Nat.reduceLeDiff, reduceCtorEq, Int.reduceToNat]
          refine ⟨fun h3 => ?_, fun h3 => ?_⟩
          · have h3' : i < e := by simpa using h3
            have hc := get_list (show i < s.size by omega)
            have hdr : (s.data.toList.drop i).take (e - i) = bAt s i :: (s.data.toList.drop (i + 1)).take (e - (i + 1)) := by
              rw [List.drop_eq_getElem_cons (by rw [hl]; omega), show e - i = e - (i + 1) + 1 by omega, List.take_succ_cons]
              congr 1
              exact Option.some.inj ((List.getElem?_eq_getElem (by rw [hl]; omega)).symm.trans hc)
            rw [hdr, digs] at hi4
            generalize hcb : bAt s i = c at hi4 hc
            have hcl := c.toNat_lt
            refine ⟨⟨by omega, by omega⟩, fun hx => ⟨hx, by omega, by omega⟩, fun h5 => ?_, fun h5 => ?_⟩
            · have : refParse s = none := by
                rw [hsc, htl, ← hi4, if_neg (by simp at h5; omega)]
              rw [this]; exact parseK_none
            · refine T_drawS [10] [] mixed (by kernel_rfl) ?_
              have hcd : 48 ≤ c.toNat ∧ c.toNat ≤ 57 := by simp at h5; omega
              have w1 : IntKind.i64.wrap (10 * (p : Int)) = 10 * p := wrap_i64 _ (by omega) (by omega)
              have w2 : IntKind.u8.wrap ((c.toNat : Int) - 48) = ((c.toNat - 48 : Nat) : Int) := by rw [wrap_u8 _ (by omega) (by omega)]; omega
              have w3 : IntKind.i64.wrap ((c.toNat - 48 : Nat) : Int) = ((c.toNat - 48 : Nat) : Int) := wrap_i64 _ (by omega) (by omega)
              have w4 : IntKind.i64.wrap (10 * (p : Int) + ((c.toNat - 48 : Nat) : Int)) = ((10 * p + (c.toNat - 48) : Nat) : Int) := by rw [wrap_i64 _ (by omega) (by omega)]; omega
              simp only [push_cast, reduceIte, Nat.reduceMul, Nat.reduceEqDiff, Nat.reduceAdd, Nat.reduceLT, Nat.reduceLeDiff, reduceCtorEq, Int.reduceToNat, hcb, w1, w2, w3, w4]
              rw [if_pos hcd] at hi4
              refine ⟨by omega, (10 * p + (c.toNat - 48), i + 1), ⟨by simp only; omega, by simp only; omega, ?_, ?_⟩, by simp only; omega, ?_⟩
              · show 10 * p + (c.toNat - 48) < 10 ^ (i + 1 - (k + 1))
                rw [show i + 1 - (k + 1) = i - (k + 1) + 1 by omega, Nat.pow_succ]
                omega
              · rw [← hi4]
                rfl
              · simp [Le, subE, aget, S4, lC, zC, wrap_i64 (i + 1) (by omega) (by omega)]
          · have h3' : i = e := by have : ¬ i < e := by simpa using h3
                                   omega
            subst h3'
            rw [Nat.sub_self, List.take_zero, digs] at hi4
            rw [← hi4] at htl
            refine ⟨((p : Int), i), fin3 p i (by omega) htl, [], ?_⟩
            simp [S3, lC, zC, eB, LeR, rnf, aget, envR, tabR, injR, notIn, loR, V.rn, V.rnL, V.bd, V.bdL, Blk.rn, Blk.bd, envRn, envBd]
      · simp only [Bool.and_eq_false_iff, decide_eq_false_iff_not] at h1
        have h1' : ¬ (k < s.size ∧ bAt s k = 58) := fun ⟨a, b⟩ => by
          rcases h1 with h1 | h1
          · omega
          · exact h1 ((u8_eq _ 58 (by decide)).2 b)
        refine ⟨(0, k), fin3 0 k hu.2 (by rw [refTail, if_neg h1']), [], ?_⟩
        simp [S3, lC, zC, eB, LeR, rnf, aget, envR, tabR, injR, notIn, loR, V.rn, V.rnL, V.bd, V.bdL, Blk.rn, Blk.bd, envRn, envBd]
    · obtain ⟨p, q⟩ := i
      refine T_fin ?_
      simp only [push_cast, reduceIte, Nat.reduceMul, Nat.reduceEqDiff, Nat.reduceAdd, Nat.reduceLT, Nat.reduceLeDiff, reduceCtorEq, Int.reduceToNat]
      refine T_loopR (S3 s sc hst p) (Left3 s sc hst p) (fun i => s.size - i.2.2) ([], false, q) [] hi (by simp [S3, lC, zC, eB, LeR, rnf, aget, envR, tabR, injR, notIn, loR, V.rn, V.rnL, V.bd, V.bdL, Blk.rn, Blk.bd, envRn, envBd]) (fun i hi => ?_)
      obtain ⟨ps, d, k⟩ := i
      obtain ⟨hi1, hi2, hi3, hi4⟩ := hi
      simp only at hi1 hi2 hi3 hi4
      simp only [S3, zC, lC, push_cast, reduceIte, Nat.reduceMul, Nat.reduceEqDiff, Nat.reduceAdd, Nat.reduceLT, Nat.reduceLeDiff, reduceCtorEq, Int.reduceToNat]
      refine ⟨fun h3 => ?_, fun h3 => ?_⟩
      · have h3' : k < s.size := by simpa using h3
        have hu1 := until_le s.data.toList (k + 1) 47 47 (by omega)
        have hst1 := rParts_step (l := s.data.toList) (k := k) (by omega)
        have hw : IntKind.i64.wrap ((k : Int) + 1) = ((k + 1 : Nat) : Int) := by rw [wrap_i64 _ (by omega) (by omega)]; omega
        simp only [hw]
        refine (until_fv WG s (by omega) 47 47 (k + 1) (by omega)).call rfl ?_
        generalize he : untilN s.data.toList (k + 1) 47 47 = e at hu1 hst1
        rw [bOf_extract] at hst1
        simp only [push_cast, reduceIte, Nat.reduceMul, Nat.reduceEqDiff, Nat.reduceAdd, Nat.reduceLT, Nat.reduceLeDiff, reduceCtorEq, Int.reduceToNat, he, hw]
        refine ⟨fun h5 => ?_, fun h5 => ?_⟩
        · have h5' : e = k + 1 ∧ e = s.size := by simp at h5; omega
          rw [if_pos (by omega)] at hst1
          refine ⟨(ps, true, e), ⟨?_, by simp only; omega, by simp only; omega, hi4⟩, by simp only; omega, [], ?_⟩
          · rw [hi1, hst1, List.drop_eq_nil_of_le (by simp only; omega)]
            simp [rParts]
          · simp [S3, lC, zC, eB, LeR, rnf, aget, envR, tabR, injR, notIn, loR, V.rn, V.rnL, V.bd, V.bdL, Blk.rn, Blk.bd, envRn, envBd]
        · have h5' : ¬ (e = k + 1 ∧ e = s.data.toList.length) := by simp at h5; omega
          rw [if_neg h5'] at hst1
          have hpz : (s.extract (k + 1) e).size ≤ 200 := by rw [ByteArray.size_extract]; omega
          refine T_drawS [7, 8, 10] [(1, 8)] mixed (by kernel_rfl) ?_
          simp only [push_cast, reduceIte, Nat.reduceMul, Nat.reduceEqDiff, Nat.reduceAdd, Nat.reduceLT, Nat.reduceLeDiff, reduceCtorEq, Int.reduceToNat, hw]
          refine ⟨⟨by omega, by omega, by omega⟩, by omega, (ps ++ [s.extract (k + 1) e], d, e), ⟨?_, by simp only; omega, by simp only [List.length_append, List.length_singleton]; omega, fun q hq => ?_⟩, by simp only; omega, [(2, 4)], ?_⟩
          · rw [hi1, hst1]; simp
          · rcases List.mem_append.1 hq with hq | hq
            · exact hi4 q hq
            · rw [List.mem_singleton.1 hq]; exact hpz
          · have htk : List.take ps.length (ps.map pS) = ps.map pS := List.take_of_length_le (by simp)
            simp [S3, lC, zC, eB, htk, LeR, rnf, aget, envR, tabR, injR, notIn, loR, V.rn, V.rnL, V.bd, V.bdL, Blk.rn, Blk.bd, envRn, envBd]
      · have h3' : k = s.size := by simp at h3; omega
        rw [List.drop_eq_nil_of_le (by omega)] at hi1
        simp only [rParts, List.append_nil, Bool.or_false] at hi1
        have hok : OkL ⟨sc, hst, p, ps, d⟩ := ⟨by simp only; omega, by simp only; omega, fun i q hq => Nat.le_trans (hi4 q (List.mem_of_getElem? hq)) (by omega)⟩
        have htk : List.take ps.length (ps.map pS) = ps.map pS := List.take_of_length_le (by simp)
        refine (refCheck_fv WG _ hok).lend rfl (by simp [snapT, snap, snapL, snap1, aget, locP]; exact htk) ?_
        simp only [push_cast, reduceIte, Nat.reduceMul, Nat.reduceEqDiff, Nat.reduceAdd, Nat.reduceLT, Nat.reduceLeDiff, reduceCtorEq, Int.reduceToNat]
        refine ⟨vS (refW ⟨sc, hst, p, ps, d⟩), fun hc => CallT.borrow (refWrite_fv WG _ hok (check_port (by simpa using hc)).1 (check_port (by simpa using hc)).2) rfl (by simp [snapT, snap, snapL, snap1, aget, locP]; exact htk), ?_⟩
        simp only [zC, push_cast, reduceIte, Nat.reduceMul, Nat.reduceEqDiff, Nat.reduceAdd, Nat.reduceLT, Nat.reduceLeDiff, reduceCtorEq, Int.reduceToNat]
        refine ⟨fun h6 => ?_, fun h6 => ?_⟩
        · have : refParse s = none := by
            rw [hi1, finL, if_neg]
            rintro ⟨a, b⟩
            rw [b, a] at h6
            simp [strEq] at h6
          rw [this]; exact parseK_none
        · have : refParse s = some ⟨sc, hst, p, ps, d⟩ := by
            rw [hi1, finL, if_pos]
            simp only [Bool.or_eq_false_iff, Bool.not_eq_false', decide_eq_true_eq, strEq_iff] at h6
            exact h6
          rw [this]; exact parseK_some rfl
end Go.Proofs.YtplpggeefemelaaGreatDoor

namespace Go.Proofs.YtplpggeefemelaaGreatDoor
open Go Go.Gp

def slB : ByteArray := ⟨#[47]⟩
def coB : ByteArray := ⟨#[58]⟩
def csB : ByteArray := ⟨#[58, 47, 47]⟩
def rsB : ByteArray := ⟨#[114, 115, 121, 110, 99]⟩
def htB : ByteArray := ⟨#[104, 116, 116, 112, 115]⟩
def schI (s : ByteArray) : Int := if s = rsB then 1 else if s = htB then 2 else 0
def lParts : Nat → ByteArray → Bool → List ByteArray × Bool
  | 0, _, d => ([], d)
  | n + 1, r, d => if r = eB then ([], d) else ((cutB r slB).1 :: (lParts n (cutB r slB).2.1 ((cutB r slB).2.2 && decide ((cutB r slB).2.1 = eB))).1, (lParts n (cutB r slB).2.1 ((cutB r slB).2.2 && decide ((cutB r slB).2.1 = eB))).2)
def portO (a : ByteArray) : Option Int := if (cutB a coB).2.2 then (if atoiOk (cutB a coB).2.1 ∧ 1 ≤ atoiN (cutB a coB).2.1 then some (atoiN (cutB a coB).2.1) else none) else some 0
def dirB (x : List ByteArray × Bool) : Bool := x.2 || decide (x.1.length = 0)
/-- What Parse gives, if anything. -/
def lParse (s : ByteArray) : Option Locator :=
  if 200 < s.size then none
  else if (cutB s csB).2.2 = false ∨ schI (cutB s csB).1 = 0 then none
  else match portO (cutB (cutB s csB).2.1 slB).1 with
    | none => none
    | some p => finL ⟨schI (cutB s csB).1, (cutB (cutB (cutB s csB).2.1 slB).1 coB).1, p, (lParts 11 (cutB (cutB s csB).2.1 slB).2.1 false).1, dirB (lParts 11 (cutB (cutB s csB).2.1 slB).2.1 false)⟩ s

theorem cut_one (s sep : ByteArray) : (cutB s sep).1.size = (Lib.cut s.data.toList sep.data.toList).1.length := by simp [cutB, ByteArray.size]
theorem cut_two (s sep : ByteArray) : (cutB s sep).2.1.size = (Lib.cut s.data.toList sep.data.toList).2.1.length := by simp [cutB, ByteArray.size]
theorem cut_size (s sep : ByteArray) : (cutB s sep).1.size ≤ s.size ∧ (cutB s sep).2.1.size ≤ s.size := by
  have hl := len_list s
  rw [cut_one, cut_two]
  unfold Lib.cut
  split
  · simp only [List.length_take, List.length_drop]; omega
  · simp only [List.length_nil]; omega
theorem eB_of {s : ByteArray} (h : s.size = 0) : s = eB := by
  have hl := len_list s
  exact bytes_ext (by rw [List.eq_nil_of_length_eq_zero (l := s.data.toList) (by omega)]; rfl)
theorem cut_less (s sep : ByteArray) (h : s ≠ eB) (h1 : 1 ≤ sep.size) : (cutB s sep).2.1.size < s.size := by
  have hl := len_list s
  have hs := len_list sep
  have : 0 < s.size := by
    rcases Nat.eq_zero_or_pos s.size with h0 | h0
    · exact absurd (eB_of h0) h
    · exact h0
  rw [cut_two]
  unfold Lib.cut
  split
  · simp only [List.length_drop]; omega
  · simp only [List.length_nil]; omega

theorem rs_ht : strEq htB rsB = false := by
  rw [strEq_false]; intro h
  have := congrArg (fun b : ByteArray => b.data.toList) h
  simp [htB, rsB] at this
theorem sch_get (s : ByteArray) : mget (mset (mset [] (.string ⟨#[114, 115, 121, 110, 99]⟩) (.v (.int .u8 1))) (.string ⟨#[104, 116, 116, 112, 115]⟩) (.v (.int .u8 2))) (.string s) (.v (.int .u8 0)) = .v (.int .u8 (schI s)) := by
  have e1 : mset (mset [] (.string ⟨#[114, 115, 121, 110, 99]⟩) (.v (.int .u8 1))) (.string ⟨#[104, 116, 116, 112, 115]⟩) (.v (.int .u8 2)) = [(.string rsB, .v (.int .u8 1)), (.string htB, .v (.int .u8 2))] := by
    show mset [(.string rsB, .v (.int .u8 1))] (.string htB) (.v (.int .u8 2)) = _
    simp only [mset, keyEq, rs_ht, Bool.false_eq_true, if_false]
  have e : ∀ a b : ByteArray, keyEq (.string a) (.string b) = decide (a = b) := fun a b => by
    show strEq a b = _
    by_cases h : a = b
    · rw [decide_eq_true h]; exact (strEq_iff a b).2 h
    · rw [decide_eq_false h]; exact (strEq_false a b).2 h
  rw [e1]
  simp only [mget, mfind, e, schI, decide_eq_true_eq]
  by_cases h1 : s = rsB
  · simp [h1]
  · by_cases h2 : s = htB
    · simp [h2]
      have : ¬ htB = rsB := (strEq_false _ _).1 rs_ht
      simp [this]
    · simp [h1, h2]

def cloP : V := .clo (.func 204) [] [.ref 2 0]
/-- At the head of the loop: parts, directory, rest. -/
def S5 (s : ByteArray) (sc : Int) (h : ByteArray) (p : Int) (i : List ByteArray × Bool × ByteArray) : St := ⟨[(0, vS s), (2, .ref 0 0), (4, .ref 1 0), (5, .ref 2 0), (6, cloP)], [(0, .box zC), (1, .box (lC sc h p 3 i.1.length i.2.1)), (2, .box [vS i.2.2]), (3, .arr 1 (i.1.map pS) true)], 4, 0, 115⟩
def Left5 (s : ByteArray) (sc : Int) (h : ByteArray) (p : Int) (i : List ByteArray × Bool × ByteArray) : Prop :=
  lParse s = finL ⟨sc, h, p, i.1 ++ (lParts (11 - i.1.length) i.2.2 i.2.1).1, (lParts (11 - i.1.length) i.2.2 i.2.1).2 || decide ((i.1 ++ (lParts (11 - i.1.length) i.2.2 i.2.1).1).length = 0)⟩ s ∧ i.2.2.size ≤ 200 ∧ i.1.length ≤ 11 ∧ ∀ q ∈ i.1, q.size ≤ 200

set_option maxHeartbeats 8000000 in
set_option maxRecDepth 10000 in
theorem lParse_ct0 (WG : World) (g : GW WG) (ge : GE WG) (s : ByteArray) : CallT Tryz.prog WG 152 [vS s] [] 0 (parseK (lParse s)) noP := by
  refine CallT.tidy (CallT_fnT Tryz.func152 (rs := [.cell 2 146, .tmp 3]) (n := 115) rfl rfl (Nat.le_of_ble_eq_true rfl) rfl ?_)
  refine T_seqC ?_
  simp only [push_cast, reduceIte, Nat.reduceMul, Nat.reduceEqDiff, Nat.reduceAdd, Nat.reduceLT, Nat.reduceLeDiff, reduceCtorEq, Int.reduceToNat]
  refine T_seqC ?_
  simp only [push_cast, reduceIte, Nat.reduceMul, Nat.reduceEqDiff, Nat.reduceAdd, Nat.reduceLT, Nat.reduceLeDiff, reduceCtorEq, Int.reduceToNat]
  refine T_seqC ?_
  simp only [push_cast, reduceIte, Nat.reduceMul, Nat.reduceEqDiff, Nat.reduceAdd, Nat.reduceLT, Nat.reduceLeDiff, reduceCtorEq, Int.reduceToNat]
  refine T_seqC ?_
  simp only [push_cast, reduceIte, Nat.reduceMul, Nat.reduceEqDiff, Nat.reduceAdd, Nat.reduceLT, Nat.reduceLeDiff, reduceCtorEq, Int.reduceToNat]
  refine T_seqC ?_
  simp only [push_cast, reduceIte, Nat.reduceMul, Nat.reduceEqDiff, Nat.reduceAdd, Nat.reduceLT, Nat.reduceLeDiff, reduceCtorEq, Int.reduceToNat]
  refine ⟨fun h => ?_, fun h => ?_⟩
  · have : lParse s = none := by rw [lParse, if_pos (by simp at h; omega)]
    rw [this]; exact parseK_none
  have h0 : ¬ 200 < s.size := by simp at h; omega
  refine T_nilBox 1 3 1 rfl rfl ?_
  simp only [push_cast, reduceIte, Nat.reduceMul, Nat.reduceEqDiff, Nat.reduceAdd, Nat.reduceLT, Nat.reduceLeDiff, reduceCtorEq, Int.reduceToNat]
  refine T_seqC ?_
  simp only [push_cast, reduceIte, Nat.reduceMul, Nat.reduceEqDiff, Nat.reduceAdd, Nat.reduceLT, Nat.reduceLeDiff, reduceCtorEq, Int.reduceToNat]
  refine cutc_ct WG g csB s (by omega) rfl ?_
  have hp : lParse s = if (cutB s csB).2.2 = false ∨ schI (cutB s csB).1 = 0 then none
    else match portO (cutB (cutB s csB).2.1 slB).1 with
    | none => none
    | some p => finL ⟨schI (cutB s csB).1, (cutB (cutB (cutB s csB).2.1 slB).1 coB).1, p, (lParts 11 (cutB (cutB s csB).2.1 slB).2.1 false).1, dirB (lParts 11 (cutB (cutB s csB).2.1 slB).2.1 false)⟩ s := by rw [lParse, if_neg h0]
  have hz := cut_size s csB
  generalize cutB s csB = c1 at hp hz
  obtain ⟨sch, r1, ok1⟩ := c1
  simp only at hp hz
  simp only [push_cast, reduceIte, Nat.reduceMul, Nat.reduceEqDiff, Nat.reduceAdd, Nat.reduceLT, Nat.reduceLeDiff, reduceCtorEq, Int.reduceToNat]
  refine T_seqC ?_
  simp only [push_cast, reduceIte, Nat.reduceMul, Nat.reduceEqDiff, Nat.reduceAdd, Nat.reduceLT, Nat.reduceLeDiff, reduceCtorEq, Int.reduceToNat, sch_get]
  refine T_seqC ?_
  simp only [push_cast, reduceIte, Nat.reduceMul, Nat.reduceEqDiff, Nat.reduceAdd, Nat.reduceLT, Nat.reduceLeDiff, reduceCtorEq, Int.reduceToNat]
  refine ⟨fun h1 => ?_, fun h1 => ?_⟩
  · have : lParse s = none := by
      rw [hp, if_pos]
      simp only [Bool.or_eq_true, Bool.not_eq_true', decide_eq_true_eq] at h1
      exact h1
    rw [this]; exact parseK_none
  rw [if_neg (by
    rintro (a | a)
    · rw [a] at h1; simp at h1
    · simp [a] at h1)] at hp
  refine T_seqC ?_
  simp only [push_cast, reduceIte, Nat.reduceMul, Nat.reduceEqDiff, Nat.reduceAdd, Nat.reduceLT, Nat.reduceLeDiff, reduceCtorEq, Int.reduceToNat]
  refine cutc_ct WG g slB r1 (by omega) rfl ?_
  have hz2 := cut_size r1 slB
  generalize cutB r1 slB = c2 at hp hz2
  obtain ⟨at_, r2, ok2⟩ := c2
  simp only at hp hz2
  simp only [push_cast, reduceIte, Nat.reduceMul, Nat.reduceEqDiff, Nat.reduceAdd, Nat.reduceLT, Nat.reduceLeDiff, reduceCtorEq, Int.reduceToNat]
  refine T_seqC ?_
  simp only [push_cast, reduceIte, Nat.reduceMul, Nat.reduceEqDiff, Nat.reduceAdd, Nat.reduceLT, Nat.reduceLeDiff, reduceCtorEq, Int.reduceToNat]
  refine (cut_fv WG g at_ coB (by omega)).call rfl ?_
  have hz3 := cut_size at_ coB
  rw [portO] at hp
  generalize cutB at_ coB = c3 at hp hz3
  obtain ⟨host, port, colon⟩ := c3
  simp only at hp hz3
  simp only [push_cast, reduceIte, Nat.reduceMul, Nat.reduceEqDiff, Nat.reduceAdd, Nat.reduceLT, Nat.reduceLeDiff, reduceCtorEq, Int.reduceToNat]
  refine T_seqC ?_
  simp only [push_cast, reduceIte, Nat.reduceMul, Nat.reduceEqDiff, Nat.reduceAdd, Nat.reduceLT, Nat.reduceLeDiff, reduceCtorEq, Int.reduceToNat]
  refine T_cutR (fun p : Int => S5 s (schI sch) host p ([], false, r2)) (fun p => Left5 s (schI sch) host p ([], false, r2)) ?_ (fun p hi => ?_)
  · have fin5 : ∀ p : Int, (lParse s = finL ⟨schI sch, host, p, (lParts 11 r2 false).1, dirB (lParts 11 r2 false)⟩ s) → Left5 s (schI sch) host p ([], false, r2) := fun p h => ⟨by rw [h]; simp [dirB], by simp only; omega, by simp, by simp⟩
    simp only [push_cast, reduceIte, Nat.reduceMul, Nat.reduceEqDiff, Nat.reduceAdd, Nat.reduceLT, Nat.reduceLeDiff, reduceCtorEq, Int.reduceToNat]
    refine ⟨fun h2 => ?_, fun h2 => ?_⟩
    · rw [if_pos h2] at hp
      obtain ⟨e, hfv, ⟨hok, rfl⟩ | ⟨hok, t, x, rfl⟩⟩ := atoi_fv WG ge port (by omega)
      · refine hfv.call rfl ?_
        simp only [push_cast, reduceIte, Nat.reduceMul, Nat.reduceEqDiff, Nat.reduceAdd, Nat.reduceLT, Nat.reduceLeDiff, reduceCtorEq, Int.reduceToNat]
        refine ⟨fun h3 => ?_, fun h3 => ?_⟩
        · have : lParse s = none := by rw [hp, if_neg (by simp at h3; omega)]
          rw [this]; exact parseK_none
        · rw [if_pos ⟨hok, by simp at h3; omega⟩] at hp
          refine ⟨atoiN port, fin5 _ hp, [], ?_⟩
          simp [S5, lC, zC, eB, cloP, LeR, rnf, aget, envR, tabR, injR, notIn, loR, V.rn, V.rnL, V.bd, V.bdL, Blk.rn, Blk.bd, envRn, envBd]
      · refine hfv.call rfl ?_
        simp only [push_cast, reduceIte, Nat.reduceMul, Nat.reduceEqDiff, Nat.reduceAdd, Nat.reduceLT, Nat.reduceLeDiff, reduceCtorEq, Int.reduceToNat]
        have : lParse s = none := by rw [hp, if_neg (by rw [hok]; simp)]
        rw [this]; exact parseK_none
    · rw [if_neg (by rw [h2]; simp)] at hp
      refine ⟨0, fin5 _ hp, [], ?_⟩
      simp [S5, lC, zC, eB, cloP, LeR, rnf, aget, envR, tabR, injR, notIn, loR, V.rn, V.rnL, V.bd, V.bdL, Blk.rn, Blk.bd, envRn, envBd]
  · refine T_cutR (S5 s (schI sch) host p) (fun i => Left5 s (schI sch) host p i ∧ (i.1.length = 11 ∨ i.2.2 = eB)) ?_ (fun i hi => ?_)
    · simp only [push_cast, reduceIte, Nat.reduceMul, Nat.reduceEqDiff, Nat.reduceAdd, Nat.reduceLT, Nat.reduceLeDiff, reduceCtorEq, Int.reduceToNat]
      refine T_loopR (S5 s (schI sch) host p) (Left5 s (schI sch) host p) (fun i => i.2.2.size) ([], false, r2) [] hi (by simp [S5, lC, zC, eB, cloP, LeR, rnf, aget, envR, tabR, injR, notIn, loR, V.rn, V.rnL, V.bd, V.bdL, Blk.rn, Blk.bd, envRn, envBd]) (fun i hi => ?_)
      obtain ⟨ps, d, r⟩ := i
      obtain ⟨hi1, hi2, hi3, hi4⟩ := hi
      simp only at hi1 hi2 hi3 hi4
      simp only [S5, zC, lC, cloP, push_cast, reduceIte, Nat.reduceMul, Nat.reduceEqDiff, Nat.reduceAdd, Nat.reduceLT, Nat.reduceLeDiff, reduceCtorEq, Int.reduceToNat]
      refine ⟨fun h3 => ?_, fun h3 => ?_⟩
      · have h3' : r ≠ eB ∧ ps.length ≤ 10 := by
          simp only [Bool.and_eq_true, Bool.not_eq_true', strEq_false, decide_eq_true_eq] at h3
          exact ⟨h3.1, by omega⟩
        refine cutc_ct WG g slB r (by omega) rfl ?_
        have hz4 := cut_size r slB
        have hz5 := cut_less r slB h3'.1 (Nat.le_refl 1)
        obtain ⟨n, hn⟩ : ∃ n, 11 - ps.length = n + 1 := ⟨10 - ps.length, by omega⟩
        rw [hn, lParts, if_neg h3'.1] at hi1
        generalize cutB r slB = c at hi1 hz4 hz5
        obtain ⟨part, r', more⟩ := c
        simp only at hi1 hz4 hz5
        simp only [push_cast, reduceIte, Nat.reduceMul, Nat.reduceEqDiff, Nat.reduceAdd, Nat.reduceLT, Nat.reduceLeDiff, reduceCtorEq, Int.reduceToNat]
        refine ⟨by omega, (ps ++ [part], more && decide (r' = eB), r'), ⟨?_, by simp only; omega, by simp only [List.length_append, List.length_singleton]; omega, fun q hq => ?_⟩, hz5, [(3, 5)], ?_⟩
        · have e11 : 11 - (ps ++ [part]).length = n := by simp only [List.length_append, List.length_singleton]; omega
          simp only [e11]
          rw [hi1]; simp
        · rcases List.mem_append.1 hq with hq | hq
          · exact hi4 q hq
          · rw [List.mem_singleton.1 hq]; omega
        · have htk : List.take ps.length (ps.map pS) = ps.map pS := List.take_of_length_le (by simp)
          have hst : strEq r' ⟨#[]⟩ = decide (r' = eB) := by
            by_cases e : r' = eB
            · rw [decide_eq_true e]; exact (strEq_iff _ _).2 e
            · rw [decide_eq_false e]; exact (strEq_false _ _).2 e
          simp [S5, lC, zC, eB, cloP, htk, hst, LeR, rnf, aget, envR, tabR, injR, notIn, loR, V.rn, V.rnL, V.bd, V.bdL, Blk.rn, Blk.bd, envRn, envBd]
      · refine ⟨(ps, d, r), ⟨⟨hi1, hi2, hi3, hi4⟩, ?_⟩, [], ?_⟩
        · simp only [Bool.and_eq_false_iff, Bool.not_eq_false', strEq_iff, decide_eq_false_iff_not] at h3
          rcases h3 with h3 | h3
          · exact .inr h3
          · left; simp only; omega
        · simp [S5, lC, zC, eB, cloP, LeR, rnf, aget, envR, tabR, injR, notIn, loR, V.rn, V.rnL, V.bd, V.bdL, Blk.rn, Blk.bd, envRn, envBd]
    · obtain ⟨ps, d, r⟩ := i
      obtain ⟨⟨hi1, hi2, hi3, hi4⟩, hend⟩ := hi
      simp only at hi1 hi2 hi3 hi4 hend
      have hlp : lParts (11 - ps.length) r d = ([], d) := by
        rcases hend with hend | hend
        · rw [hend]; rfl
        · cases hq : 11 - ps.length with
          | zero => rfl
          | succ n => rw [lParts, if_pos hend]
      rw [hlp] at hi1
      simp only [List.append_nil] at hi1
      have htk : List.take ps.length (ps.map pS) = ps.map pS := List.take_of_length_le (by simp)
      generalize hd' : (d || decide (ps.length = 0)) = d' at hi1
      have hok : OkL ⟨schI sch, host, p, ps, d'⟩ := ⟨by simp only; omega, by simp only; omega, fun i q hq => Nat.le_trans (hi4 q (List.mem_of_getElem? hq)) (by omega)⟩
      have e0 : decide ((ps.length : Int) = 0) = decide (ps.length = 0) := decide_eq_decide.2 (by omega)
      refine T_seqC ?_
      simp only [S5, zC, lC, cloP, push_cast, reduceIte, Nat.reduceMul, Nat.reduceEqDiff, Nat.reduceAdd, Nat.reduceLT, Nat.reduceLeDiff, reduceCtorEq, Int.reduceToNat, e0, hd']
      refine T_fin ?_
      simp only [push_cast, reduceIte, Nat.reduceMul, Nat.reduceEqDiff, Nat.reduceAdd, Nat.reduceLT, Nat.reduceLeDiff, reduceCtorEq, Int.reduceToNat]
      refine (lcheck_fv WG g _ hok).lend rfl (by simp [snapT, snap, snapL, snap1, aget, locP]; exact htk) ?_
      simp only [push_cast, reduceIte, Nat.reduceMul, Nat.reduceEqDiff, Nat.reduceAdd, Nat.reduceLT, Nat.reduceLeDiff, reduceCtorEq, Int.reduceToNat]
      refine ⟨vS (refW ⟨schI sch, host, p, ps, d'⟩), fun hc => CallT.borrow (write_fv WG g _ hok (check_port (by simpa using hc)).1 (check_port (by simpa using hc)).2) rfl (by simp [snapT, snap, snapL, snap1, aget, locP]; exact htk), ?_⟩
      simp only [push_cast, reduceIte, Nat.reduceMul, Nat.reduceEqDiff, Nat.reduceAdd, Nat.reduceLT, Nat.reduceLeDiff, reduceCtorEq, Int.reduceToNat]
      refine ⟨fun h6 => ?_, fun h6 => ?_⟩
      · have : lParse s = none := by
          rw [hi1, finL, if_neg]
          rintro ⟨a, b⟩
          rw [b, a] at h6
          simp [strEq] at h6
        rw [this]; exact parseK_none
      · have : lParse s = some ⟨schI sch, host, p, ps, d'⟩ := by
          rw [hi1, finL, if_pos]
          simp only [Bool.or_eq_false_iff, Bool.not_eq_false', decide_eq_true_eq, strEq_iff] at h6
          exact h6
        rw [this]; exact parseK_some rfl
end Go.Proofs.YtplpggeefemelaaGreatDoor

namespace Go.Proofs.YtplpggeefemelaaGreatDoor
open Go Go.Gp

theorem digits_rec {n : Nat} (h : ¬ n < 10) : Lib.decDigits n = Lib.decDigits (n / 10) ++ [UInt8.ofNat (48 + n % 10)] := by rw [Lib.decDigits, dif_neg h]
theorem dig_nat (k : Nat) (h : k < 10) : (UInt8.ofNat (48 + k)).toNat = 48 + k := by simp; omega
theorem digits_all (n : Nat) : ∀ c ∈ Lib.decDigits n, 48 ≤ c.toNat ∧ c.toNat ≤ 57 := by
  induction n using Nat.strongRecOn with
  | _ n ih =>
    intro c hc
    by_cases h : n < 10
    · rw [Lib.decDigits_one h, List.mem_singleton] at hc
      subst hc; rw [dig_nat n h]; omega
    · rw [digits_rec h] at hc
      rcases List.mem_append.1 hc with hc | hc
      · exact ih (n / 10) (by omega) c hc
      · rw [List.mem_singleton] at hc; subst hc; rw [dig_nat _ (by omega)]; omega
theorem digits_ne (n : Nat) : Lib.decDigits n ≠ [] := by
  by_cases h : n < 10
  · rw [Lib.decDigits_one h]; simp
  · rw [digits_rec h]; simp
theorem digits_len : ∀ (k n : Nat), 1 ≤ k → n < 10 ^ k → (Lib.decDigits n).length ≤ k
  | 0, _, h, _ => by omega
  | k + 1, n, _, h => by
    by_cases h1 : n < 10
    · rw [Lib.decDigits_one h1]; simp
    · rw [digits_rec h1, List.length_append]
      rw [Nat.pow_succ] at h
      cases k with
      | zero => simp at h; omega
      | succ k => have := digits_len (k + 1) (n / 10) (by omega) (by omega); simp; omega
theorem digs_dec (n : Nat) : ∀ r, digs (Lib.decDigits n ++ r) 0 = digs r n := by
  induction n using Nat.strongRecOn with
  | _ n ih =>
    intro r
    by_cases h : n < 10
    · rw [Lib.decDigits_one h, List.cons_append, List.nil_append, digs, dig_nat n h, if_pos (by omega)]
      congr 1; omega
    · rw [digits_rec h, List.append_assoc, ih (n / 10) (by omega), List.cons_append, List.nil_append, digs, dig_nat _ (by omega), if_pos (by omega)]
      congr 1; omega
theorem uint_dec (n : Nat) : n < 1000000 → ∀ r, Lib.parseUint10 0 (Lib.decDigits n ++ r) = Lib.parseUint10 n r := by
  induction n using Nat.strongRecOn with
  | _ n ih =>
    intro hn r
    by_cases h : n < 10
    · rw [Lib.decDigits_one h, List.cons_append, List.nil_append, Lib.parseUint10, dig_nat n h, if_pos (by omega), if_neg (by omega), if_neg (by omega)]
      congr 1; omega
    · rw [digits_rec h, List.append_assoc, ih (n / 10) (by omega) (by omega), List.cons_append, List.nil_append, Lib.parseUint10, dig_nat _ (by omega), if_pos (by omega), if_neg (by omega), if_neg (by omega)]
      congr 1; omega
theorem atoi_dec (n : Nat) (hn : n < 1000000) : Lib.atoiAll (Lib.decDigits n) = .ok (n : Int) := by
  have h1 := uint_dec n hn []
  rw [List.append_nil] at h1
  have hall := digits_all n
  have hne := digits_ne n
  generalize Lib.decDigits n = l at h1 hall hne
  cases l with
  | nil => exact absurd rfl hne
  | cons c r =>
    have hc := hall c List.mem_cons_self
    unfold Lib.atoiAll
    simp only
    rw [if_neg (by omega), Lib.parseMag, if_neg (by simp), h1]
    simp only [Lib.parseUint10]
    rw [if_neg (by omega), if_neg (by omega), if_neg (by omega)]

theorem index_at (h : UInt8) (t b : List UInt8) : ∀ a : List UInt8, h ∉ a → Lib.index (a ++ (h :: t) ++ b) (h :: t) = (a.length : Int)
  | [], _ => by
    rw [List.nil_append, List.cons_append, Lib.index]
    have : (h :: t).isPrefixOf (h :: (t ++ b)) = true := by rw [List.isPrefixOf_iff_prefix]; exact ⟨b, rfl⟩
    rw [this]; rfl
  | x :: a, hn => by
    have hx : ¬ h = x := fun e => hn (by rw [e]; exact List.mem_cons_self)
    have ih := index_at h t b a (fun hm => hn (List.mem_cons_of_mem _ hm))
    rw [List.cons_append, List.cons_append, Lib.index]
    have : (h :: t).isPrefixOf (x :: (a ++ h :: t ++ b)) = false := by
      have : (h == x) = false := by simpa using hx
      simp [List.isPrefixOf, this]
    rw [this, ih]
    have : ((a.length : Int) == -1) = false := by simp
    rw [this]
    simp
theorem index_no (h : UInt8) : ∀ a : List UInt8, h ∉ a → Lib.index a [h] = -1
  | [], _ => by simp [Lib.index]
  | x :: a, hn => by
    have hx : ¬ x = h := fun e => hn (by rw [e]; exact List.mem_cons_self)
    rw [index_one, if_neg hx, if_pos (index_no h a (fun hm => hn (List.mem_cons_of_mem _ hm)))]
theorem bOf_list (l : List UInt8) : (bOf l).data.toList = l := by simp [bOf]
theorem bOf_of (s : ByteArray) : bOf s.data.toList = s := bytes_ext (bOf_list _)
theorem cut_at {h : UInt8} {t a b : List UInt8} (hn : h ∉ a) : cutB (bOf (a ++ (h :: t) ++ b)) (bOf (h :: t)) = (bOf a, bOf b, true) := by
  have hi := index_at h t b a hn
  simp only [cutB, bOf_list, Lib.cut, hi]
  rw [if_pos (by omega)]
  simp only [Int.toNat_natCast]
  have e1 : (a ++ h :: t ++ b).take a.length = a := by rw [List.append_assoc, List.take_left]
  have e2 : (a ++ h :: t ++ b).drop (a.length + (h :: t).length) = b := by rw [← List.length_append, List.drop_left]
  rw [e1, e2]; rfl
theorem cut_no {h : UInt8} {a : List UInt8} (hn : h ∉ a) : cutB (bOf a) (bOf [h]) = (bOf a, eB, false) := by
  have hi := index_no h a hn
  simp only [cutB, bOf_list, Lib.cut, hi]
  rfl
end Go.Proofs.YtplpggeefemelaaGreatDoor

namespace Go.Proofs.YtplpggeefemelaaGreatDoor
open Go Go.Gp

def schL (sc : Int) : List UInt8 := if sc = 1 then [114, 115, 121, 110, 99] else [104, 116, 116, 112, 115]
def portL (p : Int) : List UInt8 := if p = 0 then [] else 58 :: Lib.decDigits p.toNat
def tailL (ps : List ByteArray) (d : Bool) : List UInt8 := (ps.map fun p => 47 :: p.data.toList).flatten ++ (if (d || decide (ps.length = 0)) = true then [47] else [])

theorem refW_list (l : Locator) : (refW l).data.toList = schL l.scheme ++ [58, 47, 47] ++ l.host.data.toList ++ portL l.port ++ tailL l.parts l.dir := by
  have e0 : (wr0 l).data.toList = schL l.scheme ++ [58, 47, 47] ++ l.host.data.toList := by
    unfold wr0 schL
    split <;> simp [app_list]
  have e1 : (wr1 l).data.toList = schL l.scheme ++ [58, 47, 47] ++ l.host.data.toList ++ portL l.port := by
    unfold wr1 portL
    split
    · rw [e0]; simp
    · rw [app_list, app_list, e0]; simp
  unfold refW tailL
  split
  · rw [app_list, wrParts_list, e1]; simp [bsl']
  · rw [wrParts_list, e1]; simp
theorem refW_bOf (l : Locator) : refW l = bOf (schL l.scheme ++ [58, 47, 47] ++ l.host.data.toList ++ portL l.port ++ tailL l.parts l.dir) := by rw [← refW_list, bOf_of]

/-- What Check asks. -/
structure Val (l : Locator) : Prop where
  parts : l.parts.length ≤ 10
  sch : l.scheme = 1 ∨ l.scheme = 2
  host : hostB l.host = true
  port : 0 ≤ l.port ∧ l.port ≤ 65535
  some : l.parts.length = 0 → l.dir = true
  part : ∀ p ∈ l.parts, nameB p = true
  size : (refW l).size ≤ 200
theorem val_of {l : Locator} (h : checkI l = 0) : Val l := by
  unfold checkI at h
  split at h
  · cases h
  split at h
  · cases h
  split at h
  · cases h
  split at h
  · cases h
  rename_i h1 h2 h3 h4
  simp only [badB, Bool.or_eq_true, Bool.and_eq_true, Bool.not_eq_true', decide_eq_true_eq, decide_eq_false_iff_not, not_or, not_and] at h2
  rw [List.any_eq_true] at h3
  obtain ⟨⟨⟨⟨⟨a1, a2⟩, a3⟩, a4⟩, a5⟩, a6⟩ := h2
  refine ⟨by omega, ?_, by simpa using a2, by omega, fun h => ?_, fun p hp => ?_, by omega⟩
  · by_cases e : l.scheme = 1
    · exact .inl e
    · exact .inr (Classical.not_not.1 (a1 e))
  · have := a6 (by omega); simpa using this
  · cases hb : nameB p with
    | true => rfl
    | false => exact absurd ⟨p, hp, by rw [hb]; rfl⟩ h3

theorem host_char {s : ByteArray} (h : hostB s = true) {c : UInt8} (hc : c ∈ s.data.toList) : c ≠ 47 ∧ c ≠ 58 := by
  simp only [hostB, Bool.and_eq_true, decide_eq_true_eq] at h
  obtain ⟨k, hk⟩ := List.mem_iff_getElem?.1 hc
  have hlt : k < s.size := by rw [← len_list]; exact (List.getElem?_eq_some_iff.1 hk).1
  have := h.2 k hlt
  rw [get_list hlt] at hk
  have hb : bAt s k = c := Option.some.inj hk
  have e0 : cAt s (k : Int) = (c.toNat : Int) := by simp [cAt, hb]
  simp only [hostBad, Bool.or_eq_false_iff, Bool.and_eq_false_iff, Bool.not_eq_false', e0] at this
  have h1 := this.1.1
  refine ⟨fun e => ?_, fun e => ?_⟩ <;> (subst e; revert h1; decide)
theorem part_char {s : ByteArray} (h : nameB s = true) {c : UInt8} (hc : c ∈ s.data.toList) : c ≠ 47 := by
  simp only [nameB, Bool.and_eq_true, decide_eq_true_eq] at h
  obtain ⟨k, hk⟩ := List.mem_iff_getElem?.1 hc
  have hlt : k < s.size := by rw [← len_list]; exact (List.getElem?_eq_some_iff.1 hk).1
  have := h.2 k hlt
  rw [get_list hlt] at hk
  have hb : bAt s k = c := Option.some.inj hk
  rw [hb] at this
  intro e; subst e; revert this; decide
theorem part_ne {s : ByteArray} (h : nameB s = true) : s.data.toList ≠ [] := fun e => by
  have := len_list s
  simp only [nameB, Bool.and_eq_true, decide_eq_true_eq] at h
  rw [e] at this; simp at this; omega
theorem port_char {p : Int} {c : UInt8} (hc : c ∈ portL p) : c ≠ 47 := by
  unfold portL at hc
  split at hc
  · cases hc
  · rcases List.mem_cons.1 hc with rfl | hc
    · decide
    · have := digits_all _ c hc
      intro e; subst e; revert this; decide

/-- Parts with marks between them, and one behind. -/
def jn : List ByteArray → Bool → List UInt8
  | [], _ => []
  | p :: r, d => if r.length = 0 then p.data.toList ++ (if d then [47] else []) else p.data.toList ++ 47 :: jn r d
theorem tail_jn (ps : List ByteArray) (d : Bool) (h : ps.length = 0 → d = true) : tailL ps d = 47 :: jn ps d := by
  have key : ∀ (p : ByteArray) (r : List ByteArray), ((p :: r).map fun p => 47 :: p.data.toList).flatten ++ (if d = true then [47] else []) = 47 :: jn (p :: r) d := by
    intro p r
    induction r generalizing p with
    | nil => cases d <;> simp [jn]
    | cons q r ih =>
      have := ih q
      rw [List.map_cons, List.flatten_cons, List.append_assoc, this]
      simp [jn]
  cases ps with
  | nil => simp [tailL, jn]
  | cons p r =>
    rw [← key p r]
    simp [tailL]
theorem jn_ne {p : ByteArray} {r : List ByteArray} {d : Bool} (h : nameB p = true) : bOf (jn (p :: r) d) ≠ eB := fun e => by
  have := congrArg (fun b : ByteArray => b.data.toList) e
  rw [bOf_list] at this
  have hp := part_ne h
  simp only [jn] at this
  split at this <;> (cases hq : p.data.toList with | nil => exact hp hq | cons c t => rw [hq] at this; simp [eB] at this)

theorem lParts_jn : ∀ (ps : List ByteArray) (d d0 : Bool) (n : Nat), ps.length ≤ n → (∀ p ∈ ps, nameB p = true) → lParts n (bOf (jn ps d)) d0 = (ps, if ps.length = 0 then d0 else d)
  | [], d, d0, n, _, _ => by
    cases n with
    | zero => rfl
    | succ n => rw [lParts, if_pos (by rfl)]; rfl
  | p :: r, d, d0, n, hn, hp => by
    obtain ⟨n, rfl⟩ : ∃ m, n = m + 1 := ⟨n - 1, by simp at hn; omega⟩
    have hpp := hp p List.mem_cons_self
    have h47 : (47 : UInt8) ∉ p.data.toList := fun hm => part_char hpp hm rfl
    have hsl : slB = bOf [47] := rfl
    rw [lParts, if_neg (jn_ne hpp)]
    cases r with
    | nil =>
      cases d with
      | true =>
        have e : jn [p] true = p.data.toList ++ (47 :: []) ++ [] := by simp [jn]
        rw [e, hsl, cut_at h47, bOf_of]
        have := lParts_jn [] true (true && decide (bOf [] = eB)) n (Nat.zero_le _) (by simp)
        have e0 : jn [] true = [] := rfl
        rw [e0] at this
        rw [this]; rfl
      | false =>
        have e : jn [p] false = p.data.toList := by simp [jn]
        rw [e, hsl, cut_no h47, bOf_of]
        have := lParts_jn [] false (false && decide (eB = eB)) n (Nat.zero_le _) (by simp)
        have e0 : bOf (jn [] false) = eB := rfl
        rw [e0] at this
        simp only [Bool.false_and] at this ⊢
        rw [this]; rfl
    | cons q r =>
      have e : jn (p :: q :: r) d = p.data.toList ++ (47 :: []) ++ jn (q :: r) d := by simp [jn]
      rw [e, hsl, cut_at h47, bOf_of]
      have hne := jn_ne (r := r) (d := d) (hp q (by simp))
      have := lParts_jn (q :: r) d (true && decide (bOf (jn (q :: r) d) = eB)) n (by simp at hn ⊢; omega) (fun x hx => hp x (List.mem_cons_of_mem _ hx))
      simp only
      rw [this]
      simp

theorem rParts_tail : ∀ (ps : List ByteArray) (d : Bool), (∀ p ∈ ps, nameB p = true) → rParts ((ps.map fun p => 47 :: p.data.toList).flatten ++ (if d = true then [47] else [])) = (ps, d)
  | [], d, _ => by
    cases d
    · simp [rParts]
    · simp [rParts]
  | p :: r, d, hp => by
    have hpp := hp p List.mem_cons_self
    have ih := rParts_tail r d (fun x hx => hp x (List.mem_cons_of_mem _ hx))
    rw [List.map_cons, List.flatten_cons, List.append_assoc]
    generalize hX : (r.map fun p => 47 :: p.data.toList).flatten ++ (if d = true then [47] else []) = X at ih
    have hXh : X = [] ∨ ∃ t, X = 47 :: t := by
      cases r with
      | nil => cases d <;> simp at hX <;> subst hX <;> simp
      | cons q r => right; rw [← hX]; exact ⟨_, rfl⟩
    have hall : ∀ c ∈ p.data.toList, noSl c = true := fun c hc => by simpa [noSl] using part_char hpp hc
    have htw : (p.data.toList ++ X).takeWhile noSl = p.data.toList := by
      rw [List.takeWhile_append_of_pos hall]
      rcases hXh with rfl | ⟨t, rfl⟩
      · simp
      · simp [noSl]
    have hdw : (p.data.toList ++ X).dropWhile noSl = X := by
      rw [List.dropWhile_append_of_pos hall]
      rcases hXh with rfl | ⟨t, rfl⟩
      · simp
      · simp [noSl]
    rw [List.cons_append, rParts, htw, hdw, if_neg (fun h => part_ne hpp h.1), ih, bOf_of]
end Go.Proofs.YtplpggeefemelaaGreatDoor

namespace Go.Proofs.YtplpggeefemelaaGreatDoor
open Go Go.Gp

theorem schI_bOf {sc : Int} (h : sc = 1 ∨ sc = 2) : schI (bOf (schL sc)) = sc := by
  rcases h with rfl | rfl
  · rfl
  · have : bOf (schL 2) = htB := rfl
    rw [this, schI, if_neg ((strEq_false _ _).1 rs_ht), if_pos rfl]
theorem schL_no {sc : Int} : (58 : UInt8) ∉ schL sc := by unfold schL; split <;> decide
theorem schL_len (sc : Int) : (schL sc).length = 5 := by unfold schL; split <;> rfl

/-- The program finds it. -/
theorem lParse_full {l : Locator} (hv : checkI l = 0) : lParse (refW l) = some l := by
  have v := val_of hv
  have hs := v.size
  have hfin : finL l (refW l) = some l := by rw [finL, if_pos ⟨hv, rfl⟩]
  rw [lParse, if_neg (by omega)]
  have e : refW l = bOf (schL l.scheme ++ (58 :: [47, 47]) ++ (l.host.data.toList ++ portL l.port ++ tailL l.parts l.dir)) := by rw [refW_bOf]; simp
  have ec : cutB (refW l) csB = (bOf (schL l.scheme), bOf (l.host.data.toList ++ portL l.port ++ tailL l.parts l.dir), true) := by rw [e]; exact cut_at schL_no
  simp only [ec, schI_bOf v.sch]
  have hsc : ¬ (true = false ∨ l.scheme = 0) := by
    rintro (h | h)
    · cases h
    · rcases v.sch with h' | h' <;> omega
  rw [if_neg hsc, tail_jn l.parts l.dir v.some]
  have h47 : (47 : UInt8) ∉ l.host.data.toList ++ portL l.port := fun hm => by
    rcases List.mem_append.1 hm with hm | hm
    · exact (host_char v.host hm).1 rfl
    · exact port_char hm rfl
  have ec2 : cutB (bOf (l.host.data.toList ++ portL l.port ++ 47 :: jn l.parts l.dir)) slB = (bOf (l.host.data.toList ++ portL l.port), bOf (jn l.parts l.dir), true) := by
    have : l.host.data.toList ++ portL l.port ++ 47 :: jn l.parts l.dir = l.host.data.toList ++ portL l.port ++ (47 :: []) ++ jn l.parts l.dir := by simp
    rw [this]; exact cut_at h47
  simp only [ec2]
  have h58 : (58 : UInt8) ∉ l.host.data.toList := fun hm => (host_char v.host hm).2 rfl
  have hlp := lParts_jn l.parts l.dir false 11 (by have := v.parts; omega) v.part
  have hdir : dirB (l.parts, if l.parts.length = 0 then false else l.dir) = l.dir := by
    simp only [dirB]
    by_cases h0 : l.parts.length = 0
    · rw [if_pos h0, v.some h0]; simp [h0]
    · rw [if_neg h0]; simp [h0]
  rw [hlp, hdir]
  obtain ⟨n, hn⟩ : ∃ n : Nat, l.port = n := ⟨_, (Int.toNat_of_nonneg v.port.1).symm⟩
  by_cases hp : l.port = 0
  · have ep : portL l.port = [] := by rw [portL, if_pos hp]
    have ec3 : cutB (bOf (l.host.data.toList ++ portL l.port)) coB = (l.host, eB, false) := by
      rw [ep, List.append_nil]
      have := cut_no h58
      rw [bOf_of] at this ⊢
      exact this
    have epo : portO (bOf (l.host.data.toList ++ portL l.port)) = some 0 := by rw [portO, ec3]; rfl
    simp only [epo, ec3]
    rw [← hp]; exact hfin
  · have ep : portL l.port = 58 :: Lib.decDigits l.port.toNat := by rw [portL, if_neg hp]
    have ec3 : cutB (bOf (l.host.data.toList ++ portL l.port)) coB = (l.host, bOf (Lib.decDigits l.port.toNat), true) := by
      have : l.host.data.toList ++ portL l.port = l.host.data.toList ++ (58 :: []) ++ Lib.decDigits l.port.toNat := by rw [ep]; simp
      rw [this]
      have := cut_at (t := []) (b := Lib.decDigits l.port.toNat) h58
      rw [bOf_of] at this
      exact this
    have ha := atoi_dec l.port.toNat (by have := v.port.2; omega)
    have han : atoiN (bOf (Lib.decDigits l.port.toNat)) = l.port := by rw [atoiN, bOf_list, ha]; simp only; omega
    have hao : atoiOk (bOf (Lib.decDigits l.port.toNat)) = true := by rw [atoiOk, bOf_list, ha]
    have epo : portO (bOf (l.host.data.toList ++ portL l.port)) = some l.port := by
      rw [portO, ec3]
      simp only [if_true]
      rw [han, hao, if_pos ⟨rfl, by have := v.port.1; omega⟩]
    simp only [epo, ec3]
    exact hfin

/-- The reference finds it. -/
theorem refParse_full {l : Locator} (hv : checkI l = 0) : refParse (refW l) = some l := by
  have v := val_of hv
  have hs := v.size
  have hfin : finL l (refW l) = some l := by rw [finL, if_pos ⟨hv, rfl⟩]
  have hl := refW_list l
  have hll := len_list (refW l)
  have htj := tail_jn l.parts l.dir v.some
  generalize hT : tailL l.parts l.dir = T at hl htj
  have hlen : (refW l).size = 8 + l.host.data.toList.length + (portL l.port).length + T.length := by
    rw [← hll, hl]
    simp only [List.length_append, schL_len, List.length_cons, List.length_nil]
  have hT1 : 1 ≤ T.length := by rw [htj]; simp
  have hh1 : 1 ≤ l.host.data.toList.length := by
    have := v.host
    simp only [hostB, Bool.and_eq_true, decide_eq_true_eq] at this
    rw [len_list]; exact this.1.1
  have h8 : (refW l).extract 0 8 = bOf (schL l.scheme ++ [58, 47, 47]) := by
    apply bytes_ext
    rw [extract_list, bOf_list, hl]
    have : (schL l.scheme ++ [58, 47, 47]).length = 8 := by simp [schL_len]
    simp only [List.append_assoc, List.drop_zero, Nat.sub_zero]
    rw [← List.append_assoc, ← this, List.take_left]
  have hdrop8 : (refW l).data.toList.drop 8 = l.host.data.toList ++ (portL l.port ++ T) := by
    have : (schL l.scheme ++ [58, 47, 47]).length = 8 := by simp [schL_len]
    rw [hl, List.append_assoc, List.append_assoc, ← this, List.drop_left]
  have hk : untilN (refW l).data.toList 8 58 47 = 8 + l.host.data.toList.length := by
    rw [untilN, hdrop8, List.takeWhile_append_of_pos (fun c hc => by have := host_char v.host hc; simp [this.1, this.2])]
    have : (portL l.port ++ T).takeWhile (fun c => decide (c ≠ 58) && decide (c ≠ 47)) = [] := by
      rw [portL]
      split
      · rw [List.nil_append, htj, List.takeWhile_cons]; rfl
      · rw [List.cons_append, List.takeWhile_cons]; rfl
    rw [this, List.append_nil]
  have hext : (refW l).extract 8 (8 + l.host.data.toList.length) = l.host := by
    apply bytes_ext
    rw [extract_list, hdrop8, Nat.add_sub_cancel_left, List.take_left]
  have hdk : (refW l).data.toList.drop (8 + l.host.data.toList.length) = portL l.port ++ T := by
    rw [← List.drop_drop, hdrop8, List.drop_left]
  have hrp : rParts T = (l.parts, l.dir) := by
    have := rParts_tail l.parts l.dir v.part
    rw [← hT, tailL]
    by_cases h0 : l.parts.length = 0
    · rw [v.some h0] at this ⊢
      simpa [h0] using this
    · simpa [h0] using this
  have hrest : refRest (refW l) l.scheme = some l := by
    rw [refRest, hk, hext]
    obtain ⟨n, hn⟩ : ∃ n : Nat, l.port = n := ⟨_, (Int.toNat_of_nonneg v.port.1).symm⟩
    by_cases hp : l.port = 0
    · have ep : portL l.port = [] := by rw [portL, if_pos hp]
      rw [ep, List.nil_append] at hdk
      have hb : bAt (refW l) (8 + l.host.data.toList.length) = 47 := by
        have h1 := get_list (s := refW l) (k := 8 + l.host.data.toList.length) (by omega)
        have h2 : (refW l).data.toList[8 + l.host.data.toList.length]? = ((refW l).data.toList.drop (8 + l.host.data.toList.length))[0]? := by rw [List.getElem?_drop]; rfl
        rw [h2, hdk, htj] at h1
        exact (Option.some.inj h1).symm
      have : refTail (refW l) (8 + l.host.data.toList.length) = some (0, 8 + l.host.data.toList.length) := by
        rw [refTail, if_neg (by rw [hb]; intro h; exact absurd h.2 (by decide))]
      rw [this]
      simp only [hdk, hrp]
      rw [← hp]; exact hfin
    · have ep : portL l.port = 58 :: Lib.decDigits l.port.toNat := by rw [portL, if_neg hp]
      have hdl := digits_len 5 l.port.toNat (by decide) (by have := v.port.2; omega)
      have hlen2 : (portL l.port).length = (Lib.decDigits l.port.toNat).length + 1 := by rw [ep]; rfl
      have hb : bAt (refW l) (8 + l.host.data.toList.length) = 58 := by
        have h1 := get_list (s := refW l) (k := 8 + l.host.data.toList.length) (by omega)
        have h2 : (refW l).data.toList[8 + l.host.data.toList.length]? = ((refW l).data.toList.drop (8 + l.host.data.toList.length))[0]? := by rw [List.getElem?_drop]; rfl
        rw [h2, hdk, ep] at h1
        exact (Option.some.inj h1).symm
      have hu : untilN (refW l).data.toList (8 + l.host.data.toList.length) 47 47 = 8 + l.host.data.toList.length + (portL l.port).length := by
        rw [until_eq, hdk, List.takeWhile_append_of_pos (fun c hc => by have := port_char hc; simp [noSl, this])]
        have : T.takeWhile noSl = [] := by rw [htj, List.takeWhile_cons]; rfl
        rw [this, List.append_nil]
      have hdk1 : ((refW l).data.toList.drop (8 + l.host.data.toList.length + 1)).take (8 + l.host.data.toList.length + (portL l.port).length - (8 + l.host.data.toList.length + 1)) = Lib.decDigits l.port.toNat := by
        rw [← List.drop_drop, hdk, ep]
        simp only [List.cons_append, List.drop_succ_cons, List.drop_zero, List.length_cons]
        rw [show 8 + l.host.data.toList.length + ((Lib.decDigits l.port.toNat).length + 1) - (8 + l.host.data.toList.length + 1) = (Lib.decDigits l.port.toNat).length by omega, List.take_left]
      have hdk2 : (refW l).data.toList.drop (8 + l.host.data.toList.length + (portL l.port).length) = T := by
        rw [← List.drop_drop, hdk, List.drop_left]
      have hdg := digs_dec l.port.toNat []
      rw [List.append_nil] at hdg
      have : refTail (refW l) (8 + l.host.data.toList.length) = some (l.port, 8 + l.host.data.toList.length + (portL l.port).length) := by
        have h6 : ¬ 6 < 8 + l.host.data.toList.length + (portL l.port).length - (8 + l.host.data.toList.length) := by omega
        rw [refTail, if_pos ⟨by omega, hb⟩]
        simp only [hu]
        rw [if_neg h6, hdk1, hdg]
        simp only [digs]
        congr 2; omega
      rw [this]
      simp only [hdk2, hrp]
      exact hfin
  rw [refParse, if_neg (by omega), h8]
  rcases v.sch with h | h
  · have : bOf (schL l.scheme ++ [58, 47, 47]) = rsyncB := by rw [h]; rfl
    rw [this, if_pos rfl, ← h]; exact hrest
  · have : bOf (schL l.scheme ++ [58, 47, 47]) = httpsB := by rw [h]; rfl
    have hne : ¬ httpsB = rsyncB := fun e => by
      have := congrArg (fun b : ByteArray => b.data.toList) e
      simp [httpsB, rsyncB] at this
    rw [this, if_neg hne, if_pos rfl, ← h]; exact hrest

theorem finL_some {l m : Locator} {s : ByteArray} (h : finL l s = some m) : l = m ∧ checkI m = 0 ∧ refW m = s := by
  unfold finL at h
  split at h
  · rename_i hc; cases h; exact ⟨rfl, hc⟩
  · cases h
theorem lParse_some {s : ByteArray} {l : Locator} (h : lParse s = some l) : checkI l = 0 ∧ refW l = s := by
  unfold lParse at h
  split at h
  · cases h
  split at h
  · cases h
  split at h
  · cases h
  · exact (finL_some h).2
theorem refRest_some {s : ByteArray} {sc : Int} {l : Locator} (h : refRest s sc = some l) : checkI l = 0 ∧ refW l = s := by
  unfold refRest at h
  split at h
  · cases h
  · exact (finL_some h).2
theorem refParse_some {s : ByteArray} {l : Locator} (h : refParse s = some l) : checkI l = 0 ∧ refW l = s := by
  unfold refParse at h
  split at h
  · cases h
  split at h
  · exact refRest_some h
  split at h
  · exact refRest_some h
  · cases h
theorem parse_eq (s : ByteArray) : refParse s = lParse s := by
  cases h : lParse s with
  | some l =>
    obtain ⟨h1, h2⟩ := lParse_some h
    rw [← h2]; exact refParse_full h1
  | none =>
    cases h' : refParse s with
    | none => rfl
    | some l =>
      obtain ⟨h1, h2⟩ := refParse_some h'
      have := lParse_full h1
      rw [h2, h] at this; cases this
theorem parse_iff (s : ByteArray) (l : Locator) : lParse s = some l ↔ checkI l = 0 ∧ refW l = s :=
  ⟨lParse_some, fun ⟨h1, h2⟩ => by rw [← h2]; exact lParse_full h1⟩
end Go.Proofs.YtplpggeefemelaaGreatDoor

namespace Go.Proofs.YtplpggeefemelaaGreatDoor
open Go Go.Gp

theorem keyEq_str (a b : ByteArray) : keyEq (.string a) (.string b) = decide (a = b) := by
  show strEq a b = _
  by_cases h : a = b
  · rw [decide_eq_true h]; exact (strEq_iff a b).2 h
  · rw [decide_eq_false h]; exact (strEq_false a b).2 h
theorem keyEq_str_of {a : ByteArray} {k : Value} (h : keyEq (.string a) k = true) : k = .string a := by
  cases k <;> simp [keyEq] at h
  rw [(strEq_iff _ _).1 h]
theorem mfind_mset (a b : ByteArray) (v : PV) : ∀ es : List (Value × PV), mfind (mset es (.string a) v) (.string b) = if b = a then some v else mfind es (.string b)
  | [] => by simp [mset, mfind, keyEq_str]
  | (k, u) :: r => by
    simp only [mset]
    by_cases h : keyEq (.string a) k = true
    · have := keyEq_str_of h; subst this
      rw [if_pos h]
      simp only [mfind, keyEq_str, decide_eq_true_eq]
      by_cases e : b = a
      · rw [if_pos e, if_pos e]
      · rw [if_neg e, if_neg e, if_neg e]
    · rw [if_neg h]
      simp only [mfind]
      by_cases h2 : keyEq (.string b) k = true
      · have := keyEq_str_of h2; subst this
        rw [keyEq_str, decide_eq_true_eq] at h
        rw [if_pos h2, if_neg (fun e => h e.symm), if_pos h2]
      · rw [if_neg h2, if_neg h2]; exact mfind_mset a b v r
theorem mget_mset (a b : ByteArray) (v z : PV) (es : List (Value × PV)) : mget (mset es (.string a) v) (.string b) z = if b = a then v else mget es (.string b) z := by
  simp only [mget, mfind_mset]
  split <;> rfl
theorem mget_nil (k : Value) (z : PV) : mget [] k z = z := rfl

def kindE (e : ByteArray) : Int :=
  if e = ⟨#[46, 99, 101, 114]⟩ then 1 else if e = ⟨#[46, 99, 114, 108]⟩ then 2 else if e = ⟨#[46, 109, 102, 116]⟩ then 3 else if e = ⟨#[46, 114, 111, 97]⟩ then 4 else if e = ⟨#[46, 97, 115, 97]⟩ then 5 else 0
def kindI (s : ByteArray) : Int := if nameB s = false ∨ s.size < 5 then 0 else kindE (s.extract (s.size - 4) s.size)

def endsM : List (Value × PV) := mset (mset (mset (mset (mset [] (.string ⟨#[46, 99, 101, 114]⟩) (.v (.int .u8 1))) (.string ⟨#[46, 99, 114, 108]⟩) (.v (.int .u8 2))) (.string ⟨#[46, 109, 102, 116]⟩) (.v (.int .u8 3))) (.string ⟨#[46, 114, 111, 97]⟩) (.v (.int .u8 4))) (.string ⟨#[46, 97, 115, 97]⟩) (.v (.int .u8 5))
theorem ends_get (e : ByteArray) : mget endsM (.string e) (.v (.int .u8 0)) = .v (.int .u8 (kindE e)) := by
  simp only [endsM, mget_mset, mget_nil, kindE]
  by_cases h1 : e = ⟨#[46, 99, 101, 114]⟩
  · subst h1; rfl
  by_cases h2 : e = ⟨#[46, 99, 114, 108]⟩
  · subst h2; rfl
  by_cases h3 : e = ⟨#[46, 109, 102, 116]⟩
  · subst h3; rfl
  by_cases h4 : e = ⟨#[46, 114, 111, 97]⟩
  · subst h4; rfl
  by_cases h5 : e = ⟨#[46, 97, 115, 97]⟩
  · subst h5; rfl
  simp only [h1, h2, h3, h4, h5, if_false]

/-- Does a directory hold a locator? -/
def holdsB (d l : Locator) : Bool := decide (d.scheme = l.scheme) && decide (d.host = l.host) && decide (d.port = l.port) && decide (d.parts.length ≤ l.parts.length) && decide (l.parts.take d.parts.length = d.parts) && (decide (d.parts.length < l.parts.length) || l.dir)

/-- A parser's call, met while code is evaluated. -/
theorem parse_call {WG : World} {f : FuncId} {s : ByteArray} {o : Option Locator} (h : CallT Tryz.prog WG f [vS s] [] 0 (parseK o) noP) {tab : Tab} {nx : Nat} {K KP : V → Tab → Nat → Prop} (h0 : o = none → K (.tup [.p locZ, vI 12]) tab nx)
    (h1 : ∀ l, o = some l → K (.tup [locO l nx, vI 0]) (tab ++ [(nx, arrO l)]) (nx + 1)) : CallT Tryz.prog WG f [vS s] tab nx K KP :=
  CallT.frame (ps := [pS s]) h (fun r t n hq => by
    cases o with
    | none =>
      obtain ⟨rfl, rfl, rfl⟩ := hq
      have := h0 rfl
      simpa [V.sh, V.shL, tsh] using this
    | some l =>
      obtain ⟨rfl, rfl, rfl⟩ := hq
      have := h1 l rfl
      simpa [locO, V.sh, V.shL, tsh, arrO, Blk.sh] using this) (fun _ _ _ h => h.elim)
end Go.Proofs.YtplpggeefemelaaGreatDoor

namespace Go.Proofs.YtplpggeefemelaaGreatDoor
open Go Go.Gp Go.RowKit

theorem err_of {laid : List (String × DataW Unit)} {W : World} (h : laidMet Tryz.prog laid W) {n nm : String} {d : DataW Unit} {g0 : Nat} {ti : TypeId} {ms : Array (String × TypeId)} (hm : (n, .iface nm d) ∈ laid)
    (hg : Tryz.prog.globalNamed n = some g0) (ht : (Tryz.prog.globals[g0]?).map (·.type) = some ti) (hu : Tryz.prog.underlying ti = some (.interface ms)) : ∃ t p, W.var? Tryz.prog n = some #[.iface t p] := by
  obtain ⟨ps, hl, _⟩ := h
  obtain ⟨g, t, cs, fuel, p, h1, h2, h3, h4⟩ := laid_mem hl hm
  obtain rfl := Option.some.inj (h1.symm.trans hg)
  obtain rfl := Option.some.inj (h2.symm.trans ht)
  obtain ⟨_, u, v, hcs, _⟩ := iface_of_trod hu h4
  refine ⟨u, v, ?_⟩
  rw [h3, ← Array.toArray_toList (xs := cs), hcs]

theorem ge_of {laid : List (String × DataW Unit)} {W : World} (h : laidMet Tryz.prog laid W) (hm : ("strconv.ErrSyntax", Rows.laid_strconv_ErrSyntax) ∈ laid) (hm2 : ("strconv.ErrRange", Rows.laid_strconv_ErrRange) ∈ laid) : GE W :=
  ⟨err_of h hm (g0 := 2) (ti := 251) (by kernel_rfl) (by kernel_rfl) Tryz.underlying251,
   err_of h hm2 (g0 := 3) (ti := 251) (by kernel_rfl) (by kernel_rfl) Tryz.underlying251⟩
end Go.Proofs.YtplpggeefemelaaGreatDoor
