/-
  What the laid variables give; arguments as locators and strings.
  strings.Cut, strconv.Atoi; the cutting closure.
  The reference's Parse: what it makes of a string.
  locator.Parse: what it makes of a string.
  Pure: a valid locator comes back from its string, by either reading.
  Pure: the string of a valid locator, and what each reading makes of it.
  Pure: both readings find a valid locator whose string it is; so they agree.
  Kind; slices.Equal; Holds; calls of the parsers.
  What the rows of the laws on strings take from the laid variables.
-/
import Derived.Test.YtgekglfmianoeaaGreatDoorMA
import Derived.Test.YtgekglfmianoeaaGreatDoorKD
import Derived.Test.YtgekglfmianoeaaGreatDoorTie
import Derived.WalkSmall
import Derived.Lib.SmallJoins
import Derived.Lib.AtoiAll
import Derived.LaidLaws
set_option linter.unusedSimpArgs false
set_option linter.unusedVariables false
set_option maxRecDepth 20000
namespace Go.Proofs.YtgekglfmianoeaaGreatDoor
open Go Go.Gp Go.RowKit
theorem laid_mem {P : Program} {w : World} {n : String} {d : DataW Unit} : ∀ {l : List (String × DataW Unit)} {ps : List MemPlace}, DataW.LaidVars P w l ps → (n, d) ∈ l →
    ∃ g t cs fuel p, P.globalNamed n = some g ∧ (P.globals[g]?).map (·.type) = some t ∧ w.var? P n = some cs ∧ DataW.trod (fun _ => ()) P w 0 (fun _ => true) false fuel t cs.toList = some (d, p)
  | [], ps, _, h => by cases h
  | (n', d') :: r, ps, hl, h => by
    obtain ⟨g, t, cs, fuel, p, q, h1, h2, h3, h4, h5, _⟩ := hl
    rcases List.mem_cons.1 h with e | h
    · cases e; exact ⟨g, t, cs, fuel, p, h1, h2, h3, h4⟩
    · exact laid_mem h5 h

theorem pow10_data : (Rows.laid_internal_strconv_uint64pow10 : DataW Unit) = Lib.tabData .u64 Lib.pow10Tab := by kernel_rfl

theorem gw_of {laid : List (String × DataW Unit)} {W : World} (h : laidMet Tryz.prog laid W) (hm : ("internal/strconv.uint64pow10", Rows.laid_internal_strconv_uint64pow10) ∈ laid) (hs : W.ShapedOpen Tryz.prog) : GW W := by
  refine ⟨Go.Proofs.cell_of_shapedOpen_int (g := 0) (zero := #[.int .i64 0]) (t := 3) hs (of_decide_eq_true (by kernel_rfl)) (by kernel_rfl) rfl (by kernel_rfl) (by kernel_rfl) Tryz.underlying3, ?_⟩
  obtain ⟨ps, hl, _⟩ := h
  obtain ⟨g, t, cs, fuel, p, h1, h2, h3, h4⟩ := laid_mem hl hm
  rw [pow10_data] at h4
  obtain rfl : g = 3 := Option.some.inj (h1.symm.trans (show Tryz.prog.globalNamed "internal/strconv.uint64pow10" = some 3 by kernel_rfl))
  obtain rfl : t = 287 := Option.some.inj (h2.symm.trans (show (Tryz.prog.globals[3]?).map (·.type) = some 287 by kernel_rfl))
  unfold Lib.TabIs
  rw [h3, ← Lib.cells_of_tab (by first | exact Tryz.underlying287 | kernel_rfl) (e := 22) (by first | exact Tryz.underlying22 | kernel_rfl) (by kernel_rfl) (by kernel_rfl) h4]

end Go.Proofs.YtgekglfmianoeaaGreatDoor

namespace Go.Proofs.YtgekglfmianoeaaGreatDoor
open Go Go.Gp Go.RowKit
def cutB (s sep : ByteArray) : ByteArray × ByteArray × Bool := (⟨(Lib.cut s.data.toList sep.data.toList).1.toArray⟩, ⟨(Lib.cut s.data.toList sep.data.toList).2.1.toArray⟩, (Lib.cut s.data.toList sep.data.toList).2.2)

theorem cut_fv (WG : World) (g : GW WG) (s sep : ByteArray) (hs : s.size < 4294967281) : FV Tryz.prog WG 156 [.v (.string s), .v (.string sep)] (.tup [vS (cutB s sep).1, vS (cutB s sep).2.1, vB (cutB s sep).2.2]) := by
  refine FV.of_calls rfl (fun w ok ms hb _ hsz hms => ?_)
  obtain ⟨a, b, rfl, ha, hbb⟩ := args_two hsz hms
  rw [ha.flat, hbb.flat]
  obtain ⟨m, hm⟩ := g.maxlen
  refine (Tryz.strings_Cut s sep m w hs (cell_keep hb hm)).mono fun e w' ⟨he, n, hw⟩ => ⟨_, he, ?_, fun ok' _ hnew => .tup rfl (fun i c hi => ?_)⟩
  · subst hw; exact below_drewN (Below.refl _ _) n
  · match i with
    | 0 => simp at hi; subst hi; exact .p (.v rfl)
    | 1 => simp at hi; subst hi; exact .p (.v rfl)
    | 2 => simp at hi; subst hi; exact .p (.v rfl)
    | i + 3 => simp at hi

structure GE (WG : World) : Prop where
  syn : ∃ t p, WG.var? Tryz.prog "strconv.ErrSyntax" = some #[.iface t p]
  ran : ∃ t p, WG.var? Tryz.prog "strconv.ErrRange" = some #[.iface t p]

def atoiN (s : ByteArray) : Int :=
  match Lib.atoiAll s.data.toList with
  | .ok v => v
  | .range => Lib.atoiSat s.data.toList
  | _ => 0
def atoiOk (s : ByteArray) : Bool :=
  match Lib.atoiAll s.data.toList with
  | .ok _ => true
  | _ => false

theorem err_rel {w : World} {ok : Nat → Prop} {N e : Nat} {t : TypeId} {s x : ByteArray} {v : Value} (hN : ok N) (h : w.heap[N]? = some (.cells #[.string x, .string s, v] e (0, 0))) :
    PR w ok (.ifc t (.ptr (.agg [pS x, pS s]) 0)) (.iface t (.pointer (some ⟨N, 0, none⟩))) := by
  refine .ifc (.ptr (fun k => (#[.string x, .string s] : Array Value).getD k undef) ⟨hN, _, _, _, h⟩ rfl (a := 0) (fun k hk => ?_) (fun i c hi => ?_) (fun i c hi => ?_))
  · rw [cell_row h]
    simp only [PV.cells, List.length_cons, List.length_nil] at hk
    match k with
    | 0 => rfl
    | 1 => rfl
    | k + 2 => omega
  · match i with
    | 0 => simp [PV.cells] at hi; subst hi; rfl
    | 1 => simp [PV.cells] at hi; subst hi; rfl
    | i + 2 => simp [PV.cells] at hi
  · match i with
    | 0 => simp [PV.cells] at hi; subst hi; exact .v rfl
    | 1 => simp [PV.cells] at hi; subst hi; exact .v rfl
    | i + 2 => simp [PV.cells] at hi

theorem tup_two {w : World} {ok : Nat → Prop} {j : Nat → Option Gp.Loc} {nx : Nat} {a b : PV} {x y : Value} (h1 : PR w ok a x) (h2 : PR w ok b y) : VR w ok j nx (.tup [.p a, .p b]) (.tuple #[x, y]) := .tup rfl (fun i c hi => by
  match i with
  | 0 => simp at hi; subst hi; exact .p h1
  | 1 => simp at hi; subst hi; exact .p h2
  | i + 2 => simp at hi)

theorem atoi_fv (WG : World) (g : GE WG) (s : ByteArray) (hs : s.size ≤ 281474976710656) : ∃ e : PV, FV Tryz.prog WG 157 [.v (.string s)] (.tup [vI (atoiN s), .p e]) ∧ ((atoiOk s = true ∧ e = .v .nilIface) ∨ (atoiOk s = false ∧ ∃ t x, e = .ifc t x)) := by
  cases h : Lib.atoiAll s.data.toList with
  | ok v =>
    refine ⟨.v .nilIface, FV.of_calls rfl (fun w ok ms hb _ hsz hms => ?_), .inl ⟨by simp [atoiOk, h], rfl⟩⟩
    rw [args_one hsz hms]
    refine (Tryz.strconv_Atoi_ok s (by omega) v h w).mono fun e w' ⟨he, hw⟩ => ⟨_, he, ?_, fun ok' _ hnew => ?_⟩
    · rcases hw with rfl | ⟨t, rfl⟩
      · exact Below.refl _ _
      · exact Joins.below_bytesWorld _ _ _ _ (Nat.le_refl _)
    · simp only [atoiN, h]; exact tup_two (a := pI v) (b := .v .nilIface) (.v rfl) (.v rfl)
  | «range» =>
    obtain ⟨t, p, hv⟩ := g.ran
    refine ⟨.ifc 246 (.ptr (.agg [pS ⟨#[65, 116, 111, 105]⟩, pS s]) 0), FV.of_calls rfl (fun w ok ms hb _ hsz hms => ?_), .inr ⟨by simp [atoiOk, h], _, _, rfl⟩⟩
    rw [args_one hsz hms]
    refine (Tryz.strconv_Atoi_range_var s hs h t p w (var_keep hb hv)).mono fun e w' ⟨N, he, h1, h2, h3⟩ => ⟨_, he, h3, fun ok' _ hnew => ?_⟩
    simp only [atoiN, h]
    exact tup_two (.v rfl) (err_rel (hnew N h1 (Array.getElem?_eq_some_iff.1 h2).1) h2)
  | _ =>
    obtain ⟨t, p, hv⟩ := g.syn
    refine ⟨.ifc 246 (.ptr (.agg [pS ⟨#[65, 116, 111, 105]⟩, pS s]) 0), FV.of_calls rfl (fun w ok ms hb _ hsz hms => ?_), .inr ⟨by simp [atoiOk, h], _, _, rfl⟩⟩
    rw [args_one hsz hms]
    refine (Tryz.strconv_Atoi_syntax_var s hs h t p w (var_keep hb hv)).mono fun e w' ⟨N, he, h1, h2, h3⟩ => ⟨_, he, h3, fun ok' _ hnew => ?_⟩
    simp only [atoiN, h]
    exact tup_two (.v rfl) (err_rel (hnew N h1 (Array.getElem?_eq_some_iff.1 h2).1) h2)

set_option maxHeartbeats 4000000 in
theorem cutc_ct (WG : World) (g : GW WG) (mark rest : ByteArray) (hs : rest.size < 4294967281) {b : Nat} {tab : Tab} {nx : Nat} {K KP : V → Tab → Nat → Prop} (hb : aget tab b = some (.box [vS rest]))
    (hK : K (.tup [vS (cutB rest mark).1, vB (cutB rest mark).2.2]) (aset tab b (.box [vS (cutB rest mark).2.1])) nx) : CallT Tryz.prog WG 155 [vS mark, .ref b 0] tab nx K KP := by
  refine CallT_fn Tryz.func155 (rs := [.tmp 3, .tmp 4]) (n := 18) rfl rfl (Nat.le_of_ble_eq_true rfl) rfl ?_
  simp only [push_cast, reduceIte, Nat.reduceMul, Nat.reduceEqDiff, Nat.reduceAdd, Nat.reduceLT, Nat.reduceLeDiff, reduceCtorEq, Int.reduceToNat, hb]
  refine (cut_fv WG g rest mark hs).call rfl ?_
  simp only [push_cast, reduceIte, Nat.reduceMul, Nat.reduceEqDiff, Nat.reduceAdd, Nat.reduceLT, Nat.reduceLeDiff, reduceCtorEq, Int.reduceToNat, hb]
  exact hK

end Go.Proofs.YtgekglfmianoeaaGreatDoor

namespace Go.Proofs.YtgekglfmianoeaaGreatDoor
open Go Go.Gp
def eB : ByteArray := ⟨#[]⟩
def locZ : PV := .agg [pU8 0, pS eB, pI 0, .v (.slice none 0 0), pB false]
def locO (l : Locator) (b : Nat) : V := .agg [vU8 l.scheme, vS l.host, vI l.port, .osl b 1 0 l.parts.length none, vB l.dir]
def arrO (l : Locator) : Blk := .arr 1 (l.parts.map pS) true

def finL (l : Locator) (s : ByteArray) : Option Locator := if checkI l = 0 ∧ refW l = s then some l else none
def zC : List V := [vU8 0, vS eB, vI 0, .p (.v (.slice none 0 0)), vB false]
def lC (sc : Int) (h : ByteArray) (p : Int) (b n : Nat) (d : Bool) : List V := [vU8 sc, vS h, vI p, .osl b 1 0 n none, vB d]
def parseK (o : Option Locator) : V → Tab → Nat → Prop := fun r t n => match o with | some l => r = .tup [locO l 0, vI 0] ∧ t = [(0, arrO l)] ∧ n = 1 | none => r = .tup [.p locZ, vI 12] ∧ t = [] ∧ n = 0

theorem parseK_none {t : Tab} {n : Nat} : tidyK 0 (parseK none) (.tup [.p locZ, vI 12]) t n := ⟨[], _, [], 0, ⟨rfl, rfl, rfl⟩, by simp [V.rn, V.rnL], by simp [V.bd, V.bdL], Nat.le_refl _, trivial, trivial, trivial⟩
theorem parseK_some {l : Locator} {t : Tab} {n b : Nat} (h : aget t b = some (arrO l)) : tidyK 0 (parseK (some l)) (.tup [locO l b, vI 0]) t n :=
  ⟨[(0, b)], _, _, 1, ⟨rfl, rfl, rfl⟩, by simp [locO, V.rn, V.rnL, rnf, aget], by simp [locO, V.bd, V.bdL], Nat.zero_le _, ⟨Nat.zero_le _, trivial⟩, ⟨trivial, trivial⟩, ⟨by simpa [rnf, aget, Blk.rn, arrO] using h, Nat.zero_lt_one, by simp [Blk.bd, arrO], trivial⟩⟩

end Go.Proofs.YtgekglfmianoeaaGreatDoor

namespace Go.Proofs.YtgekglfmianoeaaGreatDoor
open Go Go.Gp
def slB : ByteArray := ⟨#[47]⟩
def coB : ByteArray := ⟨#[58]⟩
def csB : ByteArray := ⟨#[58, 47, 47]⟩
def rsB : ByteArray := ⟨#[114, 115, 121, 110, 99]⟩
def htB : ByteArray := ⟨#[104, 116, 116, 112, 115]⟩
def schI (s : ByteArray) : Int := if s = rsB then 1 else if s = htB then 2 else 0
def lParts : Nat → ByteArray → Bool → List ByteArray × Bool
  | 0, _, d => ([], d)
  | n + 1, r, d => if r = eB then ([], d) else ((cutB r slB).1 :: (lParts n (cutB r slB).2.1 ((cutB r slB).2.2 && decide ((cutB r slB).2.1 = eB))).1, (lParts n (cutB r slB).2.1 ((cutB r slB).2.2 && decide ((cutB r slB).2.1 = eB))).2)
def portO (a : ByteArray) : Option Int := if (cutB a coB).2.2 then (if atoiOk (cutB a coB).2.1 ∧ 1 ≤ atoiN (cutB a coB).2.1 then some (atoiN (cutB a coB).2.1) else none) else some 0
def dirB (x : List ByteArray × Bool) : Bool := x.2 || decide (x.1.length = 0)
def lParse (s : ByteArray) : Option Locator :=
  if 200 < s.size then none
  else if (cutB s csB).2.2 = false ∨ schI (cutB s csB).1 = 0 then none
  else match portO (cutB (cutB s csB).2.1 slB).1 with
    | none => none
    | some p => finL ⟨schI (cutB s csB).1, (cutB (cutB (cutB s csB).2.1 slB).1 coB).1, p, (lParts 11 (cutB (cutB s csB).2.1 slB).2.1 false).1, dirB (lParts 11 (cutB (cutB s csB).2.1 slB).2.1 false)⟩ s

theorem cut_one (s sep : ByteArray) : (cutB s sep).1.size = (Lib.cut s.data.toList sep.data.toList).1.length := by simp [cutB, ByteArray.size]
theorem cut_two (s sep : ByteArray) : (cutB s sep).2.1.size = (Lib.cut s.data.toList sep.data.toList).2.1.length := by simp [cutB, ByteArray.size]
theorem cut_size (s sep : ByteArray) : (cutB s sep).1.size ≤ s.size ∧ (cutB s sep).2.1.size ≤ s.size := by
  have hl := len_list s
  rw [cut_one, cut_two]
  unfold Lib.cut
  split
  · simp only [List.length_take, List.length_drop]; omega
  · simp only [List.length_nil]; omega
theorem eB_of {s : ByteArray} (h : s.size = 0) : s = eB := by
  have hl := len_list s
  exact bytes_ext (by rw [List.eq_nil_of_length_eq_zero (l := s.data.toList) (by omega)]; rfl)
theorem cut_less (s sep : ByteArray) (h : s ≠ eB) (h1 : 1 ≤ sep.size) : (cutB s sep).2.1.size < s.size := by
  have hl := len_list s
  have hs := len_list sep
  have : 0 < s.size := by
    rcases Nat.eq_zero_or_pos s.size with h0 | h0
    · exact absurd (eB_of h0) h
    · exact h0
  rw [cut_two]
  unfold Lib.cut
  split
  · simp only [List.length_drop]; omega
  · simp only [List.length_nil]; omega

theorem rs_ht : strEq htB rsB = false := by
  rw [strEq_false]; intro h
  have := congrArg (fun b : ByteArray => b.data.toList) h
  simp [htB, rsB] at this
theorem sch_get (s : ByteArray) : mget (mset (mset [] (.string ⟨#[114, 115, 121, 110, 99]⟩) (.v (.int .u8 1))) (.string ⟨#[104, 116, 116, 112, 115]⟩) (.v (.int .u8 2))) (.string s) (.v (.int .u8 0)) = .v (.int .u8 (schI s)) := by
  have e1 : mset (mset [] (.string ⟨#[114, 115, 121, 110, 99]⟩) (.v (.int .u8 1))) (.string ⟨#[104, 116, 116, 112, 115]⟩) (.v (.int .u8 2)) = [(.string rsB, .v (.int .u8 1)), (.string htB, .v (.int .u8 2))] := by
    show mset [(.string rsB, .v (.int .u8 1))] (.string htB) (.v (.int .u8 2)) = _
    simp only [mset, keyEq, rs_ht, Bool.false_eq_true, if_false]
  have e : ∀ a b : ByteArray, keyEq (.string a) (.string b) = decide (a = b) := fun a b => by
    show strEq a b = _
    by_cases h : a = b
    · rw [decide_eq_true h]; exact (strEq_iff a b).2 h
    · rw [decide_eq_false h]; exact (strEq_false a b).2 h
  rw [e1]
  simp only [mget, mfind, e, schI, decide_eq_true_eq]
  by_cases h1 : s = rsB
  · simp [h1]
  · by_cases h2 : s = htB
    · simp [h2]
      have : ¬ htB = rsB := (strEq_false _ _).1 rs_ht
      simp [this]
    · simp [h1, h2]

def cloP : V := .clo (.func 155) [] [.ref 2 0]
def S5 (s : ByteArray) (sc : Int) (h : ByteArray) (p : Int) (i : List ByteArray × Bool × ByteArray) : St := ⟨[(0, vS s), (2, .ref 0 0), (4, .ref 1 0), (5, .ref 2 0), (6, cloP)], [(0, .box zC), (1, .box (lC sc h p 3 i.1.length i.2.1)), (2, .box [vS i.2.2]), (3, .arr 1 (i.1.map pS) true)], 4, 0, 115⟩
def Left5 (s : ByteArray) (sc : Int) (h : ByteArray) (p : Int) (i : List ByteArray × Bool × ByteArray) : Prop :=
  lParse s = finL ⟨sc, h, p, i.1 ++ (lParts (11 - i.1.length) i.2.2 i.2.1).1, (lParts (11 - i.1.length) i.2.2 i.2.1).2 || decide ((i.1 ++ (lParts (11 - i.1.length) i.2.2 i.2.1).1).length = 0)⟩ s ∧ i.2.2.size ≤ 200 ∧ i.1.length ≤ 11 ∧ ∀ q ∈ i.1, q.size ≤ 200

set_option maxHeartbeats 8000000 in
set_option maxRecDepth 10000 in
theorem lParse_ct0 (WG : World) (g : GW WG) (ge : GE WG) (s : ByteArray) : CallT Tryz.prog WG 126 [vS s] [] 0 (parseK (lParse s)) noP := by
  refine CallT.tidy (CallT_fnT Tryz.func126 (rs := [.cell 2 134, .tmp 3]) (n := 115) rfl rfl (Nat.le_of_ble_eq_true rfl) rfl ?_)
  refine T_seqC ?_
  simp only [push_cast, reduceIte, Nat.reduceMul, Nat.reduceEqDiff, Nat.reduceAdd, Nat.reduceLT, Nat.reduceLeDiff, reduceCtorEq, Int.reduceToNat]
  refine T_seqC ?_
  simp only [push_cast, reduceIte, Nat.reduceMul, Nat.reduceEqDiff, Nat.reduceAdd, Nat.reduceLT, Nat.reduceLeDiff, reduceCtorEq, Int.reduceToNat]
  refine T_seqC ?_
  simp only [push_cast, reduceIte, Nat.reduceMul, Nat.reduceEqDiff, Nat.reduceAdd, Nat.reduceLT, Nat.reduceLeDiff, reduceCtorEq, Int.reduceToNat]
  refine T_seqC ?_
  simp only [push_cast, reduceIte, Nat.reduceMul, Nat.reduceEqDiff, Nat.reduceAdd, Nat.reduceLT, Nat.reduceLeDiff, reduceCtorEq, Int.reduceToNat]
  refine T_seqC ?_
  simp only [push_cast, reduceIte, Nat.reduceMul, Nat.reduceEqDiff, Nat.reduceAdd, Nat.reduceLT, Nat.reduceLeDiff, reduceCtorEq, Int.reduceToNat]
  refine ⟨fun h => ?_, fun h => ?_⟩
  · have : lParse s = none := by rw [lParse, if_pos (by simp at h; omega)]
    rw [this]; exact parseK_none
  have h0 : ¬ 200 < s.size := by simp at h; omega
  refine T_nilBox 1 3 1 rfl rfl ?_
  simp only [push_cast, reduceIte, Nat.reduceMul, Nat.reduceEqDiff, Nat.reduceAdd, Nat.reduceLT, Nat.reduceLeDiff, reduceCtorEq, Int.reduceToNat]
  refine T_seqC ?_
  simp only [push_cast, reduceIte, Nat.reduceMul, Nat.reduceEqDiff, Nat.reduceAdd, Nat.reduceLT, Nat.reduceLeDiff, reduceCtorEq, Int.reduceToNat]
  refine cutc_ct WG g csB s (by omega) rfl ?_
  have hp : lParse s = if (cutB s csB).2.2 = false ∨ schI (cutB s csB).1 = 0 then none
    else match portO (cutB (cutB s csB).2.1 slB).1 with
    | none => none
    | some p => finL ⟨schI (cutB s csB).1, (cutB (cutB (cutB s csB).2.1 slB).1 coB).1, p, (lParts 11 (cutB (cutB s csB).2.1 slB).2.1 false).1, dirB (lParts 11 (cutB (cutB s csB).2.1 slB).2.1 false)⟩ s := by rw [lParse, if_neg h0]
  have hz := cut_size s csB
  generalize cutB s csB = c1 at hp hz
  obtain ⟨sch, r1, ok1⟩ := c1
  simp only at hp hz
  simp only [push_cast, reduceIte, Nat.reduceMul, Nat.reduceEqDiff, Nat.reduceAdd, Nat.reduceLT, Nat.reduceLeDiff, reduceCtorEq, Int.reduceToNat]
  refine T_seqC ?_
  simp only [push_cast, reduceIte, Nat.reduceMul, Nat.reduceEqDiff, Nat.reduceAdd, Nat.reduceLT, Nat.reduceLeDiff, reduceCtorEq, Int.reduceToNat, sch_get]
  refine T_seqC ?_
  simp only [push_cast, reduceIte, Nat.reduceMul, Nat.reduceEqDiff, Nat.reduceAdd, Nat.reduceLT, Nat.reduceLeDiff, reduceCtorEq, Int.reduceToNat]
  refine ⟨fun h1 => ?_, fun h1 => ?_⟩
  · have : lParse s = none := by
      rw [hp, if_pos]
      simp only [Bool.or_eq_true, Bool.not_eq_true', decide_eq_true_eq] at h1
      exact h1
    rw [this]; exact parseK_none
  rw [if_neg (by
    rintro (a | a)
    · rw [a] at h1; simp at h1
    · simp [a] at h1)] at hp
  refine T_seqC ?_
  simp only [push_cast, reduceIte, Nat.reduceMul, Nat.reduceEqDiff, Nat.reduceAdd, Nat.reduceLT, Nat.reduceLeDiff, reduceCtorEq, Int.reduceToNat]
  refine cutc_ct WG g slB r1 (by omega) rfl ?_
  have hz2 := cut_size r1 slB
  generalize cutB r1 slB = c2 at hp hz2
  obtain ⟨at_, r2, ok2⟩ := c2
  simp only at hp hz2
  simp only [push_cast, reduceIte, Nat.reduceMul, Nat.reduceEqDiff, Nat.reduceAdd, Nat.reduceLT, Nat.reduceLeDiff, reduceCtorEq, Int.reduceToNat]
  refine T_seqC ?_
  simp only [push_cast, reduceIte, Nat.reduceMul, Nat.reduceEqDiff, Nat.reduceAdd, Nat.reduceLT, Nat.reduceLeDiff, reduceCtorEq, Int.reduceToNat]
  refine (cut_fv WG g at_ coB (by omega)).call rfl ?_
  have hz3 := cut_size at_ coB
  rw [portO] at hp
  generalize cutB at_ coB = c3 at hp hz3
  obtain ⟨host, port, colon⟩ := c3
  simp only at hp hz3
  simp only [push_cast, reduceIte, Nat.reduceMul, Nat.reduceEqDiff, Nat.reduceAdd, Nat.reduceLT, Nat.reduceLeDiff, reduceCtorEq, Int.reduceToNat]
  refine T_seqC ?_
  simp only [push_cast, reduceIte, Nat.reduceMul, Nat.reduceEqDiff, Nat.reduceAdd, Nat.reduceLT, Nat.reduceLeDiff, reduceCtorEq, Int.reduceToNat]
  refine T_cutR (fun p : Int => S5 s (schI sch) host p ([], false, r2)) (fun p => Left5 s (schI sch) host p ([], false, r2)) ?_ (fun p hi => ?_)
  · have fin5 : ∀ p : Int, (lParse s = finL ⟨schI sch, host, p, (lParts 11 r2 false).1, dirB (lParts 11 r2 false)⟩ s) → Left5 s (schI sch) host p ([], false, r2) := fun p h => ⟨by rw [h]; simp [dirB], by simp only; omega, by simp, by simp⟩
    simp only [push_cast, reduceIte, Nat.reduceMul, Nat.reduceEqDiff, Nat.reduceAdd, Nat.reduceLT, Nat.reduceLeDiff, reduceCtorEq, Int.reduceToNat]
    refine ⟨fun h2 => ?_, fun h2 => ?_⟩
    · rw [if_pos h2] at hp
      obtain ⟨e, hfv, ⟨hok, rfl⟩ | ⟨hok, t, x, rfl⟩⟩ := atoi_fv WG ge port (by omega)
      · refine hfv.call rfl ?_
        simp only [push_cast, reduceIte, Nat.reduceMul, Nat.reduceEqDiff, Nat.reduceAdd, Nat.reduceLT, Nat.reduceLeDiff, reduceCtorEq, Int.reduceToNat]
        refine ⟨fun h3 => ?_, fun h3 => ?_⟩
        · have : lParse s = none := by rw [hp, if_neg (by simp at h3; omega)]
          rw [this]; exact parseK_none
        · rw [if_pos ⟨hok, by simp at h3; omega⟩] at hp
          refine ⟨atoiN port, fin5 _ hp, [], ?_⟩
          simp [S5, lC, zC, eB, cloP, LeR, rnf, aget, envR, tabR, injR, notIn, loR, V.rn, V.rnL, V.bd, V.bdL, Blk.rn, Blk.bd, envRn, envBd]
      · refine hfv.call rfl ?_
        simp only [push_cast, reduceIte, Nat.reduceMul, Nat.reduceEqDiff, Nat.reduceAdd, Nat.reduceLT, Nat.reduceLeDiff, reduceCtorEq, Int.reduceToNat]
        have : lParse s = none := by rw [hp, if_neg (by rw [hok]; simp)]
        rw [this]; exact parseK_none
    · rw [if_neg (by rw [h2]; simp)] at hp
      refine ⟨0, fin5 _ hp, [], ?_⟩
      simp [S5, lC, zC, eB, cloP, LeR, rnf, aget, envR, tabR, injR, notIn, loR, V.rn, V.rnL, V.bd, V.bdL, Blk.rn, Blk.bd, envRn, envBd]
  · refine T_cutR (S5 s (schI sch) host p) (fun i => Left5 s (schI sch) host p i ∧ (i.1.length = 11 ∨ i.2.2 = eB)) ?_ (fun i hi => ?_)
    · simp only [push_cast, reduceIte, Nat.reduceMul, Nat.reduceEqDiff, Nat.reduceAdd, Nat.reduceLT, Nat.reduceLeDiff, reduceCtorEq, Int.reduceToNat]
      refine T_loopR (S5 s (schI sch) host p) (Left5 s (schI sch) host p) (fun i => i.2.2.size) ([], false, r2) [] hi (by simp [S5, lC, zC, eB, cloP, LeR, rnf, aget, envR, tabR, injR, notIn, loR, V.rn, V.rnL, V.bd, V.bdL, Blk.rn, Blk.bd, envRn, envBd]) (fun i hi => ?_)
      obtain ⟨ps, d, r⟩ := i
      obtain ⟨hi1, hi2, hi3, hi4⟩ := hi
      simp only at hi1 hi2 hi3 hi4
      simp only [S5, zC, lC, cloP, push_cast, reduceIte, Nat.reduceMul, Nat.reduceEqDiff, Nat.reduceAdd, Nat.reduceLT, Nat.reduceLeDiff, reduceCtorEq, Int.reduceToNat]
      refine ⟨fun h3 => ?_, fun h3 => ?_⟩
      · have h3' : r ≠ eB ∧ ps.length ≤ 10 := by
          simp only [Bool.and_eq_true, Bool.not_eq_true', strEq_false, decide_eq_true_eq] at h3
          exact ⟨h3.1, by omega⟩
        refine cutc_ct WG g slB r (by omega) rfl ?_
        have hz4 := cut_size r slB
        have hz5 := cut_less r slB h3'.1 (Nat.le_refl 1)
        obtain ⟨n, hn⟩ : ∃ n, 11 - ps.length = n + 1 := ⟨10 - ps.length, by omega⟩
        rw [hn, lParts, if_neg h3'.1] at hi1
        generalize cutB r slB = c at hi1 hz4 hz5
        obtain ⟨part, r', more⟩ := c
        simp only at hi1 hz4 hz5
        simp only [push_cast, reduceIte, Nat.reduceMul, Nat.reduceEqDiff, Nat.reduceAdd, Nat.reduceLT, Nat.reduceLeDiff, reduceCtorEq, Int.reduceToNat]
        refine ⟨by omega, (ps ++ [part], more && decide (r' = eB), r'), ⟨?_, by simp only; omega, by simp only [List.length_append, List.length_singleton]; omega, fun q hq => ?_⟩, hz5, [(3, 5)], ?_⟩
        · have e11 : 11 - (ps ++ [part]).length = n := by simp only [List.length_append, List.length_singleton]; omega
          simp only [e11]
          rw [hi1]; simp
        · rcases List.mem_append.1 hq with hq | hq
          · exact hi4 q hq
          · rw [List.mem_singleton.1 hq]; omega
        · have htk : List.take ps.length (ps.map pS) = ps.map pS := List.take_of_length_le (by simp)
          have hst : strEq r' ⟨#[]⟩ = decide (r' = eB) := by
            by_cases e : r' = eB
            · rw [decide_eq_true e]; exact (strEq_iff _ _).2 e
            · rw [decide_eq_false e]; exact (strEq_false _ _).2 e
          simp [S5, lC, zC, eB, cloP, htk, hst, LeR, rnf, aget, envR, tabR, injR, notIn, loR, V.rn, V.rnL, V.bd, V.bdL, Blk.rn, Blk.bd, envRn, envBd]
      · refine ⟨(ps, d, r), ⟨⟨hi1, hi2, hi3, hi4⟩, ?_⟩, [], ?_⟩
        · simp only [Bool.and_eq_false_iff, Bool.not_eq_false', strEq_iff, decide_eq_false_iff_not] at h3
          rcases h3 with h3 | h3
          · exact .inr h3
          · left; simp only; omega
        · simp [S5, lC, zC, eB, cloP, LeR, rnf, aget, envR, tabR, injR, notIn, loR, V.rn, V.rnL, V.bd, V.bdL, Blk.rn, Blk.bd, envRn, envBd]
    · obtain ⟨ps, d, r⟩ := i
      obtain ⟨⟨hi1, hi2, hi3, hi4⟩, hend⟩ := hi
      simp only at hi1 hi2 hi3 hi4 hend
      have hlp : lParts (11 - ps.length) r d = ([], d) := by
        rcases hend with hend | hend
        · rw [hend]; rfl
        · cases hq : 11 - ps.length with
          | zero => rfl
          | succ n => rw [lParts, if_pos hend]
      rw [hlp] at hi1
      simp only [List.append_nil] at hi1
      have htk : List.take ps.length (ps.map pS) = ps.map pS := List.take_of_length_le (by simp)
      generalize hd' : (d || decide (ps.length = 0)) = d' at hi1
      have hok : OkL ⟨schI sch, host, p, ps, d'⟩ := ⟨by simp only; omega, by simp only; omega, fun i q hq => Nat.le_trans (hi4 q (List.mem_of_getElem? hq)) (by omega)⟩
      have e0 : decide ((ps.length : Int) = 0) = decide (ps.length = 0) := decide_eq_decide.2 (by omega)
      refine T_seqC ?_
      simp only [S5, zC, lC, cloP, push_cast, reduceIte, Nat.reduceMul, Nat.reduceEqDiff, Nat.reduceAdd, Nat.reduceLT, Nat.reduceLeDiff, reduceCtorEq, Int.reduceToNat, e0, hd']
      refine T_fin ?_
      simp only [push_cast, reduceIte, Nat.reduceMul, Nat.reduceEqDiff, Nat.reduceAdd, Nat.reduceLT, Nat.reduceLeDiff, reduceCtorEq, Int.reduceToNat]
      refine (lcheck_fv WG g _ hok).lend rfl (by simp [snapT, snap, snapL, snap1, aget, locP]; exact htk) ?_
      simp only [push_cast, reduceIte, Nat.reduceMul, Nat.reduceEqDiff, Nat.reduceAdd, Nat.reduceLT, Nat.reduceLeDiff, reduceCtorEq, Int.reduceToNat]
      refine ⟨vS (refW ⟨schI sch, host, p, ps, d'⟩), fun hc => CallT.borrow (write_fv WG g _ hok (check_port (by simpa using hc)).1 (check_port (by simpa using hc)).2) rfl (by simp [snapT, snap, snapL, snap1, aget, locP]; exact htk), ?_⟩
      simp only [push_cast, reduceIte, Nat.reduceMul, Nat.reduceEqDiff, Nat.reduceAdd, Nat.reduceLT, Nat.reduceLeDiff, reduceCtorEq, Int.reduceToNat]
      refine ⟨fun h6 => ?_, fun h6 => ?_⟩
      · have : lParse s = none := by
          rw [hi1, finL, if_neg]
          rintro ⟨a, b⟩
          rw [b, a] at h6
          simp [strEq] at h6
        rw [this]; exact parseK_none
      · have : lParse s = some ⟨schI sch, host, p, ps, d'⟩ := by
          rw [hi1, finL, if_pos]
          simp only [Bool.or_eq_false_iff, Bool.not_eq_false', decide_eq_true_eq, strEq_iff] at h6
          exact h6
        rw [this]; exact parseK_some rfl
end Go.Proofs.YtgekglfmianoeaaGreatDoor

namespace Go.Proofs.YtgekglfmianoeaaGreatDoor
open Go Go.Gp
end Go.Proofs.YtgekglfmianoeaaGreatDoor

namespace Go.Proofs.YtgekglfmianoeaaGreatDoor
open Go Go.Gp
end Go.Proofs.YtgekglfmianoeaaGreatDoor

namespace Go.Proofs.YtgekglfmianoeaaGreatDoor
open Go Go.Gp
end Go.Proofs.YtgekglfmianoeaaGreatDoor

namespace Go.Proofs.YtgekglfmianoeaaGreatDoor
open Go Go.Gp
theorem parse_call {WG : World} {f : FuncId} {s : ByteArray} {o : Option Locator} (h : CallT Tryz.prog WG f [vS s] [] 0 (parseK o) noP) {tab : Tab} {nx : Nat} {K KP : V → Tab → Nat → Prop} (h0 : o = none → K (.tup [.p locZ, vI 12]) tab nx)
    (h1 : ∀ l, o = some l → K (.tup [locO l nx, vI 0]) (tab ++ [(nx, arrO l)]) (nx + 1)) : CallT Tryz.prog WG f [vS s] tab nx K KP :=
  CallT.frame (ps := [pS s]) h (fun r t n hq => by
    cases o with
    | none =>
      obtain ⟨rfl, rfl, rfl⟩ := hq
      have := h0 rfl
      simpa [V.sh, V.shL, tsh] using this
    | some l =>
      obtain ⟨rfl, rfl, rfl⟩ := hq
      have := h1 l rfl
      simpa [locO, V.sh, V.shL, tsh, arrO, Blk.sh] using this) (fun _ _ _ h => h.elim)
end Go.Proofs.YtgekglfmianoeaaGreatDoor

namespace Go.Proofs.YtgekglfmianoeaaGreatDoor
open Go Go.Gp Go.RowKit
theorem err_of {laid : List (String × DataW Unit)} {W : World} (h : laidMet Tryz.prog laid W) {n nm : String} {d : DataW Unit} {g0 : Nat} {ti : TypeId} {ms : Array (String × TypeId)} (hm : (n, .iface nm d) ∈ laid)
    (hg : Tryz.prog.globalNamed n = some g0) (ht : (Tryz.prog.globals[g0]?).map (·.type) = some ti) (hu : Tryz.prog.underlying ti = some (.interface ms)) : ∃ t p, W.var? Tryz.prog n = some #[.iface t p] := by
  obtain ⟨ps, hl, _⟩ := h
  obtain ⟨g, t, cs, fuel, p, h1, h2, h3, h4⟩ := laid_mem hl hm
  obtain rfl := Option.some.inj (h1.symm.trans hg)
  obtain rfl := Option.some.inj (h2.symm.trans ht)
  obtain ⟨_, u, v, hcs, _⟩ := iface_of_trod hu h4
  refine ⟨u, v, ?_⟩
  rw [h3, ← Array.toArray_toList (xs := cs), hcs]

theorem ge_of {laid : List (String × DataW Unit)} {W : World} (h : laidMet Tryz.prog laid W) (hm : ("strconv.ErrSyntax", Rows.laid_strconv_ErrSyntax) ∈ laid) (hm2 : ("strconv.ErrRange", Rows.laid_strconv_ErrRange) ∈ laid) : GE W :=
  ⟨err_of h hm (g0 := 1) (ti := 216) (by kernel_rfl) (by kernel_rfl) Tryz.underlying216,
   err_of h hm2 (g0 := 2) (ti := 216) (by kernel_rfl) (by kernel_rfl) Tryz.underlying216⟩
end Go.Proofs.YtgekglfmianoeaaGreatDoor
