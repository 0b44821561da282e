/-
  Contracts that were proved elsewhere (of calls, over worlds), as contracts on data.
-/
import Derived.Test.YtpcancnnbjadeaaDoorGpR
set_option linter.unusedSimpArgs false
set_option linter.unusedVariables false
namespace Go.Gp
open Go.RowKit

section
variable {P : Program} {WG : World}

theorem MemR.below {C : Ctx} {j : Nat → Option Loc} {tab : Tab} {nx : Nat} {w w' : World} (h : MemR WG C j tab nx w) (hb : Below w.heap.size w w') :
    MemR WG C j tab nx w' ∧ (∀ k, okc C (Own j tab) w k → okc C (Own j tab) w' k ∧ w'.heap[k]? = w.heap[k]?) ∧ ∀ k, w.heap.size ≤ k → k < w'.heap.size → okc C (Own j tab) w' k := by
  have hok : ∀ k, okc C (Own j tab) w k → okc C (Own j tab) w' k ∧ w'.heap[k]? = w.heap[k]? := fun k ⟨h1, h2, h3⟩ => ⟨⟨Nat.lt_of_lt_of_le h1 hb.size, h2, h3⟩, hb.block k h1⟩
  refine ⟨?_, hok, fun k h1 h2 => ⟨h2, fun hn => ?_, .inr (Nat.le_trans h.size h1)⟩⟩
  · exact {
      nb := h.nb
      low := h.low
      blk := fun b x hx => (h.blk b x hx).mono hok (fun b hb => ⟨rfl, hb⟩) (h.low b x hx) (fun l hl => hb.block _ ((h.blk b x hx).lt hl))
      apart := h.apart
      agree := h.agree
      own := h.own
      ownG := h.ownG
      size := Nat.le_trans h.size hb.size
      keep := fun k hk h0 => (hb.block k (Nat.lt_of_lt_of_le hk h.size)).trans (h.keep k hk h0)
      os := hb.os.trans h.os
      tape := hb.tape.trans h.tape
      output := hb.output.trans h.output
      glob := h.glob.trans (hb.mono h.glob.size)
      rd := h.rd }
  · have := h.own_lt hn; omega

theorem FV.of_calls {f : FuncId} {ps : List PV} {r : V} (hp : pureR r = true)
    (h : ∀ (w : World) (ok : Nat → Prop) (ms : Array Value), Below WG.heap.size WG w → (∀ k, ok k → k < w.heap.size) → ms.size = ps.length → (∀ (i : Nat) x, ps[i]? = some x → PR w ok x (ms.getD i undef)) →
      Calls P f ms w fun e w' => ∃ m, e = .returned m ∧ Below w.heap.size w w' ∧ ∀ ok' : Nat → Prop, (∀ k, ok k → ok' k) → (∀ k, w.heap.size ≤ k → k < w'.heap.size → ok' k) → VR w' ok' (fun _ => none) 0 r m) : FV P WG f ps r := by
  intro tab nx C j w ms h1 h2 h3 h4 hm hvs
  refine (h w (okc C (Own j tab) w) ms hm.glob (fun k hk => hk.1) (by rw [hvs.1]; simp) (fun i x hx => ?_)).mono fun e w' ⟨m, he, hb, hr⟩ => ?_
  · have := hvs.2 i (.p x) (by simp [hx])
    cases this with
    | p hp => exact hp
  · subst he
    obtain ⟨a, b, c⟩ := hm.below hb
    exact ⟨j, tab, nx, r, a, VR.pure (fun k hk => ⟨hk, rfl⟩) hp (hr _ (fun k hk => (b k hk).1) c), rfl, rfl, rfl⟩

/-- Arguments that are flat. -/
theorem args_one {w : World} {ok : Nat → Prop} {x : Value} {ms : Array Value} (h1 : ms.size = 1) (h : ∀ (i : Nat) y, ([PV.v x])[i]? = some y → PR w ok y (ms.getD i undef)) : ms = #[x] := by
  have h0 := h 0 _ rfl
  obtain ⟨m⟩ := ms
  match m, h1 with
  | [a], _ =>
    have : PR w ok (.v x) a := by simpa using h0
    cases this; rfl
theorem args_two {w : World} {ok : Nat → Prop} {x y : PV} {ms : Array Value} (h1 : ms.size = 2) (h : ∀ (i : Nat) z, [x, y][i]? = some z → PR w ok z (ms.getD i undef)) : ∃ a b, ms = #[a, b] ∧ PR w ok x a ∧ PR w ok y b := by
  have h0 := h 0 _ rfl
  have h2 := h 1 _ rfl
  obtain ⟨m⟩ := ms
  match m, h1 with
  | [a, b], _ => exact ⟨a, b, rfl, by simpa using h0, by simpa using h2⟩
theorem PR.flat {w : World} {ok : Nat → Prop} {x m : Value} (h : PR w ok (.v x) m) : m = x := by cases h; rfl

end
end Go.Gp
