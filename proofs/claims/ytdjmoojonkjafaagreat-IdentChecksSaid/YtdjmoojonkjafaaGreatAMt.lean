/- The abstract machine, twentieth part: from a call of the abstract machine to what a row asks: the arguments, and the memory behind. -/
import Derived.Test.YtdjmoojonkjafaaGreatAMs
import Derived.Below
import Derived.WalkKit
import Derived.WideShapes
set_option linter.unusedSimpArgs false
set_option linter.unusedVariables false
namespace Go.AM
attribute [local simp] AHeap.n_set AHeap.n_push
open Go.RowKit Go.WideShapes Go.ChangeShapes
section
variable {P : Program}

theorem not_mine_empty {E : Env} {k : Nat} : ¬ Mine E AHeap.empty k := by
  rintro ⟨h, b, hb, hg, _⟩
  simp [AHeap.get, AHeap.empty, Tr.get] at hg

theorem Sim.below {W w' : World} {E' : Env} {H' : AHeap} (h : Sim (envOf W) AHeap.empty W E' H' w') : Below W.heap.size W w' :=
  ⟨h.os, h.tape, h.output, h.size, fun k hk => h.frame k hk not_mine_empty⟩

/-- an argument of a type -/
def TypV (P : Program) (d : Nat) (t : TypeId) (v : AV) : Prop :=
  match aggT P t with
  | some true => ∃ cs, v = .agg cs ∧ TypRow P d t cs
  | _ => TypRow P d t [v]

variable {H : Type} {enc : TypeId × Value → H} {w : World} {spare : Nat → Bool} {held : Bool}

theorem arg_of {d base : Nat} {t : TypeId} {v : Value} {x : DataW H} {p : List MemPlace} {r : Reach} (hp : plainT P d t = true) (h : DataW.Trod enc P w 0 spare held t v x p) (hv : Value.okWide P w r base t v) :
    ∃ av, V (envOf w) av v ∧ TypV P d t av := by
  obtain ⟨fuel, h⟩ := h
  obtain ⟨avs, h1, h2⟩ := trod_row d t fuel _ x p hp h
  unfold TypV aggT
  cases d with
  | zero => simp [plainT] at hp
  | succ d =>
  have one : v.cells.toList = [v] → (∃ y, avs = [y]) → ∃ av, V (envOf w) av v ∧ TypRow P (d + 1) t [av] := by
    rintro e ⟨y, rfl⟩
    rw [e, VL_cons_cons] at h1
    exact ⟨y, h1.1, h2⟩
  simp only [plainT] at hp
  have h2' := h2
  simp only [TypRow] at h2'
  split at hp <;> (try (cases hp; done)) <;> rename_i hu <;> simp only [hu] at h2' ⊢
  · obtain ⟨b, rfl⟩ := okWide_bool hu hv
    obtain ⟨b', rfl⟩ := h2'
    exact one (by simp [Value.cells]) ⟨_, rfl⟩
  · obtain ⟨n, rfl⟩ := okWide_int hu hv
    obtain ⟨n', rfl, _⟩ := h2'
    exact one (by simp [Value.cells]) ⟨_, rfl⟩
  · obtain ⟨s, rfl⟩ := okWide_string hu hv
    obtain ⟨s', rfl, _⟩ := h2'
    exact one (by simp [Value.cells]) ⟨_, rfl⟩
  · obtain ⟨a, len, cap, rfl⟩ := okWide_slice hu hv
    refine one (by simp [Value.cells]) ?_
    rcases h2' with rfl | ⟨es, len, rfl, _⟩ <;> exact ⟨_, rfl⟩
  · unfold Value.okWide at hv
    simp only [hu] at hv
    obtain ⟨cs, rfl, _, _⟩ := hv
    exact ⟨.agg avs, by rw [V_agg]; exact ⟨cs, rfl, by simpa [Value.cells] using h1⟩, avs, rfl, h2⟩
  · unfold Value.okWide at hv
    simp only [hu] at hv
    obtain ⟨cs, rfl, _, _⟩ := hv
    exact ⟨.agg avs, by rw [V_agg]; exact ⟨cs, rfl, by simpa [Value.cells] using h1⟩, avs, rfl, h2⟩
end
end Go.AM
