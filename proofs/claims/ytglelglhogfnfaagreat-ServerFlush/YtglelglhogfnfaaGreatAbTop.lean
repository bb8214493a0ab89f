/- From a run of the abstract machine to a contract. -/
import Derived.Test.YtglelglhogfnfaaGreatAbAll
import Derived.Below
import Derived.ChangeSame
namespace Go.Ab

open Go.RowKit

variable {P : Program} {E : Env}

theorem Trans.below [Syms] {φ' : Phi} {σ' : St} {w w' : World} (h : Trans (fun _ => .unborn) ⟨0, .leaf, []⟩ w φ' σ' w') : Below w.heap.size w w' :=
  ⟨h.os, h.tape, h.output, h.size, fun k hk => h.frame k hk fun i x hi _ => absurd hi (Nat.not_lt_zero i)⟩

theorem Rel.empty [Syms] (h : Array Obj) : Rel (fun _ => .unborn) ⟨0, .leaf, []⟩ h :=
  ⟨fun i b hb => by simp [St.get, Tr.get_leaf] at hb, fun i j x y hx => (by cases hx), fun i x hx => (by cases hx), fun i b hb => by simp [St.get, Tr.get_leaf] at hb⟩

/-- A run that ends: so does the machine's, from every world, and leaves what was there. -/
theorem calls_of_run [Syms] (hE : EnvOk P E) {n f : Nat} {args : List Value} {args' : Array Value} {v : Value} {par : Option FrameMode} {σ' : St} (hargs : VrelL (fun _ => .unborn) args args'.toList)
    (h : callF P E n f args none ⟨0, .leaf, []⟩ = .ret v par σ') (w : World) : Calls P f args' w fun e w' => (∃ φ v', e = .returned v' ∧ Vrel φ v v') ∧ Below w.heap.size w w' := by
  intro cs
  have hs := (sound_all hE n n (Nat.le_refl _)).2.2.2.1 f args none ⟨0, .leaf, []⟩ (fun _ => .unborn) w args' .normal cs cs (Rel.empty _) hargs ⟨rfl, rfl⟩ (fun _ _ _ => rfl)
  rw [h] at hs
  obtain ⟨φ', w', fr, cs', v', fn, s, q1, q2, q3, q4, q5, q6, q7, q8, q9, q10⟩ := hs
  obtain ⟨_, rfl⟩ := q3
  exact ⟨.returned v', w', fr, ⟨⟨φ', v', rfl, q10⟩, q2.below⟩, s, q5, q6, q7, q4, fn, q8, q9⟩

theorem calls_true [Syms] (hE : EnvOk P E) {n f : Nat} {args : List Value} {args' : Array Value} {par : Option FrameMode} {σ' : St} (hargs : VrelL (fun _ => .unborn) args args'.toList)
    (h : callF P E n f args none ⟨0, .leaf, []⟩ = .ret (.bool true) par σ') (w : World) : Calls P f args' w fun e w' => e = .returned (.bool true) ∧ Below w.heap.size w w' := by
  refine (calls_of_run hE hargs h w).mono fun e w' ⟨⟨φ, v', he, hv⟩, hb⟩ => ⟨?_, hb⟩
  simp only [Vrel] at hv
  rw [he, hv]

end Go.Ab
