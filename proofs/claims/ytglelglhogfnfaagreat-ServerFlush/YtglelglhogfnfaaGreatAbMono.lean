/- More fuel gives the same. -/
import Derived.Test.YtglelglhogfnfaaGreatAbNext
namespace Go.Ab

variable {P : Program} {E : Env}

def Res.le (r r' : Res) : Prop := (∃ w, r = .fail w) ∨ r = r'
def DRes.le (r r' : DRes) : Prop := (∃ w, r = .fail w) ∨ r = r'
def SRes.le (r r' : SRes) : Prop := (∃ w, r = .fail w) ∨ r = r'
def CRes.le (r r' : CRes) : Prop := (∃ w, r = .fail w) ∨ r = r'

theorem callF_succ (n f : Nat) (args : List Value) (par : Option FrameMode) (σ : St) : callF P E (n + 1) f args par σ = match par, E.sum f args σ with
    | none, some r => sumRes σ r
    | _, _ => callB P E n f args par σ := by
  unfold callF callB
  rfl

theorem mono_all (n : Nat) :
    (∀ c fr σ, (exec P E n c fr σ).le (exec P E (n + 1) c fr σ)) ∧ (∀ ops l fr σ, (execOps P E n ops l fr σ).le (execOps P E (n + 1) ops l fr σ)) ∧
    (∀ ops l fr σ base, (runD P E n ops l fr σ base).le (runD P E (n + 1) ops l fr σ base)) ∧ (∀ ρ o ds par σ, (stepOp P E n ρ o ds par σ).le (stepOp P E (n + 1) ρ o ds par σ)) ∧
    (∀ f args par σ, (callF P E n f args par σ).le (callF P E (n + 1) f args par σ)) ∧ (∀ fn fr u σ, (leave P E n fn fr u σ).le (leave P E (n + 1) fn fr u σ)) := by
  induction n with
  | zero =>
    refine ⟨fun c fr σ => ?_, fun ops l fr σ => ?_, fun ops l fr σ b => ?_, fun ρ o ds par σ => ?_, fun f args par σ => ?_, fun fn fr u σ => ?_⟩
    · exact .inl ⟨_, by unfold exec; rfl⟩
    · exact .inl ⟨_, by unfold execOps; rfl⟩
    · exact .inl ⟨_, by unfold runD; rfl⟩
    · exact .inl ⟨_, by unfold stepOp; rfl⟩
    · exact .inl ⟨_, by unfold callF; rfl⟩
    · exact .inl ⟨_, by unfold leave; rfl⟩
  | succ n ih =>
    obtain ⟨i1, i2, i3, i4, i5, i6⟩ := ih
    refine ⟨fun c fr σ => ?_, fun ops l fr σ => ?_, fun ops l fr σ b => ?_, fun ρ o ds par σ => ?_, fun f args par σ => ?_, fun fn fr u σ => ?_⟩
    · rw [exec.eq_def P E (n + 1), exec.eq_def P E (n + 2)]
      simp only
      cases c with
      | region id ops d =>
        cases d with
        | false => exact i2 _ _ _ _
        | true =>
          simp only
          rcases i3 ops ops.toList fr σ σ with ⟨w, h⟩ | h
          · rw [h]; exact .inl ⟨_, rfl⟩
          · rw [h]; exact .inr rfl
      | seq a b =>
        simp only
        rcases i1 a fr σ with ⟨w, h⟩ | h
        · rw [h]; exact .inl ⟨_, rfl⟩
        · rw [h]
          split
          · exact i1 _ _ _
          · exact .inr rfl
      | cond x a b =>
        simp only
        split
        · exact i1 _ _ _
        · exact i1 _ _ _
        · exact .inr rfl
      | block id a =>
        simp only
        rcases i1 a fr σ with ⟨w, h⟩ | h
        · rw [h]; exact .inl ⟨_, rfl⟩
        · rw [h]; exact .inr rfl
      | loop a =>
        simp only
        rcases i1 a fr σ with ⟨w, h⟩ | h
        · rw [h]; exact .inl ⟨_, rfl⟩
        · rw [h]
          split
          · exact i1 _ _ _
          · exact .inr rfl
      | rangeFunc g ps as bd =>
        simp only
        cases isRound fr.par with
        | true => exact .inr rfl
        | false =>
          simp only [cond_false]
          split
          · rename_i f args _ _
            rcases i5 f args none (loopSt σ fr ps as bd) with ⟨w, h⟩ | h
            · rw [h]; exact .inl ⟨_, rfl⟩
            · rw [h]; exact .inr rfl
          · exact .inr rfl
      | _ => exact .inr rfl
    · rw [execOps.eq_def P E (n + 1), execOps.eq_def P E (n + 2)]
      cases l with
      | nil => exact .inr rfl
      | cons o rest =>
        simp only
        split
        · rcases i4 (evalO fr.tmps) o fr.defers fr.par σ with ⟨w, h⟩ | h
          · rw [h]; exact .inl ⟨_, rfl⟩
          · rw [h]
            split
            · split
              · exact i2 _ _ _ _
              · exact .inr rfl
            · exact .inr rfl
            · exact .inr rfl
        · split
          · exact i2 _ _ _ _
          · exact .inr rfl
        · exact .inr rfl
    · rw [runD.eq_def P E (n + 1), runD.eq_def P E (n + 2)]
      cases l with
      | nil => exact .inr rfl
      | cons o rest =>
        simp only
        split
        · rcases i4 (evalO fr.tmps) o fr.defers fr.par σ with ⟨w, h⟩ | h
          · rw [h]; exact .inl ⟨_, rfl⟩
          · rw [h]
            split
            · split
              · rename_i v ds p σ1 _ _ fr1 _
                cases hk : cls o.op <;> simp only [] <;> (rcases i3 ops rest fr1 σ1 _ with ⟨w, h⟩ | h <;> rw [h] <;> first | exact .inl ⟨_, rfl⟩ | exact .inr rfl)
              · exact .inr rfl
            · exact .inr rfl
            · exact .inr rfl
        · exact .inr rfl
        · split
          · rename_i fr1 _
            cases hk : cls o.op <;> simp only [] <;> (rcases i3 ops rest fr1 σ _ with ⟨w, h⟩ | h <;> rw [h] <;> first | exact .inl ⟨_, rfl⟩ | exact .inr rfl)
          · exact .inr rfl
    · rw [stepOp.eq_def P E (n + 1), stepOp.eq_def P E (n + 2)]
      simp only
      split
      · exact .inr rfl
      · rename_i f args _ _
        rcases i5 f args none σ with ⟨w, h⟩ | h
        · rw [h]; exact .inl ⟨_, rfl⟩
        · rw [h]; exact .inr rfl
      · split
        · rename_i L _
          split
          · rename_i fr1 _
            rcases i1 L.assign fr1 σ with ⟨w, h⟩ | h
            · rw [h]; exact .inl ⟨_, rfl⟩
            · rw [h]
              split
              · rename_i fr2 σ1 _
                split
                · rename_i σ2 _
                  rcases i1 L.body fr2 σ2 with ⟨w, h⟩ | h
                  · rw [h]; exact .inl ⟨_, rfl⟩
                  · rw [h]; exact .inr rfl
                · exact .inr rfl
              · exact .inr rfl
          · exact .inr rfl
        · exact .inr rfl
      · exact .inr rfl
      · exact .inr rfl
      · exact .inr rfl
      · exact .inr rfl
      · exact .inr rfl
    · have hB : (callB P E n f args par σ).le (callB P E (n + 1) f args par σ) := by
        unfold callB
        split
        · exact .inr rfl
        · split
          · exact .inr rfl
          · rename_i fn _ _ c _
            rcases i1 c { n := Nat.max fn.ntmps args.length, tmps := laid args 0 .leaf, defers := [], par } σ with ⟨w, h⟩ | h
            · rw [h]; exact .inl ⟨_, rfl⟩
            · rw [h]
              split
              · exact i6 _ _ _ _
              · exact i6 _ _ _ _
              · exact i6 _ _ _ _
              · exact .inr rfl
              · exact .inr rfl
      rw [callF_succ, callF_succ]
      cases par with
      | none =>
        cases hs : E.sum f args σ with
        | none => exact hB
        | some v => exact .inr rfl
      | some u => exact hB
    · rw [leave.eq_def P E (n + 1), leave.eq_def P E (n + 2)]
      simp only
      split
      · exact .inr rfl
      · split
        · split
          · exact .inr rfl
          · exact i6 _ _ _ _
          · exact .inr rfl
        split
        · exact .inr rfl
        · split
          · rename_i f args _ _
            rcases i5 f args (some u) σ with ⟨w, h⟩ | h
            · rw [h]; exact .inl ⟨_, rfl⟩
            · rw [h]
              split
              · exact i6 _ _ _ _
              · exact i6 _ _ _ _
              · exact .inr rfl
              · exact .inr rfl
          · exact .inr rfl

end Go.Ab
