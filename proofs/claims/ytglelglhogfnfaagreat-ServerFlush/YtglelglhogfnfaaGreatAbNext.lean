/- The numbers of blocks only rise. -/
import Derived.Test.YtglelglhogfnfaaGreatAbMach
namespace Go.Ab

variable {P : Program} {E : Env}

def OR.rises [Syms] (n : Nat) : OR → Prop
  | .val _ σ => n ≤ σ.next
  | _ => True

theorem OR.rises_ofVal [Syms] {σ : St} (o : Option Value) : (OR.ofVal σ o).rises σ.next := by cases o <;> simp [OR.ofVal, OR.rises]

theorem storeN_next [Syms] {σ σ' : St} {a : Addr} {vs : List Value} (h : storeN σ a vs = some σ') : σ'.next = σ.next := by
  unfold storeN at h
  split at h
  · cases h; rfl
  · split at h
    · rename_i l e _ _
      cases hc : (Nat.ble (a.off + vs.length) l.length && vs.all isCell) with
      | false => simp [hc] at h
      | true => simp only [hc, cond_true, Option.some.injEq] at h; subst h; rfl
    · cases h

theorem storeVar_next [Syms] {σ σ' : St} {t : Nat} {a : Addr} {v : Value} (h : storeVar E σ t a v = some σ') : σ'.next = σ.next := by
  unfold storeVar at h
  split at h
  · rename_i n _
    cases hb : Nat.beq v.cells.size n with
    | false => simp [hb] at h
    | true => simp only [hb, cond_true] at h; exact storeN_next h
  · cases h

theorem bif_rises [Syms] {n : Nat} {c : Bool} {x y : OR} (h1 : x.rises n) (h2 : y.rises n) : (bif c then x else y).rises n := by cases c <;> assumption

theorem bif_some [Syms] {α : Type} {c : Bool} {x y : α} (h : (bif c then some x else none) = some y) : x = y := by cases c <;> simp_all

theorem aConv_rises [Syms] {σ : St} {s d : Nat} {x : Value} : (aConv E σ s d x).rises σ.next := by
  unfold aConv
  repeat' split
  all_goals first | exact trivial | exact Nat.le_refl _ | exact OR.rises_ofVal _ | (refine bif_rises ?_ ?_ <;> first | exact trivial | (simp [OR.rises]))

theorem appendOpen_rises [Syms] {σ : St} {size : Nat} {a : Addr} {sLen sCap need : Nat} {new : List Value} : (appendOpen σ size a sLen sCap need new).rises σ.next := by
  unfold appendOpen
  split
  · refine bif_rises (bif_rises ?_ ?_) trivial
    · split
      · rename_i h; exact Nat.le_of_eq (storeN_next h).symm
      · exact trivial
    · simp [OR.rises]
  · exact trivial

theorem appendExact_rises [Syms] {σ : St} {size : Nat} {base : Option Addr} {sLen sCap n : Nat} {new : List Value} : (appendExact σ size base sLen sCap n new).rises σ.next := by
  unfold appendExact
  refine bif_rises ?_ ?_
  · split
    · refine bif_rises ?_ trivial; exact Nat.le_refl _
    · split
      · rename_i h; exact Nat.le_of_eq (storeN_next h).symm
      · exact trivial
  · split
    · refine bif_rises trivial ?_; simp [OR.rises]
    · exact trivial

theorem aAppend_rises [Syms] {σ : St} {ts : Array Nat} {s x : Value} : (aAppend E σ ts s x).rises σ.next := by
  unfold aAppend
  split
  · split
    · split
      · split
        · exact trivial
        · refine bif_rises (bif_rises ?_ appendExact_rises) trivial
          split
          · exact trivial
          · exact appendOpen_rises
      · exact trivial
    · exact trivial
  · exact trivial

theorem aCopy_rises [Syms] {σ : St} {ts : Array Nat} {d s : Value} : (aCopy E σ ts d s).rises σ.next := by
  unfold aCopy
  split
  · split
    · split
      · simp only
        split
        · exact trivial
        · split
          · refine bif_rises ?_ trivial; exact Nat.le_refl _
          · split
            · rename_i h; exact Nat.le_of_eq (storeN_next h).symm
            · exact trivial
      · exact trivial
    · exact trivial
  · exact trivial

theorem aClear_rises [Syms] {σ : St} {ts : Array Nat} {x : Value} : (aClear E σ ts x).rises σ.next := by
  unfold aClear
  split
  · exact Nat.le_refl _
  · exact Nat.le_refl _
  · exact Nat.le_refl _
  · split
    · exact Nat.le_refl _
    · exact trivial
  · split
    · refine bif_rises ?_ trivial
      split
      · rename_i h; exact Nat.le_of_eq (storeN_next h).symm
      · exact trivial
    · exact trivial
  · exact trivial

theorem aMapUpdate_next [Syms] {σ σ' : St} {t : Nat} {m k v : Value} (h : aMapUpdate P E σ t m k v = some σ') : σ'.next = σ.next := by
  unfold aMapUpdate at h
  split at h
  · split at h
    · split at h
      · rw [← bif_some h]; rfl
      · simp only [Option.some.injEq] at h; subst h; rfl
      · cases h
    · cases h
  · cases h

theorem aDelete_next [Syms] {σ σ' : St} {ts : Array Nat} {m k : Value} (h : aDelete P E σ ts m k = some σ') : σ'.next = σ.next := by
  unfold aDelete at h
  split at h
  · rename_i kt et _
    cases hf : aFind P E kt k [] true with
    | none => simp [hf] at h
    | some q => simp only [hf, Option.map_some, Option.some.injEq] at h; subst h; rfl
  · split at h
    · split at h
      · simp only [Option.some.injEq] at h; subst h; rfl
      · simp only [Option.some.injEq] at h; subst h; rfl
      · cases h
    · cases h
  · cases h

theorem aBuiltin_rises [Syms] {σ : St} {b : Builtin} {ts : Array Nat} {args : List Value} : (aBuiltin P E σ b ts args).rises σ.next := by
  unfold aBuiltin
  split
  · exact aAppend_rises
  · exact OR.rises_ofVal _
  · exact OR.rises_ofVal _
  · exact aCopy_rises
  · exact aClear_rises
  · split
    · rename_i h; exact Nat.le_of_eq (aDelete_next h).symm
    · exact trivial
  · exact bif_rises (OR.rises_ofVal _) trivial
  · exact bif_rises (OR.rises_ofVal _) trivial
  · exact trivial
  · split <;> exact trivial
  · exact trivial

theorem aCallFunc_rises [Syms] {σ : St} {f : Nat} {args : List Value} : (aCallFunc E σ f args).rises σ.next := by
  unfold aCallFunc
  split
  · exact trivial
  · split
    · exact trivial
    · exact OR.rises_ofVal _

theorem aInvoke_rises [Syms] {σ : St} {r : Value} {name : String} {args : List Value} : (aInvoke E σ r name args).rises σ.next := by
  unfold aInvoke
  repeat' split
  all_goals first | exact trivial | exact aCallFunc_rises

theorem aCall_rises [Syms] {σ : St} {ρ : Operand → Value} {c : Call} : (aCall P E σ ρ c).rises σ.next := by
  unfold aCall
  split
  · exact aBuiltin_rises
  · exact aInvoke_rises
  · split
    · exact aCallFunc_rises
    · split
      · exact aInvoke_rises
      · exact trivial
    · exact trivial
    · exact trivial

theorem aRange_rises [Syms] {σ : St} {t : Nat} {x : Value} : (aRange E σ t x).rises σ.next := by
  unfold aRange
  split
  · simp [OR.rises]
  · split
    · simp [OR.rises]
    · exact trivial
  · exact trivial

theorem aNext_rises [Syms] {σ : St} {x : Value} : (aNext σ x).rises σ.next := by
  unfold aNext
  split
  · split
    · exact Nat.le_refl _
    · split
      · refine bif_rises trivial ?_
        split
        · exact Nat.le_refl _
        · refine bif_rises ?_ trivial; exact Nat.le_refl _
        · exact trivial
      · exact trivial
    · exact trivial
  · exact trivial

theorem aEntry_rises [Syms] {σ : St} {x : Value} : (aEntry σ x).rises σ.next := by
  unfold aEntry
  split
  · split
    · split
      · refine bif_rises ?_ trivial
        split
        · exact Nat.le_refl _
        · exact trivial
      · exact trivial
    · exact trivial
  · exact trivial

theorem roundEnd_rises [Syms] {l : Nat} {ds ds' : List Deferred} {par par' : Option FrameMode} {e : AEx} {σ σ' : St} {v : Value} (h : roundEnd l ds par e σ = .val v ds' par' σ') : σ.next = σ'.next := by
  unfold roundEnd at h
  split at h
  · cases h
  · split at h
    · cases h; rfl
    · cases h
theorem roundEnd_panic [Syms] {l : Nat} {ds : List Deferred} {par : Option FrameMode} {e : AEx} {σ σ' : St} {ch : List PanicEntry} (h : roundEnd l ds par e σ = .panic ch σ') : False := by
  unfold roundEnd at h
  repeat' split at h
  all_goals cases h
theorem begun_next [Syms] {l : Nat} {σ σ' : St} (h : begun σ l = some σ') : σ'.next = σ.next := by
  unfold begun at h
  split at h
  · split at h
    · cases h; rfl
    · cases h
  · cases h
theorem loopEnd_next [Syms] {l : Nat} {fr fr' : Fr} {e : AEx} {σ σ' : St} (h : loopEnd l fr σ = .done e fr' σ') : σ'.next = σ.next := by
  unfold loopEnd at h
  split at h
  · split at h
    · cases h
    · split at h <;> cases h <;> rfl
  · cases h

theorem aop0_rises [Syms] {ρ : Operand → Value} {o : Oper} {σ : St} : (aop0 P E ρ o σ).rises σ.next := by
  unfold aop0
  split
  · exact Nat.le_refl _
  · exact Nat.le_refl _
  · split
    · exact Nat.le_refl _
    · exact trivial
  · split
    · refine bif_rises ?_ trivial; simp [newCells, OR.rises]
    · exact trivial
  · refine bif_rises ?_ trivial; simp [newCells, OR.rises]
  · exact OR.rises_ofVal _
  · unfold aBuildSlice
    repeat' split
    all_goals first | exact trivial | (refine bif_rises ?_ trivial; simp [OR.rises]; done) | (refine bif_rises ?_ trivial)
    all_goals (repeat' split)
    all_goals first | exact trivial | (refine bif_rises ?_ trivial; simp [OR.rises]; done)
  · split
    · exact OR.rises_ofVal _
    · exact trivial
  · split
    · rename_i a _ _ _ _
      cases h : storeVar E σ _ _ _ with
      | none => exact trivial
      | some σ' => exact Nat.le_of_eq (storeVar_next h).symm
    · exact trivial
  · repeat' split
    all_goals first | exact trivial | exact Nat.le_refl _ | (refine bif_rises ?_ trivial; exact Nat.le_refl _)
  · exact OR.rises_ofVal _
  · exact OR.rises_ofVal _
  · exact aConv_rises
  · split
    · exact trivial
    · exact Nat.le_refl _
    · exact trivial
  · exact Nat.le_refl _
  · split
    · simp [OR.rises]
    · split
      · simp [OR.rises]
      · exact trivial
  · split
    · split
      · refine bif_rises ?_ trivial; simp [OR.rises]
      · exact trivial
    · exact trivial
  · unfold aMakeSlice
    repeat' split
    all_goals first | exact trivial | (refine bif_rises ?_ trivial; simp [OR.rises])
  · exact OR.rises_ofVal _
  · exact OR.rises_ofVal _
  · exact OR.rises_ofVal _
  · exact OR.rises_ofVal _
  · exact OR.rises_ofVal _
  · exact OR.rises_ofVal _
  · cases h : aMapUpdate P E σ _ _ _ _ with
    | none => exact trivial
    | some σ' => exact Nat.le_of_eq (aMapUpdate_next h).symm
  · cases h : aMapUpdate P E σ _ _ _ _ with
    | none => exact trivial
    | some σ' => exact Nat.le_of_eq (aMapUpdate_next h).symm
  · exact OR.rises_ofVal _
  · split
    · exact OR.rises_ofVal _
    · exact trivial
  · exact aCall_rises
  · split <;> exact trivial
  · exact aRange_rises
  · exact bif_rises trivial aNext_rises
  · exact aEntry_rises
  · split <;> exact trivial
  · exact trivial
  · repeat' split
    all_goals exact trivial
  · split <;> exact trivial
  · exact trivial

theorem aop_rises [Syms] {ρ : Operand → Value} {o : Oper} {σ : St} : (aop P E ρ o σ).rises σ.next := by
  rcases aop_cases P E ρ o σ with h | ⟨_, _, v, _, h⟩
  · rw [h]; exact aop0_rises
  · rw [h]; exact Nat.le_refl _

theorem aComm_next [Syms] {σ σ' : St} {l : List CommCase} {bl : Bool} {sh : CommShape} {v : Value} (h : aComm σ l bl sh = .val v σ') : σ.next ≤ σ'.next := by
  unfold aComm at h
  split at h
  · cases bl with
    | true => simp only [cond_true] at h; cases h
    | false => simp only [cond_false] at h; cases h; exact Nat.le_refl _
  · split at h
    · split at h
      · split at h
        · rename_i u _ _ _ _ _ _
          cases hk : known u with
          | true => rw [hk] at h; simp only [cond_true] at h; cases h; exact Nat.le_refl _
          | false => rw [hk] at h; simp only [cond_false] at h; cases h
        · cases h
      · split at h
        · cases h; exact Nat.le_refl _
        · cases h
      · cases h
    · cases h
  · cases h

def SRes.rises [Syms] (n : Nat) : SRes → Prop
  | .val _ _ _ σ => n ≤ σ.next
  | .panic _ σ => n ≤ σ.next
  | .fail _ => True
def Res.rises [Syms] (n : Nat) : Res → Prop
  | .done _ _ σ => n ≤ σ.next
  | .fail _ => True
def DRes.rises [Syms] (n : Nat) : DRes → Prop
  | .all _ _ σ => n ≤ σ.next
  | .panic _ _ _ σ _ => n ≤ σ.next
  | .fail _ => True
def CRes.rises [Syms] (n : Nat) : CRes → Prop
  | .ret _ _ σ => n ≤ σ.next
  | .panicked _ _ σ => n ≤ σ.next
  | .fail _ => True

theorem Res.rises_le [Syms] {a b : Nat} (h : a ≤ b) : ∀ {r : Res}, r.rises b → r.rises a
  | .done .., h' => Nat.le_trans h h'
  | .fail _, _ => trivial
theorem CRes.rises_le [Syms] {a b : Nat} (h : a ≤ b) : ∀ {r : CRes}, r.rises b → r.rises a
  | .ret .., h' => Nat.le_trans h h'
  | .panicked .., h' => Nat.le_trans h h'
  | .fail _, _ => trivial
theorem DRes.rises_le [Syms] {a b : Nat} (h : a ≤ b) : ∀ {r : DRes}, r.rises b → r.rises a
  | .all .., h' => Nat.le_trans h h'
  | .panic .., h' => Nat.le_trans h h'
  | .fail _, _ => trivial

/-- A call without a summary. -/
noncomputable def callB (P : Program) (E : Env) (n f : Nat) (args : List Value) (par : Option FrameMode) (σ : St) : CRes :=
  match E.func f with
  | none => .fail "func"
  | some fn =>
    match fn.body with
    | none => .fail "body"
    | some c =>
      match exec P E n c { n := Nat.max fn.ntmps args.length, tmps := laid args 0 .leaf, defers := [], par } σ with
      | .done .normal fr σ' => leave P E n fn fr .returning σ'
      | .done .ret fr σ' => leave P E n fn fr .returning σ'
      | .done (.panic ch) fr σ' => leave P E n fn fr (.panicking ch) σ'
      | .done (.exit _) _ _ => .fail "exit"
      | .fail w => .fail w

theorem rises_all [Syms] (n : Nat) :
    (∀ c fr σ, (exec P E n c fr σ).rises σ.next) ∧ (∀ ops l fr σ, (execOps P E n ops l fr σ).rises σ.next) ∧ (∀ ops l fr σ base, (runD P E n ops l fr σ base).rises σ.next) ∧
    (∀ ρ o ds par σ, (stepOp P E n ρ o ds par σ).rises σ.next) ∧ (∀ f args par σ, (callF P E n f args par σ).rises σ.next) ∧ (∀ fn fr u σ, (leave P E n fn fr u σ).rises σ.next) := by
  induction n with
  | zero =>
    refine ⟨fun c fr σ => ?_, fun ops l fr σ => ?_, fun ops l fr σ b => ?_, fun ρ o ds par σ => ?_, fun f args par σ => ?_, fun fn fr u σ => ?_⟩
    · unfold exec; exact trivial
    · unfold execOps; exact trivial
    · unfold runD; exact trivial
    · unfold stepOp; exact trivial
    · unfold callF; exact trivial
    · unfold leave; exact trivial
  | succ n ih =>
    obtain ⟨i1, i2, i3, i4, i5, i6⟩ := ih
    refine ⟨fun c fr σ => ?_, fun ops l fr σ => ?_, fun ops l fr σ base => ?_, fun ρ o ds par σ => ?_, fun f args par σ => ?_, fun fn fr u σ => ?_⟩
    · unfold exec
      split
      · exact Nat.le_refl _
      · exact i2 _ _ _ _
      · rename_i ops
        have := i3 ops ops.toList fr σ σ
        simp only
        split
        · rename_i rs fr' σ' h; rw [h] at this; cases readsOk P E (bfGo [] ops.toList) rs rs 0 <;> first | exact trivial | exact this
        · rename_i rs ch fr' σ' left h
          rw [h] at this
          cases (readsOk P E (bfGo [] ops.toList) rs rs 0 && leftOk (bfGo [] ops.toList) rs.length left (rs.length + 1)) <;> first | exact trivial | exact this
        · exact trivial
      · rename_i x y
        have := i1 x fr σ
        split
        · rename_i h; rw [h] at this; exact Res.rises_le this (i1 _ _ _)
        · exact this
      · split
        · exact i1 _ _ _
        · exact i1 _ _ _
        · exact trivial
      · rename_i id x
        have := i1 x fr σ
        split
        · rename_i i fr' σ' h; rw [h] at this; cases Nat.beq i id <;> exact this
        · exact this
      · rename_i x
        have := i1 x fr σ
        split
        · rename_i h; rw [h] at this; exact Res.rises_le this (i1 _ _ _)
        · exact this
      · exact Nat.le_refl _
      · exact Nat.le_refl _
      · rename_i g params assign body
        cases hr : isRound fr.par with
        | true => exact trivial
        | false =>
          simp only [cond_false]
          split
          · rename_i f args _ _
            have := i5 f args none (loopSt σ fr params assign body)
            split
            · rename_i h
              rw [h] at this
              have h3 : σ.next ≤ _ := Nat.le_trans (by simp [loopSt]; omega) this
              revert h3
              cases hle : loopEnd (σ.next + 1) (mark σ.next fr) _ with
              | done e fr' σ' => intro h3; show σ.next ≤ σ'.next; rw [loopEnd_next hle]; exact h3
              | fail w => intro _; exact trivial
            · rename_i h
              rw [h] at this
              exact Nat.le_trans (by simp [loopSt]; omega) this
            · exact trivial
          · exact trivial
      · exact trivial
    · cases l with
      | nil => simp only [execOps]; exact Nat.le_refl _
      | cons o rest =>
        simp only [execOps]
        split
        · have := i4 (evalO fr.tmps) o fr.defers fr.par σ
          split
          · rename_i h
            rw [h] at this
            split
            · exact Res.rises_le this (i2 _ _ _ _)
            · exact trivial
          · rename_i h; rw [h] at this; exact this
          · exact trivial
        · split
          · exact i2 _ _ _ _
          · exact trivial
        · exact trivial
    · cases l with
      | nil => simp only [runD]; exact Nat.le_refl _
      | cons o rest =>
        simp only [runD]
        split
        · have := i4 (evalO fr.tmps) o fr.defers fr.par σ
          split
          · rename_i h
            rw [h] at this
            split
            · split
              · rename_i h3; have h4 := Eq.mp (congrArg (DRes.rises _) h3) (i3 _ _ _ _ _); exact Nat.le_trans this h4
              · rename_i h3; have h4 := Eq.mp (congrArg (DRes.rises _) h3) (i3 _ _ _ _ _); exact Nat.le_trans this h4
              · exact trivial
            · exact trivial
          · rename_i h; rw [h] at this; split <;> first | exact this | exact trivial
          · exact trivial
        · exact trivial
        · split
          · split
            · rename_i h3; have h4 := Eq.mp (congrArg (DRes.rises _) h3) (i3 _ _ _ _ _); exact h4
            · rename_i h3; have h4 := Eq.mp (congrArg (DRes.rises _) h3) (i3 _ _ _ _ _); exact h4
            · exact trivial
          · exact trivial
    · unfold stepOp
      have := aop_rises (P := P) (E := E) (ρ := ρ) (o := o) (σ := σ)
      split
      · rename_i h; rw [h] at this; exact this
      · rename_i f args _ _
        have := i5 f args none σ
        split
        · rename_i h; rw [h] at this; exact this
        · rename_i h; rw [h] at this; exact this
        · exact trivial
      · split
        · split
          · rename_i L _ _ fr _
            have h1 := i1 L.assign fr σ
            split
            · rename_i fr1 σ1 he1
              rw [he1] at h1
              split
              · rename_i σ2 hb
                have h2 := i1 L.body fr1 σ2
                split
                · rename_i e fr2 σ3 he2
                  rw [he2] at h2
                  have h12 : σ.next ≤ σ3.next := by
                    have := begun_next hb
                    have h1' : σ.next ≤ σ1.next := h1
                    have h2' : σ2.next ≤ σ3.next := h2
                    omega
                  cases hr : roundEnd _ ds par e σ3 with
                  | val v ds' par' σ' => show σ.next ≤ σ'.next; rw [← roundEnd_rises hr]; exact h12
                  | panic ch σ' => exact (roundEnd_panic hr).elim
                  | fail w => exact trivial
                · exact trivial
              · exact trivial
            · exact trivial
          · exact trivial
        · exact trivial
      · cases isRound par <;> first | exact trivial | exact Nat.le_refl _
      · cases isRound par <;> first | exact trivial | exact Nat.le_refl _
      · split
        · rename_i h; exact aComm_next h
        · exact trivial
      · exact Nat.le_refl _
      · exact trivial
    · have hB : (callB P E n f args par σ).rises σ.next := by
        unfold callB
        split
        · exact trivial
        · split
          · exact trivial
          · rename_i fn _ _ c _
            have := i1 c { n := Nat.max fn.ntmps args.length, tmps := laid args 0 .leaf, defers := [], par } σ
            split
            · rename_i h; rw [h] at this; exact CRes.rises_le this (i6 _ _ _ _)
            · rename_i h; rw [h] at this; exact CRes.rises_le this (i6 _ _ _ _)
            · rename_i h; rw [h] at this; exact CRes.rises_le this (i6 _ _ _ _)
            · exact trivial
            · exact trivial
      unfold callB at hB
      unfold callF
      cases par with
      | none =>
        cases hs : E.sum f args σ with
        | none => exact hB
        | some q =>
          show (sumRes σ q).rises σ.next
          unfold sumRes
          cases hle : Nat.ble σ.next q.2.next with
          | false => exact trivial
          | true => exact of_bleT hle
      | some u => exact hB
    · unfold leave
      split
      · split
        · split
          · exact Nat.le_refl _
          · exact trivial
        · exact Nat.le_refl _
        · exact trivial
      · split
        · split
          · exact trivial
          · exact i6 _ _ _ _
          · exact trivial
        split
        · exact trivial
        · split
          · rename_i f args _ _
            have := i5 f args (some u) σ
            split
            · rename_i h; rw [h] at this; exact CRes.rises_le this (i6 _ _ _ _)
            · rename_i h; rw [h] at this; exact CRes.rises_le this (i6 _ _ _ _)
            · exact trivial
            · exact trivial
          · exact trivial

end Go.Ab
