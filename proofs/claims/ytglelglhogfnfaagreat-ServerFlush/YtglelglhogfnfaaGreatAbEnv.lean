/- The types and functions of a program, in tries; what must be checked of them. -/
import Derived.Test.YtglelglhogfnfaaGreatAbTop
import Derived.Lib.Bytealg
import Derived.Laws.StandIn
namespace Go.Ab

theorem evens_odds [Syms] {α : Type} : ∀ (l : List α), (∀ i, (Tr.ofList.evens l)[i]? = l[2 * i]?) ∧ (∀ i, (Tr.ofList.odds l)[i]? = l[2 * i + 1]?) ∧ (Tr.ofList.evens l).length ≤ l.length ∧ (Tr.ofList.odds l).length ≤ l.length
  | [] => by simp [Tr.ofList.evens, Tr.ofList.odds]
  | x :: xs => by
    obtain ⟨h1, h2, h3, h4⟩ := evens_odds xs
    refine ⟨fun i => ?_, fun i => ?_, ?_, ?_⟩
    · rw [Tr.ofList.evens]
      cases i with
      | zero => simp
      | succ i => rw [List.getElem?_cons_succ, h2, show 2 * (i + 1) = (2 * i + 1) + 1 by omega, List.getElem?_cons_succ]
    · rw [Tr.ofList.odds, h1, List.getElem?_cons_succ]
    · rw [Tr.ofList.evens]; simp; omega
    · rw [Tr.ofList.odds]; simp; omega

theorem ofList_get [Syms] {α : Type} : ∀ (f : Nat) (l : List α) (i : Nat), l.length ≤ f → (Tr.ofList f l).get i = l[i]?
  | 0, l, i, h => by
    have : l = [] := List.eq_nil_of_length_eq_zero (by omega)
    subst this
    simp [Tr.ofList, Tr.get_leaf]
  | f + 1, [], i, h => by simp [Tr.ofList, Tr.get_leaf]
  | f + 1, x :: xs, i, h => by
    obtain ⟨h1, h2, h3, h4⟩ := evens_odds xs
    simp only [List.length_cons] at h
    rw [Tr.ofList, Tr.get_node, ofList_get f _ _ (by omega), ofList_get f _ _ (by omega), h1, h2]
    by_cases h0 : i = 0
    · subst h0; simp
    · obtain ⟨j, rfl⟩ : ∃ j, i = j + 1 := ⟨i - 1, by omega⟩
      rw [if_neg h0, List.getElem?_cons_succ]
      by_cases hm : (j + 1) % 2 = 1
      · rw [if_pos hm]; congr 1; omega
      · rw [if_neg hm]; congr 1; omega

/-- internal/bytealg.IndexByteString. -/
def indexByteString (args : List Value) : Option Value :=
  match args with
  | [.string s, .int .u8 c] => some (.int .i64 (Lib.indexByte s.data.toList c.toNat.toUInt8))
  | _ => none

/-- With the types alone. -/
noncomputable def envT (P : Program) (n : Nat) : Env := { info := (Tr.ofList n P.types.toList).get, shape := fun _ => none, func := fun _ => none, ext := fun _ _ => none }

noncomputable def shapesOf (P : Program) (n : Nat) : List (Option Bool × Option Nat) := (List.range n).map fun t => ((envT P n).agg t, (envT P n).size t)

/-- What is known at symbols, if it is right. -/
structure SymOk [Syms] (P : Program) (sym : Op → List Value → Option Value) (keq : Bool → Value → Value → Option Bool) : Prop where
  sym : ∀ op vs v, sym op vs = some v → ∀ (φ : Phi) (ρ ρ' : Operand → Value) (o : Oper) (w : World), o.op = op → (∀ x, Vrel φ (ρ x) (ρ' x)) → op.operands.toList.map ρ = vs → ∃ v', (execOp ρ' o).run P w = .ok (.value v') w ∧ Vrel φ v v'
  keq : ∀ b x y r, keq b x y = some r → keyed x = true ∧ keyed y = true ∧ (match b with
    | true => ∃ k m n, den x = .int k m ∧ den y = .int k n ∧ r = (m == n)
    | false => ∃ m n, den x = .string m ∧ den y = .string n ∧ r = (m == n))
/-- Summaries that are right. -/
structure SumOk [Syms] (P : Program) (sum : Nat → List Value → St → Option (Value × St)) : Prop where
  sum : ∀ f args σ v σ', sum f args σ = some (v, σ') → ∀ (φ : Phi) (w : World) (args' : Array Value), Rel φ σ w.heap → VrelL φ args args'.toList → Fresh φ σ.next σ'.next →
    Calls P f args' w fun e w' => ∃ φ' v', e = .returned v' ∧ Vrel φ' v v' ∧ Rel φ' σ' w'.heap ∧ Trans φ σ w φ' σ' w'

theorem SymOk.none [Syms] (P : Program) : SymOk P (fun _ _ => none) (fun _ _ _ => none) := ⟨fun _ _ _ h => (by cases h), fun _ _ _ _ h => (by cases h)⟩
theorem SumOk.none [Syms] (P : Program) : SumOk P fun _ _ _ => none := ⟨fun _ _ _ _ _ h => (by cases h)⟩

/-- A call that leaves what was there. -/
theorem calls_still [Syms] {P : Program} {f : Nat} {args' : Array Value} {v : Value} {φ : Phi} {σ : St} {w : World} (r : Rel φ σ w.heap) (h : Calls P f args' w fun e w' => (∃ v', e = .returned v' ∧ Vrel φ v v') ∧ Go.RowKit.Below w.heap.size w w') :
    Calls P f args' w fun e w' => ∃ φ' v', e = .returned v' ∧ Vrel φ' v v' ∧ Rel φ' σ w'.heap ∧ Trans φ σ w φ' σ w' :=
  h.mono fun e w' ⟨⟨v', he, hv⟩, hb⟩ => ⟨φ, v', he, hv, ⟨fun i b hb' => by
      obtain ⟨x, o, h1, h2, h3⟩ := r.blocks i b hb'
      exact ⟨x, o, h1, by rw [hb.block _ (r.bound i x h1)]; exact h2, h3⟩, r.inj, fun i x hx => Nat.lt_of_lt_of_le (r.bound i x hx) hb.size, r.ids⟩,
    ⟨Nat.le_refl _, PLe.refl _, fun _ _ _ h => h, fun _ _ => rfl, fun b hb' _ => hb.block b hb', fun _ _ h1 h2 _ => absurd h1 (Nat.not_le.2 h2), hb.size, hb.tape, hb.os, hb.output, fun _ _ h => h⟩⟩

/-- The types and functions of a program. n: at least as many as there are of each; ib: internal/bytealg.IndexByteString's number (or a number beyond all). -/
noncomputable def envOf (P : Program) (n ib : Nat) (sym : Op → List Value → Option Value) (keq : Bool → Value → Value → Option Bool) (sum : Nat → List Value → St → Option (Value × St)) : Env :=
  { info := (Tr.ofList n P.types.toList).get
    shape := fun t => match (Tr.ofList n (shapesOf P n)).get t with
      | some (some b, some s) => some (b, s)
      | _ => none
    func := (Tr.ofList n P.funcs.toList).get
    ext := fun f args => bif Nat.beq f ib then indexByteString args else none
    sym, keq, sum }

section
variable {sym : Op → List Value → Option Value} {keq : Bool → Value → Value → Option Bool} {sum : Nat → List Value → St → Option (Value × St)}
theorem envOf_agg [Syms] (P : Program) (n ib t : Nat) : (envOf P n ib sym keq sum).agg t = (envT P n).agg t := rfl
theorem envOf_size [Syms] (P : Program) (n ib t : Nat) : (envOf P n ib sym keq sum).size t = (envT P n).size t := rfl

def fieldsOk (E : Env) : List Nat → Bool
  | [] => true
  | t :: ts => (match E.under t with
    | some (.struct fs) => fs.toList.all fun f => (E.shape f.type).isSome
    | _ => true) && fieldsOk E ts

theorem fieldsOk_spec [Syms] {E : Env} : ∀ {l : List Nat}, fieldsOk E l = true → ∀ t ∈ l, ∀ fs, E.under t = some (.struct fs) → ∀ f ∈ fs.toList, ∃ s, E.shape f.type = some s
  | [], _, t, h, _, _, _, _ => by simp at h
  | u :: us, h, t, ht, fs, hu, f, hf => by
    simp only [fieldsOk, Bool.and_eq_true] at h
    rcases List.mem_cons.1 ht with rfl | ht
    · have h1 := h.1
      rw [hu] at h1
      simp only [List.all_eq_true] at h1
      exact Option.isSome_iff_exists.1 (h1 f hf)
    · exact fieldsOk_spec h.2 t ht fs hu f hf

def typesOk : List TypeInfo → Bool
  | [] => true
  | i :: is => (match i.zero with
    | some z => closed z
    | none => true) && typesOk is

theorem typesOk_spec [Syms] : ∀ {l : List TypeInfo}, typesOk l = true → ∀ i ∈ l, ∀ z, i.zero = some z → closed z = true
  | [], _, i, h, _, _ => by simp at h
  | j :: js, h, i, hi, z, hz => by
    simp only [typesOk, Bool.and_eq_true] at h
    rcases List.mem_cons.1 hi with rfl | hi
    · have := h.1; rw [hz] at this; exact this
    · exact typesOk_spec h.2 i hi z hz

def funcsOk : List Func → Bool
  | [] => true
  | fn :: fns => !(fn.name == "runtime.NumGoroutine") && (match fn.body with
    | some c => codeOk c
    | none => true) && funcsOk fns

theorem funcsOk_spec [Syms] : ∀ {l : List Func}, funcsOk l = true → ∀ fn ∈ l, (fn.name == "runtime.NumGoroutine") = false ∧ ∀ c, fn.body = some c → codeOk c = true
  | [], _, i, h => by simp at h
  | j :: js, h, fn, hi => by
    simp only [funcsOk, Bool.and_eq_true, Bool.not_eq_true'] at h
    rcases List.mem_cons.1 hi with rfl | hi
    · exact ⟨h.1.1, fun c hc => by have := h.1.2; rw [hc] at this; exact this⟩
    · exact funcsOk_spec h.2 fn hi

theorem envOf_ok [Syms] {P : Program} {n ib : Nat} {fb : Func} (ht : Nat.ble P.types.toList.length n = true) (hf : Nat.ble P.funcs.toList.length n = true) (h1 : typesOk P.types.toList = true) (h2 : fieldsOk (envOf P n ib sym keq sum) (List.range n) = true)
    (h3 : funcsOk P.funcs.toList = true) (hm : P.follows .mixedOrders = true) (hb : P.funcs[ib]? = some fb) (hb1 : fb.body.isNone = true) (hb2 : Extern.findNext fb = none) (hb3 : Extern.find fb = some Extern.BytealgIndexByte.indexByte) (hh : SymOk P sym keq) (hsm : SumOk P sum) : EnvOk P (envOf P n ib sym keq sum) := by
  have ht := of_bleT ht
  have hf := of_bleT hf
  have hi : ∀ t, (envOf P n ib sym keq sum).info t = P.types[t]? := fun t => by
    show (Tr.ofList n P.types.toList).get t = _
    rw [ofList_get _ _ _ ht, Array.getElem?_toList]
  have hfn : ∀ f, (envOf P n ib sym keq sum).func f = P.funcs[f]? := fun t => by
    show (Tr.ofList n P.funcs.toList).get t = _
    rw [ofList_get _ _ _ hf, Array.getElem?_toList]
  have bound : ∀ t i, (envOf P n ib sym keq sum).info t = some i → t < n := fun t i h => by
    rw [hi] at h
    have := (Array.getElem?_eq_some_iff.1 h).1
    simp at ht
    omega
  have hmem : ∀ f fn, (envOf P n ib sym keq sum).func f = some fn → fn ∈ P.funcs.toList := fun f fn h => by
    rw [hfn] at h
    exact Array.mem_toList_iff.2 (Array.mem_of_getElem? h)
  refine ⟨fun t i h => ?_, fun t b s h => ?_, fun f fn h => by rw [hfn] at h; exact h, fun t fs h => ?_, fun f fn c h hc => (funcsOk_spec h3 fn (hmem f fn h)).2 c hc, hm, fun f fn h => (funcsOk_spec h3 fn (hmem f fn h)).1, fun f args v h φ w args' ha => ?_, fun t z h => ?_, hh.sym, hh.keq, fun _ _ h => (by cases h), fun _ _ h => (by cases h), hsm.sum⟩
  · rw [hi] at h
    have hlt := (Array.getElem?_eq_some_iff.1 h).1
    unfold Tables.info?
    rw [if_pos hlt]; exact h
  · have hs : (envOf P n ib sym keq sum).shape t = match (Tr.ofList n (shapesOf P n)).get t with
      | some (some b, some s) => some (b, s)
      | _ => none := rfl
    rw [hs, ofList_get _ _ _ (by simp [shapesOf])] at h
    rw [envOf_agg, envOf_size]
    split at h
    · rename_i b' s' hg
      cases h
      simp only [shapesOf, List.getElem?_map] at hg
      cases hr : (List.range n)[t]? with
      | none => rw [hr] at hg; cases hg
      | some t' =>
        have : t' = t := by
          have := List.getElem?_eq_some_iff.1 hr
          obtain ⟨_, e⟩ := this
          simpa using e.symm
        subst this
        rw [hr] at hg
        simp only [Option.map_some, Option.some.injEq, Prod.mk.injEq] at hg
        exact hg
    · cases h
  · have : t < n := by
      unfold Env.under at h
      cases hg : (envOf P n ib sym keq sum).info t with
      | none => rw [hg] at h; cases h
      | some i => exact bound t i hg
    exact fieldsOk_spec h2 t (List.mem_range.2 this) fs h
  · have he : (bif Nat.beq f ib then indexByteString args else none) = some v := h
    cases hbq : Nat.beq f ib with
    | false => rw [hbq] at he; cases he
    | true =>
      rw [hbq] at he
      simp only [cond_true] at he
      obtain rfl := of_beqT hbq
      unfold indexByteString at he
      split at he
      · rename_i s c
        cases he
        have hs : args' = [.string s, .int .u8 c] := by
          simp only [VrelL, Vrel] at ha
          obtain ⟨_, _, rfl, rfl, _, _, rfl, rfl, rfl⟩ := ha
          rfl
        subst hs
        refine ⟨.int .i64 (Lib.indexByte s.data.toList c.toNat.toUInt8), ?_, by simp [Vrel]⟩
        have hname := (funcsOk_spec h3 fb (hmem f fb (by rw [hfn]; exact hb))).1
        rw [run_callFunc_indexByte hb hname hb1 hb2 hb3]
        show ((Extern.BytealgIndexByte.indexByte #[.string s, .int .u8 c]).run P w).andThen _ = _
        rw [Lib.run_indexByteString]
        rfl
      · cases he
  · unfold Env.zero at h
    cases hg : (envOf P n ib sym keq sum).info t with
    | none => rw [hg] at h; cases h
    | some i =>
      rw [hg] at h
      simp only [Option.bind_some] at h
      rw [hi] at hg
      exact typesOk_spec h1 i (Array.mem_toList_iff.2 (Array.mem_of_getElem? hg)) z h

end

end Go.Ab
