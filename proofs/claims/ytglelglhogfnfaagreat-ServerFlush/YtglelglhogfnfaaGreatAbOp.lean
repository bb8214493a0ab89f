/- ONE OPERATION: what the abstract one yields stands for what the machine's yields. -/
import Derived.Test.YtglelglhogfnfaaGreatAbIter
namespace Go.Ab

variable {P : Program} {E : Env}

theorem OpOk.ofRun [Syms] {φ : Phi} {σ : St} {w : World} (r : Rel φ σ w.heap) {o : Option Value} {s : Sem Value} (h : ∀ v, o = some v → ∃ v', s.run P w = .ok v' w ∧ Vrel φ v v') : OpOk φ σ w (OR.ofVal σ o) ((do Pure.pure (Next.value (← s)) : Sem Next).run P w) :=
  OpOk.ofVal r fun v hv => by
    obtain ⟨v', h1, h2⟩ := h v hv
    exact ⟨v', by simp [h1], h2⟩

theorem OpOk.ofUnit [Syms] {φ : Phi} {σ : St} {w : World} {o : Option St} {s : Sem Unit} (h : ∀ σ', o = some σ' → ∃ w', s.run P w = .ok () w' ∧ Rel φ σ' w'.heap ∧ Trans φ σ w φ σ' w') : OpOk φ σ w (OR.ofSt o) ((do s; Pure.pure Next.skip : Sem Next).run P w) := by
  cases o with
  | none => exact trivial
  | some σ' =>
    obtain ⟨w', h1, h2, h3⟩ := h σ' rfl
    exact ⟨φ, w', undef, .inr ⟨by simp [h1], rfl⟩, by simp [undef, Vrel, VrelA, VrelL], h2, h3⟩

theorem ORelV.map [Syms] {φ : Phi} {ρ ρ' : Operand → Value} (hρ : ∀ x, Vrel φ (ρ x) (ρ' x)) (x : Option Operand) : ORelV φ (x.map ρ) (x.map ρ') := by
  cases x with
  | none => exact trivial
  | some x => exact hρ x

theorem VrelL.mapρ [Syms] {φ : Phi} {ρ ρ' : Operand → Value} (hρ : ∀ x, Vrel φ (ρ x) (ρ' x)) (l : List Operand) : VrelL φ (l.map ρ) (l.map ρ') := VrelL.map_of l fun x _ => hρ x

theorem PartsRel.mapρ [Syms] {φ : Phi} {ρ ρ' : Operand → Value} (hρ : ∀ x, Vrel φ (ρ x) (ρ' x)) (l : List (Nat × Operand)) : PartsRel φ (l.map fun (i, x) => (i, ρ x)) (l.map fun (i, x) => (i, ρ' x)) := by
  refine ⟨by simp, fun k p hk => ?_⟩
  rw [List.getElem?_map] at hk
  cases hl : l[k]? with
  | none => simp [hl] at hk
  | some q =>
    simp only [hl, Option.map_some, Option.some.injEq] at hk
    subst hk
    exact ⟨(q.1, ρ' q.2), by simp [hl], rfl, hρ q.2⟩

theorem aBuiltin_sound [Syms] (hE : EnvOk P E) {φ : Phi} {σ : St} {w : World} (r : Rel φ σ w.heap) {b : Builtin} {argTypes : Array TypeId} {ty : TypeId} {consts : Array Bool} {args args' : List Value} (ha : VrelL φ args args')
    (hf : ∀ v σ', aBuiltin P E σ b argTypes args = .val v σ' → Fresh φ σ.next σ'.next) : OpOk φ σ w (aBuiltin P E σ b argTypes args) ((builtin b argTypes ty consts args'.toArray).run P w) := by
  unfold aBuiltin at hf ⊢
  split
  · rename_i s x
    simp only [VrelL] at ha
    obtain ⟨s', _, rfl, hs, x', _, rfl, hx, rfl⟩ := ha
    exact aAppend_sound hE r hs hx hf
  · rename_i x
    simp only [VrelL] at ha
    obtain ⟨x', _, rfl, hx, rfl⟩ := ha
    exact OpOk.ofRun r fun v hv => by
      obtain ⟨h1, h2⟩ := aLen_sound (ty := ty) hE r hv hx
      exact ⟨v, h1, Vrel.closed_refl φ v h2⟩
  · rename_i x
    simp only [VrelL] at ha
    obtain ⟨x', _, rfl, hx, rfl⟩ := ha
    exact OpOk.ofRun r fun v hv => by
      obtain ⟨h1, h2⟩ := aCap_sound (ty := ty) hE (w := w) hv hx
      exact ⟨v, h1, Vrel.closed_refl φ v h2⟩
  · rename_i d s
    simp only [VrelL] at ha
    obtain ⟨d', _, rfl, hd, s', _, rfl, hs, rfl⟩ := ha
    exact aCopy_sound hE r hd hs
  · rename_i x
    simp only [VrelL] at ha
    obtain ⟨x', _, rfl, hx, rfl⟩ := ha
    exact aClear_sound hE r hx
  · rename_i m k
    simp only [VrelL] at ha
    obtain ⟨m', _, rfl, hm, k', _, rfl, hk, rfl⟩ := ha
    split
    · rename_i σ' hd
      obtain ⟨w', h1, h2, h3⟩ := aDelete_sound (ty := ty) hE r hd hm hk
      exact ⟨φ, w', .tuple #[], .inl (by simp [builtin, h1]), by simp [Vrel, VrelA, VrelL], h2, h3⟩
    · exact trivial
  · rename_i x rest
    cases hc : (x :: rest).all closed with
    | false => simp only [cond_false]; exact trivial
    | true =>
      simp only [cond_true]
      rw [closed_all hc ha]
      exact OpOk.ofRun (s := Builtin.max_ argTypes 0 (x :: rest).toArray) r fun v hv => by
        obtain ⟨h1, h2⟩ := plainOnly_sound hv
        exact ⟨v, pureRun_sound P _ _ h1 w, Vrel.closed_refl φ v h2⟩
  · rename_i x rest
    cases hc : (x :: rest).all closed with
    | false => simp only [cond_false]; exact trivial
    | true =>
      simp only [cond_true]
      rw [closed_all hc ha]
      exact OpOk.ofRun (s := Builtin.min_ argTypes 0 (x :: rest).toArray) r fun v hv => by
        obtain ⟨h1, h2⟩ := plainOnly_sound hv
        exact ⟨v, pureRun_sound P _ _ h1 w, Vrel.closed_refl φ v h2⟩
  · simp only [VrelL] at ha
    subst ha
    exact ⟨rfl, rfl⟩
  · rename_i x
    simp only [VrelL] at ha
    obtain ⟨x', _, rfl, hx, rfl⟩ := ha
    split
    · rename_i t y
      simp only [Vrel] at hx
      obtain ⟨y', rfl, hy⟩ := hx
      refine ⟨rfl, .iface t y', ?_, by simp only [Vrel]; exact ⟨y', rfl, hy⟩⟩
      simp [builtin, Instr.panic]
    · exact trivial
  · exact trivial

theorem aCall_sound [Syms] (hE : EnvOk P E) {φ : Phi} {σ : St} {w : World} (r : Rel φ σ w.heap) {ρ ρ' : Operand → Value} (hρ : ∀ x, Vrel φ (ρ x) (ρ' x)) {c : Call} {ty : TypeId}
    (hf : ∀ v σ', aCall P E σ ρ c = .val v σ' → Fresh φ σ.next σ'.next) : OpOk φ σ w (aCall P E σ ρ c) ((do let d ← resolve ρ' c ty; invoke d.target d.args : Sem Next).run P w) := by
  have hargs := VrelL.mapρ hρ c.args.toList
  have hmap : c.args.map ρ' = (c.args.toList.map ρ').toArray := by apply Array.ext'; simp
  unfold aCall at hf ⊢
  split
  · rename_i b hc
    simp only [resolve, hc, Sem.run_bind, Sem.run_pure, Result.andThen_ok, invoke, hmap]
    simp only [hc] at hf
    exact aBuiltin_sound hE r hargs hf
  · rename_i rc name hc
    simp only [resolve, hc, Sem.run_bind, Sem.run_pure, Result.andThen_ok, invoke, hmap]
    have h0 : (#[ρ' rc] ++ (c.args.toList.map ρ').toArray)[0]? = some (ρ' rc) := by simp
    have h1 : (#[ρ' rc] ++ (c.args.toList.map ρ').toArray).extract 1 (#[ρ' rc] ++ (c.args.toList.map ρ').toArray).size = (c.args.toList.map ρ').toArray := by
      apply Array.ext'; simp [List.extract_eq_take_drop]
      exact List.take_of_length_le (by simp)
    simp only [h0, h1]
    exact aInvoke_sound hE r (hρ rc) (by simpa using hargs)
  · rename_i f hc
    have hfv := hρ f
    simp only [resolve, hc, Sem.run_bind]
    split
    · rename_i g first captured hv
      rw [hv] at hfv
      simp only [Vrel] at hfv
      obtain ⟨first', captured', hv', hfi, hca⟩ := hfv
      simp only [hv', Deferred.ofValue, Sem.run_pure, Result.andThen_ok, invoke, hmap]
      refine aCallFunc_sound hE r ?_
      rw [VrelA.iff] at hfi hca
      simpa using (hfi.append hargs).append hca
    · rename_i name first captured hv
      rw [hv] at hfv
      simp only [Vrel] at hfv
      obtain ⟨first', captured', hv', hfi, hca⟩ := hfv
      simp only [hv', Deferred.ofValue, Sem.run_pure, Result.andThen_ok, invoke, hmap]
      rw [VrelA.iff] at hfi
      have happ := hfi.append hargs
      split
      · rename_i rc args heq
        rw [heq] at happ
        simp only [VrelL] at happ
        obtain ⟨rc', args', heq', hr, hargs'⟩ := happ
        have hall : first' ++ (c.args.toList.map ρ').toArray = (rc' :: args').toArray := by
          apply Array.ext'; simpa using heq'
        have h1 : (rc' :: args').toArray.extract 1 (rc' :: args').toArray.size = args'.toArray := by
          apply Array.ext'; simp [List.extract_eq_take_drop]
        rw [hall]
        simp only [h1, List.getElem?_toArray, List.getElem?_cons_zero]
        exact aInvoke_sound hE r hr (by simpa using hargs')
      · exact trivial
    · rename_i l hv
      rw [hv] at hfv
      simp only [Vrel, true_implies] at hfv
      obtain ⟨l', hl, ho⟩ := hfv.2
      refine ⟨l', (c.args.toList.map ρ').toArray, ho, by simpa using hargs, fun L' hL hsz => ?_⟩
      simp only [hl, Deferred.ofValue, Sem.run_pure, Result.andThen_ok, invoke, hmap]
      simp only [List.nil_append, Array.empty_append]
      simp only [Instr.yield, Instr.getLoop, Sem.run_bind, run_getObj hL (by intro c t f e; cases e), Result.andThen_ok, Sem.run_pure, hsz]
      simp
    · exact trivial

theorem aDefer_sound [Syms] {φ : Phi} {w : World} {ρ ρ' : Operand → Value} (hρ : ∀ x, Vrel φ (ρ x) (ρ' x)) {c : Call} {ty : TypeId} {d : Deferred} (h : aDefer ρ c = some d) : ∃ d', (resolve ρ' c ty).run P w = .ok d' w ∧ DRel φ d d' := by
  have hargs := VrelL.mapρ hρ c.args.toList
  unfold aDefer at h
  split at h
  · rename_i f hc
    have hfv := hρ f
    split at h
    · rename_i g first captured hv
      rw [hv] at hfv
      simp only [Vrel] at hfv
      obtain ⟨first', captured', hv', hfi, hca⟩ := hfv
      simp only [Option.some.injEq] at h
      subst h
      refine ⟨{ target := .fn (.func g) captured', args := first' ++ c.args.map ρ' }, by simp [resolve, hc, hv', Deferred.ofValue], Or.inl ⟨g, captured, captured', rfl, rfl, hca, ?_⟩⟩
      rw [VrelA.iff] at hfi ⊢
      simpa using hfi.append hargs
    · cases h
  · cases h

theorem notNil_sound [Syms] (hE : EnvOk P E) {φ : Phi} {w : World} {t : Nat} {v v' : Value} {name : String} (h : aNotNil E t v name = true) (hv : Vrel φ v v') : (nilAhead (P.types.size + Made.depth) t v' name).run P w = .ok (some false) w := by
  have hfuel : P.types.size + Made.depth = (P.types.size + 99) + 1 := rfl
  rw [hfuel]
  unfold aNotNil at h
  split at h
  · rename_i i d hi hu
    split at h
    · rename_i m hm
      have hm' : i.methods.find? (·.name == name) = some m := by rw [← Array.find?_toList]; exact hm
      unfold nilAhead
      simp only [Sem.run_bind, run_info hE hi, Result.andThen_ok, hm']
      split at h
      · rename_i f hpath hfunc
        simp only [hpath, followBlind, Sem.run_bind, Sem.run_pure, Result.andThen_ok, hfunc]
      · rename_i f e a hpath hfunc
        simp only [Vrel] at hv
        obtain ⟨a', rfl, _⟩ := hv
        simp only [hpath, followBlind, Sem.run_bind, Sem.run_pure, Result.andThen_ok, hfunc, run_under hE hu]
      · cases h
      · rename_i d1 v1 _ _ _ _ f hpath hfunc hn1 hn2
        simp only [hpath, followBlind, Sem.run_bind, Sem.run_pure, Result.andThen_ok, hfunc]
        simp only [Sem.run_bind, run_under hE hu, Result.andThen_ok]
        cases d1 <;> first | rfl | exact absurd rfl (hn1 _)
      · cases h
    · cases h
  · cases h

/-- The machine's single operations, each with its abstract one. -/
theorem aop0_sound [Syms] (hE : EnvOk P E) {φ : Phi} {σ : St} {w : World} (r : Rel φ σ w.heap) {ρ ρ' : Operand → Value} (hρ : ∀ x, Vrel φ (ρ x) (ρ' x)) (o : Oper)
    (hf : ∀ v σ', aop0 P E ρ o σ = .val v σ' → Fresh φ σ.next σ'.next) : OpOk φ σ w (aop0 P E ρ o σ) ((execOp ρ' o).run P w) := by
  unfold aop0 at hf ⊢
  unfold execOp
  cases ho : o.op with
  | move x => simp only [ho]; exact .pure r rfl (hρ x)
  | assign x => simp only [ho]; exact .pure r rfl (hρ x)
  | pick c a b =>
    simp only [ho]
    have hc := hρ c
    split
    · rename_i t hv
      rw [hv] at hc
      simp only [Vrel] at hc
      refine .pure (v' := if t then ρ' a else ρ' b) r ?_ (by cases t <;> simp [hρ])
      simp [hc, asBool]
    · exact trivial
  | alloc e =>
    simp only [ho] at hf ⊢
    split
    · rename_i z hz
      simp only [hz] at hf
      cases hc : cellsAll z.cells.toList with
      | false => simp only [cond_false]; exact trivial
      | true =>
        simp only [hc, cond_true] at hf ⊢
        refine newCells_sound r (hf _ _ rfl) (zclosed_cells (hE.zclosed e z hz)) e ?_
        simp [Instr.alloc, run_zero hE hz, newVar, run_newRow]
    · exact trivial
  | box e x =>
    simp only [ho] at hf ⊢
    cases hc : cellsAll (ρ x).cells.toList with
    | false => simp only [cond_false]; exact trivial
    | true =>
      simp only [hc, cond_true] at hf ⊢
      have hk : known (ρ x) = true := by
        generalize ρ x = v at hc
        cases v <;> simp_all [known, cellsAll, Value.cells, isCell]
      refine newCells_sound r (hf _ _ rfl) ((hρ x).cells hk) e ?_
      simp [Instr.box, newVar, run_newRow]
  | build t parts =>
    simp only [ho]
    have hmap : (parts.map fun (i, x) => (i, ρ' x)) = (parts.toList.map fun (i, x) => (i, ρ' x)).toArray := by apply Array.ext'; simp
    rw [hmap]
    exact OpOk.ofRun r fun v hv => aBuild_sound hE hv (PartsRel.mapρ hρ _) w
  | buildSlice t len parts =>
    simp only [ho] at hf ⊢
    have hmap : (parts.map fun (i, x) => (i, ρ' x)) = (parts.toList.map fun (i, x) => (i, ρ' x)).toArray := by apply Array.ext'; simp
    rw [hmap]
    exact aBuildSlice_sound hE r (PartsRel.mapρ hρ _) hf
  | load t a =>
    simp only [ho]
    have ha := hρ a
    split
    · rename_i a0 hv
      rw [hv] at ha
      simp only [Vrel] at ha
      obtain ⟨a', ha', hra⟩ := ha
      exact OpOk.ofRun r fun v hv => by
        obtain ⟨v', h1, h2⟩ := loadVar_sound hE r hv hra
        exact ⟨v', by simp [Instr.loadAt, ha', Instr.sureAddr, h1], h2⟩
    · exact trivial
  | store t a x =>
    simp only [ho]
    have ha := hρ a
    split
    · rename_i a0 hv
      rw [hv] at ha
      simp only [Vrel] at ha
      obtain ⟨a', ha', hra⟩ := ha
      exact OpOk.ofUnit fun σ' hs => by
        obtain ⟨w', h1, h2, h3⟩ := storeVar_sound hE r hs hra (hρ x)
        exact ⟨w', by simp [Instr.storeAt, ha', Instr.sureAddr, h1], h2, h3⟩
    · exact trivial
  | nilCheck x =>
    simp only [ho]
    have hx := hρ x
    split
    · rename_i l hv
      rw [hv] at hx
      simp only [Vrel, true_implies] at hx
      obtain ⟨l', hl, ho⟩ := hx.2
      exact .pure (v' := .func (.yield l') #[] #[]) r (by simp only [hl]; rfl) (by simp only [Vrel, true_implies]; exact ⟨fun h => (by cases h), l', rfl, ho⟩)
    · exact trivial
    · exact trivial
    · exact trivial
    · exact trivial
    · rename_i name first captured hv
      rw [hv] at hx
      simp only [Vrel] at hx
      obtain ⟨first', captured', hv', hfi, hca⟩ := hx
      split
      · rename_i t y rest hfl
        cases hn : aNotNil E t y name with
        | false => simp only [cond_false]; exact trivial
        | true =>
          simp only [cond_true]
          have hfi0 := hfi
          rw [VrelA.iff, hfl] at hfi
          simp only [VrelL] at hfi
          obtain ⟨f0, fr', hfe, hy, _⟩ := hfi
          simp only [Vrel] at hy
          obtain ⟨y', rfl, hyy⟩ := hy
          have hg : first'[0]? = some (.iface t y') := by rw [← Array.getElem?_toList, hfe]; rfl
          refine .pure (v' := .func (.method name) first' captured') r ?_ (by simp only [Vrel]; exact ⟨_, _, rfl, hfi0, hca⟩)
          simp only [hv', hg, Sem.run_bind, run_program, Result.andThen_ok, notNil_sound hE hn hyy]
          simp
      · exact trivial
    · rename_i v h1 h2 h3 h4 h5
      refine .pure (v' := ρ' x) r ?_ hx
      generalize ρ x = u at *
      generalize ρ' x = u' at *
      cases u with
      | pointer a => cases a with
        | none => exact absurd rfl h1
        | some a => simp only [Vrel] at hx; obtain ⟨_, rfl, _⟩ := hx; rfl
      | slice a => cases a <;> simp only [Vrel] at hx <;> (first | subst hx | obtain ⟨_, _, rfl, _⟩ := hx) <;> rfl
      | map a => cases a <;> simp only [Vrel] at hx <;> (first | subst hx | obtain ⟨_, rfl, _⟩ := hx) <;> rfl
      | chan a => cases a <;> simp only [Vrel] at hx <;> (first | subst hx | obtain ⟨_, rfl, _⟩ := hx) <;> rfl
      | complex => exact absurd rfl (h4 _ _ _)
      | nilIface => exact absurd rfl h2
      | nilFunc => exact absurd rfl h3
      | func fn a b =>
        simp only [Vrel] at hx
        obtain ⟨_, _, rfl, _⟩ := hx
        cases fn with
        | method name => exact absurd rfl (h5 _ _ _)
        | _ => rfl
      | iface => simp only [Vrel] at hx; obtain ⟨_, rfl, _⟩ := hx; rfl
      | agg => simp only [Vrel] at hx; obtain ⟨_, rfl, _⟩ := hx; rfl
      | tuple => simp only [Vrel] at hx; obtain ⟨_, rfl, _⟩ := hx; rfl
      | _ => simp only [Vrel] at hx; subst hx; rfl
  | binOp op t x y yt =>
    simp only [ho]
    exact OpOk.ofRun (s := do eqGuard op t x y (ρ' x) (ρ' y); binOp op t (ρ' x) (ρ' y)) r fun v hv => by
      obtain ⟨h1, h2⟩ := aBin_sound hE r hv (hρ x) (hρ y)
      exact ⟨v, h1, Vrel.closed_refl φ v h2⟩
  | unOp op t x =>
    simp only [ho]
    have hx := hρ x
    exact OpOk.ofRun r fun v hv => by
      unfold aUn at hv
      split at hv
      · rename_i b he
        rw [he] at hx; simp only [Vrel] at hx
        simp only [Option.some.injEq] at hv; subst hv
        exact ⟨_, by rw [hx]; rfl, by simp [Vrel]⟩
      · rename_i k n he
        rw [he] at hx; simp only [Vrel] at hx
        simp only [Option.some.injEq] at hv; subst hv
        exact ⟨_, by rw [hx]; rfl, by simp [Vrel]⟩
      · rename_i k n he
        rw [he] at hx; simp only [Vrel] at hx
        simp only [Option.some.injEq] at hv; subst hv
        exact ⟨_, by rw [hx]; rfl, by simp [Vrel]⟩
      · cases hv
  | convert s d x =>
    simp only [ho] at hf ⊢
    exact aConv_sound hE r (hρ x) hf
  | makeInterface t x =>
    simp only [ho]
    split
    · exact trivial
    · rename_i d hne hu
      refine .pure (v' := .iface t (ρ' x)) r ?_ (by simp only [Vrel]; exact ⟨_, rfl, hρ x⟩)
      simp only [Instr.makeInterface, Sem.run_bind, run_under hE hu, Result.andThen_ok]
      cases d <;> first | rfl | exact absurd rfl (hne _)
    · exact trivial
  | makeFunc fn first captured =>
    simp only [ho]
    refine .pure (v' := .func fn (first.map ρ') (captured.map ρ')) r rfl ?_
    simp only [Vrel]
    exact ⟨_, _, rfl, by rw [VrelA.iff]; simpa using VrelL.mapρ hρ first.toList, by rw [VrelA.iff]; simpa using VrelL.mapρ hρ captured.toList⟩
  | makeMap t rv =>
    simp only [ho] at hf ⊢
    have key : ∀ {res : Result Next}, Fresh φ σ.next (σ.new (.map [] [] 0)).next → res = .ok (.value (.map (some w.heap.size))) { w with heap := w.heap.push (.map #[] 0) } → OpOk φ σ w (.val (.map (some σ.next)) (σ.new (.map [] [] 0))) res := by
      intro res hfr hres
      obtain ⟨φ', p1, p2, p3⟩ := newObj_sound (o := .map #[] 0) (b := .map [] [] 0) r hfr fun φ' _ => ⟨#[], rfl, rfl, ⟨by simp, fun k p hk => by simp at hk⟩, rfl⟩
      refine ⟨φ', _, .map (some w.heap.size), .inl hres, ?_, p2, p3⟩
      subst p1
      simp only [Vrel]
      exact ⟨_, rfl, by unfold ORel; simp⟩
    cases rv with
    | none =>
      simp only at hf ⊢
      refine key (hf _ _ rfl) ?_
      simp [Instr.makeMap]
    | some x =>
      simp only at hf ⊢
      have hx := hρ x
      split
      · rename_i k e kd n hu hv
        simp only [hu, hv] at hf
        rw [hv] at hx
        simp only [Vrel] at hx
        refine key (hf _ _ rfl) ?_
        simp [Instr.makeMap, run_under hE hu, hx, asInt, asIntOf]
      · exact trivial
  | makeChan t s =>
    simp only [ho] at hf ⊢
    have hs := hρ s
    split
    · rename_i d e k n hu hv
      simp only [hu, hv] at hf
      rw [hv] at hs
      simp only [Vrel] at hs
      split
      · rename_i b hb
        simp only [hb] at hf
        cases hc : (decide (0 ≤ n) && decide (n ≤ 9223372036854775807) && decide ((b : Int) * n ≤ 281474976710544)) with
        | false => simp only [cond_false]; exact trivial
        | true =>
          simp only [hc, cond_true] at hf ⊢
          simp only [Bool.and_eq_true, decide_eq_true_eq] at hc
          obtain ⟨⟨c1, c2⟩, c3⟩ := hc
          obtain ⟨i, i1, i2⟩ := run_bytes hE hb w
          obtain ⟨φ', p1, p2, p3⟩ := newObj_sound (o := .chan n.toNat #[] false 0 0 false) (b := .chan n.toNat []) r (hf _ _ rfl) fun φ' _ => ⟨#[], 0, 0, rfl, rfl, by simp [VrelL]⟩
          refine ⟨φ', _, .chan (some w.heap.size), .inl ?_, ?_, p2, p3⟩
          · have hno : ¬ (n < 0 ∨ n > IntKind.i64.max ∨ (i.bytes : Int) * n > 2 ^ 48 - 112) := by
              rw [i2]
              have : IntKind.i64.max = 9223372036854775807 := rfl
              omega
            simp only [Instr.makeChan, hs, asInt, asIntOf, Sem.run_bind, Sem.run_pure, Result.andThen_ok, run_under hE hu, i1, hno, if_false, run_newObj]
          · subst p1
            simp only [Vrel]
            exact ⟨_, rfl, by unfold ORel; simp⟩
      · exact trivial
    · exact trivial
  | makeSlice t l c =>
    simp only [ho] at hf ⊢
    exact aMakeSlice_sound hE r (hρ l) (hρ c) hf
  | slice t x lo hi mx =>
    simp only [ho]
    exact OpOk.ofRun r fun v hv => aSlice_sound hE r hv (hρ x) (ORelV.map hρ lo) (ORelV.map hρ hi) (ORelV.map hρ mx)
  | fieldAddr s x f => simp only [ho]; exact OpOk.ofRun r fun v hv => aFieldAddr_sound hE hv (hρ x) w
  | field t x f => simp only [ho]; exact OpOk.ofRun r fun v hv => aField_sound hE hv (hρ x) w
  | indexAddr t x i => simp only [ho]; exact OpOk.ofRun r fun v hv => aIndexAddr_sound hE hv (hρ x) (hρ i) w
  | index t x i => simp only [ho]; exact OpOk.ofRun r fun v hv => aIndex_sound hE hv (hρ x) (hρ i) w
  | lookup t x i ok => simp only [ho]; exact OpOk.ofRun r fun v hv => aLookup_sound hE r hv (hρ x) (hρ i)
  | mapUpdate t m k x => simp only [ho]; exact OpOk.ofUnit fun σ' hs => aMapUpdate_sound hE r hs (hρ m) (hρ k) (hρ x)
  | insert t m k x => simp only [ho]; exact OpOk.ofUnit fun σ' hs => aMapUpdate_sound hE r hs (hρ m) (hρ k) (hρ x)
  | typeAssert x xt a ok => simp only [ho]; exact OpOk.ofRun r fun v hv => aTypeAssert_sound hE hv (hρ x) w
  | extract t i =>
    simp only [ho]
    have ht := hρ t
    split
    · rename_i vs hv
      rw [hv] at ht
      simp only [Vrel] at ht
      obtain ⟨vs', hv', hvs⟩ := ht
      exact OpOk.ofRun r fun v hv => by
        have : vs.toList[i]? = some v := by simpa using hv
        obtain ⟨v', h1, h2⟩ := (VrelA.iff.1 hvs).get this
        have h1' : vs'[i]? = some v' := by simpa using h1
        exact ⟨v', by simp [Instr.extract, hv', h1'], h2⟩
    · exact trivial
  | call c => simp only [ho] at hf ⊢; exact aCall_sound hE r hρ hf
  | defer c =>
    simp only [ho]
    split
    · rename_i d hd
      obtain ⟨d', h1, h2⟩ := aDefer_sound (P := P) (w := w) (ty := o.type) hρ hd
      exact ⟨rfl, d', by simp [h1], h2⟩
    · exact trivial
  | panic x =>
    simp only [ho]
    have hx := hρ x
    split
    · rename_i t v hv
      rw [hv] at hx
      simp only [Vrel] at hx
      obtain ⟨v', hv', hvv⟩ := hx
      exact ⟨rfl, .iface t v', by simp [Instr.panic, hv'], by simp only [Vrel]; exact ⟨_, rfl, hvv⟩⟩
    · exact trivial
  | send ch x =>
    simp only [ho]
    refine ⟨#[{ chan := ρ' ch, send := some (ρ' x), zero := .tuple #[] }], rfl, rfl, fun k c hk => ?_⟩
    cases k with
    | zero =>
      simp only [List.getElem?_cons_zero, Option.some.injEq] at hk
      subst hk
      exact ⟨_, rfl, hρ ch, by simp [Vrel, VrelA, VrelL], hρ x⟩
    | succ k => simp at hk
  | recv t ch ok =>
    simp only [ho]
    split
    · rename_i d e hu
      split
      · rename_i z hz
        refine ⟨#[{ chan := ρ' ch, send := none, zero := z }], ?_, rfl, fun k c hk => ?_⟩
        · simp only [Sem.run_bind, run_under hE hu, Result.andThen_ok, run_zero hE hz, Sem.run_pure]
        · cases k with
          | zero =>
            simp only [List.getElem?_cons_zero, Option.some.injEq] at hk
            subst hk
            exact ⟨_, rfl, hρ ch, Vrel.closed_refl φ z (hE.zclosed _ _ hz), trivial⟩
          | succ k => simp at hk
      · exact trivial
    · exact trivial
  | select cases bl =>
    simp only [ho]
    split
    · rename_i cs hcs
      have key : ∀ (l : List SelectCase) (cs : List CommCase), l.mapM (fun (s : SelectCase) => (E.zero s.elem).map fun z => ({ chan := ρ s.chan, send := s.send.map ρ, zero := z } : CommCase)) = some cs →
          ∃ cs' : List CommCase, (l.mapM (fun (s : SelectCase) => do Pure.pure { chan := ρ' s.chan, send := s.send.map ρ', zero := ← zeroValue s.elem : CommCase }) : Sem (List CommCase)).run P w = .ok cs' w ∧ cs'.length = cs.length ∧
            ∀ (k : Nat) (c : CommCase), cs[k]? = some c → ∃ c' : CommCase, cs'[k]? = some c' ∧ CRel φ c c' := by
        intro l
        induction l with
        | nil =>
          intro cs h
          simp only [List.mapM_nil] at h
          cases h
          exact ⟨[], rfl, rfl, fun k c hk => by simp at hk⟩
        | cons s l ih =>
          intro cs h
          simp only [List.mapM_cons] at h
          cases hz : E.zero s.elem with
          | none => simp [hz] at h
          | some z =>
            simp only [hz, Option.map_some, Option.bind_eq_bind, Option.bind_some] at h
            cases hr : l.mapM (fun (s : SelectCase) => (E.zero s.elem).map fun z => ({ chan := ρ s.chan, send := s.send.map ρ, zero := z } : CommCase)) with
            | none => simp [hr] at h
            | some cs1 =>
              simp only [hr, Option.bind_some] at h
              cases h
              obtain ⟨cs', q1, q2, q3⟩ := ih cs1 hr
              refine ⟨{ chan := ρ' s.chan, send := s.send.map ρ', zero := z } :: cs', ?_, by simp [q2], fun k c hk => ?_⟩
              · simp only [List.mapM_cons, Sem.run_bind, run_zero hE hz, Result.andThen_ok, Sem.run_pure, q1]
              · cases k with
                | zero =>
                  simp only [List.getElem?_cons_zero, Option.some.injEq] at hk
                  subst hk
                  refine ⟨_, rfl, hρ _, Vrel.closed_refl φ z (hE.zclosed _ _ hz), ?_⟩
                  cases s.send with
                  | none => exact trivial
                  | some x => exact hρ x
                | succ k => simpa using q3 k c (by simpa using hk)
      obtain ⟨cs', q1, q2, q3⟩ := key cases.toList cs hcs
      refine ⟨cs'.toArray, ?_, by simpa using q2, fun k c hk => by simpa using q3 k c hk⟩
      have hm : (cases.mapM (fun (s : SelectCase) => do Pure.pure { chan := ρ' s.chan, send := s.send.map ρ', zero := ← zeroValue s.elem : CommCase }) : Sem (Array CommCase)).run P w = .ok cs'.toArray w := by
        rw [Array.mapM_eq_mapM_toList, Sem.run_map, q1]
        rfl
      simp only [Sem.run_bind, hm, Result.andThen_ok, Sem.run_pure]
    · exact trivial
  | range t x => simp only [ho] at hf ⊢; exact aRange_sound hE r (hρ x) hf
  | next x s =>
    simp only [ho]
    cases s with
    | true => exact trivial
    | false => exact aNext_sound r (hρ x) o.type
  | entry x => simp only [ho]; exact aEntry_sound r (hρ x)
  | _ => simp only [ho]; exact trivial

/-- What aop comes to: what aop0 does; or what is known at symbols. -/
theorem aop_cases [Syms] (P : Program) (E : Env) (ρ : Operand → Value) (o : Oper) (σ : St) :
    aop P E ρ o σ = aop0 P E ρ o σ ∨ (aop0 P E ρ o σ = .fail ∧ symOp o.op = true ∧ ∃ v, E.sym o.op (o.op.operands.toList.map ρ) = some v ∧ aop P E ρ o σ = .val v σ) := by
  unfold aop orSym
  cases h : aop0 P E ρ o σ with
  | fail =>
    cases hs : symOp o.op with
    | false => exact .inl rfl
    | true =>
      cases hv : E.sym o.op (o.op.operands.toList.map ρ) with
      | none => exact .inl rfl
      | some v => exact .inr ⟨rfl, rfl, v, rfl, rfl⟩
  | _ => exact .inl rfl

theorem aop_sound [Syms] (hE : EnvOk P E) {φ : Phi} {σ : St} {w : World} (r : Rel φ σ w.heap) {ρ ρ' : Operand → Value} (hρ : ∀ x, Vrel φ (ρ x) (ρ' x)) (o : Oper)
    (hf : ∀ v σ', aop P E ρ o σ = .val v σ' → Fresh φ σ.next σ'.next) : OpOk φ σ w (aop P E ρ o σ) ((execOp ρ' o).run P w) := by
  rcases aop_cases P E ρ o σ with h | ⟨_, _, v, hv, h⟩
  · rw [h] at hf ⊢; exact aop0_sound hE r hρ o hf
  · rw [h]
    obtain ⟨v', h1, h2⟩ := hE.sym _ _ _ hv φ ρ ρ' o w rfl hρ rfl
    exact .pure r h1 h2

end Go.Ab
