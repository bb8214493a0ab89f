/- Classes of operations: what an operation asks of the store; operations look at their operands alone. -/
import Derived.Test.YtglelglhogfnfaaGreatAbSound
namespace Go.Ab

variable {P : Program} {E : Env}

theorem OR.ofVal_val [Syms] {σ σ' : St} {o : Option Value} {v : Value} (h : OR.ofVal σ o = .val v σ') : σ' = σ ∧ o = some v := by
  cases o with
  | none => cases h
  | some u => cases h; exact ⟨rfl, rfl⟩

theorem cond_val [Syms] {b : Bool} {x : OR} {v : Value} {σ' : St} (h : (bif b then x else .fail) = .val v σ') : b = true ∧ x = .val v σ' := by
  cases b with
  | false => cases h
  | true => exact ⟨rfl, h⟩

/-- A pure operation asks nothing of the store, and leaves it. -/
theorem aop0_pure [Syms] {ρ : Operand → Value} {o : Oper} {σ σ' : St} {v : Value} (hc : cls o.op = .pure) (h : aop0 P E ρ o σ = .val v σ') : σ' = σ ∧ ∀ σ2, aop0 P E ρ o σ2 = .val v σ2 := by
  unfold aop0 at h ⊢
  cases ho : o.op <;> rw [ho] at hc <;> simp only [ho] at h ⊢ <;> try (simp [cls] at hc; done)
  case move => cases h; exact ⟨rfl, fun _ => rfl⟩
  case pick => split at h <;> cases h; exact ⟨rfl, fun _ => rfl⟩
  case build => obtain ⟨h1, h2⟩ := OR.ofVal_val h; exact ⟨h1, fun _ => by rw [h2]; rfl⟩
  case unOp => obtain ⟨h1, h2⟩ := OR.ofVal_val h; exact ⟨h1, fun _ => by rw [h2]; rfl⟩
  case fieldAddr => obtain ⟨h1, h2⟩ := OR.ofVal_val h; exact ⟨h1, fun _ => by rw [h2]; rfl⟩
  case field => obtain ⟨h1, h2⟩ := OR.ofVal_val h; exact ⟨h1, fun _ => by rw [h2]; rfl⟩
  case indexAddr => obtain ⟨h1, h2⟩ := OR.ofVal_val h; exact ⟨h1, fun _ => by rw [h2]; rfl⟩
  case index => obtain ⟨h1, h2⟩ := OR.ofVal_val h; exact ⟨h1, fun _ => by rw [h2]; rfl⟩
  case typeAssert => obtain ⟨h1, h2⟩ := OR.ofVal_val h; exact ⟨h1, fun _ => by rw [h2]; rfl⟩
  case makeInterface =>
    split at h
    · cases h
    · cases h; exact ⟨rfl, fun _ => rfl⟩
    · cases h
  case makeFunc => cases h; exact ⟨rfl, fun _ => rfl⟩
  case extract =>
    split at h
    · obtain ⟨h1, h2⟩ := OR.ofVal_val h; exact ⟨h1, fun _ => by rw [h2]; rfl⟩
    · cases h
  case nilCheck =>
    split at h
    · cases h; exact ⟨rfl, fun _ => rfl⟩
    · cases h
    · cases h
    · cases h
    · cases h
    · split at h
      · rename_i t y rest hfl
        cases hn : aNotNil E t y _ with
        | false => rw [hn] at h; cases h
        | true => rw [hn] at h; cases h; exact ⟨rfl, fun _ => rfl⟩
      · cases h
    · cases h; exact ⟨rfl, fun _ => rfl⟩
  case call c =>
    exfalso
    unfold cls at hc
    split at hc <;> simp_all

theorem aop_of_aop0 [Syms] {ρ : Operand → Value} {o : Oper} {σ σ' : St} {v : Value} (h : aop0 P E ρ o σ = .val v σ') : aop P E ρ o σ = .val v σ' := by
  unfold aop orSym; rw [h]

theorem aop0_pure_fail [Syms] {ρ : Operand → Value} {o : Oper} {σ : St} (hc : cls o.op = .pure) (hs : symOp o.op = true) (h : aop0 P E ρ o σ = .fail) (σ2 : St) : aop0 P E ρ o σ2 = .fail := by
  unfold aop0 at h ⊢
  cases ho : o.op <;> rw [ho] at hc hs <;> simp only [ho] at h ⊢ <;> try (simp [cls] at hc; done)
  all_goals try (simp [symOp] at hs; done)
  case unOp op t x => cases hu : aUn op (ρ x) <;> rw [hu] at h <;> simp_all [OR.ofVal]
  case index t x i => cases hu : aIndex E t (ρ x) (ρ i) <;> rw [hu] at h <;> simp_all [OR.ofVal]
  case call c =>
    exfalso
    unfold cls at hc
    split at hc <;> simp_all

theorem aop_pure [Syms] {ρ : Operand → Value} {o : Oper} {σ σ' : St} {v : Value} (hc : cls o.op = .pure) (h : aop P E ρ o σ = .val v σ') : σ' = σ ∧ ∀ σ2, aop P E ρ o σ2 = .val v σ2 := by
  rcases aop_cases P E ρ o σ with h' | ⟨hf, hs, u, hu, h'⟩
  · rw [h'] at h
    obtain ⟨h1, h2⟩ := aop0_pure hc h
    exact ⟨h1, fun σ2 => aop_of_aop0 (h2 σ2)⟩
  · rw [h'] at h
    cases h
    refine ⟨rfl, fun σ2 => ?_⟩
    unfold aop orSym
    rw [aop0_pure_fail hc hs hf σ2, hs, hu]
    rfl

/-- An operation that makes a block asks nothing of the store but the next number. -/
theorem aop0_fresh [Syms] {ρ : Operand → Value} {o : Oper} {σ σ' : St} {v : Value} (hc : cls o.op = .fresh) (h : aop0 P E ρ o σ = .val v σ') :
    ∃ b, σ' = σ.new b ∧ ∀ σ2 : St, σ2.next = σ.next → aop0 P E ρ o σ2 = .val v (σ2.new b) := by
  unfold aop0 at h ⊢
  cases ho : o.op <;> rw [ho] at hc <;> simp only [ho] at h ⊢ <;> try (simp [cls] at hc; done)
  case alloc =>
    split at h
    · rename_i z hz
      cases hb : cellsAll z.cells.toList with
      | false => rw [hb] at h; cases h
      | true => rw [hb] at h; cases h; exact ⟨_, rfl, fun σ2 h2 => by simp only [cond_true, newCells, h2]⟩
    · cases h
  case box e x =>
    cases hb : cellsAll (ρ x).cells.toList with
    | false => rw [hb] at h; cases h
    | true => rw [hb] at h; cases h; exact ⟨_, rfl, fun σ2 h2 => by simp only [cond_true, newCells, h2]⟩
  case buildSlice t len parts =>
    unfold aBuildSlice at h ⊢
    split at h
    · split at h
      · rename_i size z hs hz
        cases hb : (Nat.ble (len * size) 16777216 && Nat.beq z.cells.size size && Nat.ble len 16777216 && (parts.toList.map fun (i, x) => (i, ρ x)).all (fun p => known p.2)) with
        | false => rw [hb] at h; cases h
        | true =>
          rw [hb] at h
          simp only [cond_true] at h ⊢
          split at h
          · rename_i cells hf
            cases hb2 : cellsAll cells with
            | false => rw [hb2] at h; cases h
            | true => rw [hb2] at h; cases h; exact ⟨_, rfl, fun σ2 h2 => by simp only [cond_true, h2]⟩
          · cases h
      · cases h
    · cases h
  case makeSlice t l c =>
    unfold aMakeSlice at h ⊢
    split at h
    · split at h
      · obtain ⟨hb, h⟩ := cond_val h
        cases h
        exact ⟨_, rfl, fun σ2 h2 => by simp only [hb, cond_true, h2]⟩
      · cases h
    · cases h
  case makeMap t r =>
    split at h
    · cases h; exact ⟨_, rfl, fun σ2 h2 => by simp only [h2]⟩
    · split at h
      · cases h; exact ⟨_, rfl, fun σ2 h2 => by simp only [h2]⟩
      · cases h
  case makeChan t s =>
    split at h
    · split at h
      · obtain ⟨hb, h⟩ := cond_val h
        cases h
        exact ⟨_, rfl, fun σ2 h2 => by simp only [hb, cond_true, h2]⟩
      · cases h
    · cases h
  case call c =>
    exfalso
    unfold cls at hc
    split at hc <;> simp_all

theorem aop_fresh [Syms] {ρ : Operand → Value} {o : Oper} {σ σ' : St} {v : Value} (hc : cls o.op = .fresh) (h : aop P E ρ o σ = .val v σ') :
    ∃ b, σ' = σ.new b ∧ ∀ σ2 : St, σ2.next = σ.next → aop P E ρ o σ2 = .val v (σ2.new b) := by
  rcases aop_cases P E ρ o σ with h' | ⟨hf, hs, u, hu, h'⟩
  · rw [h'] at h
    obtain ⟨b, h1, h2⟩ := aop0_fresh hc h
    exact ⟨b, h1, fun σ2 e => aop_of_aop0 (h2 σ2 e)⟩
  · exfalso
    revert hc hs
    cases o.op <;> simp [cls, symOp]
    rename_i c
    split <;> simp_all

/-- A reading operation that makes no block leaves the store. -/
theorem aop_read [Syms] {ρ : Operand → Value} {o : Oper} {σ σ' : St} {v : Value} (hc : cls o.op = .read) (h : aop P E ρ o σ = .val v σ') (hn : σ'.next = σ.next) : σ' = σ := by
  rcases aop_cases P E ρ o σ with h' | ⟨_, _, u, _, h'⟩
  case inr => rw [h'] at h; cases h; rfl
  rw [h'] at h
  unfold aop0 at h
  cases ho : o.op <;> rw [ho] at hc <;> simp only [ho] at h <;> try (simp [cls] at hc; done)
  case load =>
    split at h
    · exact (OR.ofVal_val h).1
    · cases h
  case binOp => exact (OR.ofVal_val h).1
  case slice => exact (OR.ofVal_val h).1
  case lookup => exact (OR.ofVal_val h).1
  case convert =>
    unfold aConv at h
    split at h
    · cases h; rfl
    · cases h; rfl
    · split at h
      · obtain ⟨_, h⟩ := cond_val h
        cases h
        simp [St.new] at hn
      · cases h
    · split at h
      · split at h
        · cases h; rfl
        · split at h
          · split at h
            · cases h; rfl
            · exact (OR.ofVal_val h).1
          · cases h
      · cases h
    · split at h
      · split at h
        · obtain ⟨_, h⟩ := cond_val h
          cases h
          simp [St.new] at hn
        · cases h
      · cases h
    · split at h
      · obtain ⟨_, h⟩ := cond_val h
        cases h
        rfl
      · cases h
    · cases h
  case call c =>
    unfold cls at hc
    split at hc <;> try (simp at hc; done)
    all_goals
      rename_i heq
      cases heq <;> (unfold aCall aBuiltin at h; simp only at h; split at h) <;> first
        | exact (OR.ofVal_val h).1
        | exact (OR.ofVal_val (cond_val h).2).1
        | (rename_i heq1 heq2; cases heq1; done)
        | cases h

/-- Does an operation come to a value (or to nothing that is known)? -/
def OR.quiet [Syms] : OR → Prop
  | .enter .. | .round .. | .defer .. | .recover .. | .comm .. => False
  | _ => True

theorem OR.quiet_ofVal [Syms] {σ : St} {o : Option Value} : (OR.ofVal σ o).quiet := by cases o <;> exact trivial
theorem OR.quiet_cond [Syms] {b : Bool} {x : OR} (h : x.quiet) : (bif b then x else .fail).quiet := by cases b <;> first | exact trivial | exact h

theorem aop0_quiet [Syms] {ρ : Operand → Value} {o : Oper} {σ : St} (hc : cls o.op ≠ .eff) : (aop0 P E ρ o σ).quiet := by
  unfold aop0
  cases ho : o.op <;> rw [ho] at hc <;> simp only [ho] <;> try (simp [cls] at hc; done)
  case call c =>
    unfold cls at hc
    split at hc <;> try (simp at hc; done)
    all_goals
      rename_i heq
      cases heq <;> (unfold aCall aBuiltin; simp only; split) <;> first
        | exact OR.quiet_ofVal
        | exact OR.quiet_cond OR.quiet_ofVal
        | (rename_i heq1 heq2; cases heq1; done)
        | exact trivial
  all_goals
    (try unfold aConv)
    (try unfold aBuildSlice)
    (try unfold aMakeSlice)
    repeat' first
      | exact OR.quiet_ofVal
      | exact OR.quiet_cond OR.quiet_ofVal
      | exact OR.quiet_cond trivial
      | exact trivial
      | refine OR.quiet_cond ?_
      | split

theorem aop_quiet [Syms] {ρ : Operand → Value} {o : Oper} {σ : St} (hc : cls o.op ≠ .eff) : (aop P E ρ o σ).quiet := by
  rcases aop_cases P E ρ o σ with h | ⟨_, _, v, _, h⟩
  · rw [h]; exact aop0_quiet hc
  · rw [h]; exact trivial

theorem stepOp_quiet [Syms] {n : Nat} {ρ : Operand → Value} {o : Oper} {ds ds' : List Deferred} {par par' : Option FrameMode} {σ σ' : St} {v : Value} (hc : cls o.op ≠ .eff) (h : stepOp P E (n + 1) ρ o ds par σ = .val v ds' par' σ') :
    ∃ σ1, aop P E ρ o σ = .val v σ1 ∧ σ' = σ1.clean ∧ ds' = ds ∧ par' = par := by
  have hq := aop_quiet (P := P) (E := E) (ρ := ρ) (σ := σ) hc
  unfold stepOp at h
  cases hr : aop P E ρ o σ with
  | val u σ1 => rw [hr] at h; cases h; exact ⟨_, rfl, rfl, rfl, rfl⟩
  | enter => rw [hr] at hq; exact hq.elim
  | round => rw [hr] at hq; exact hq.elim
  | defer => rw [hr] at hq; exact hq.elim
  | recover => rw [hr] at hq; exact hq.elim
  | comm => rw [hr] at hq; exact hq.elim
  | panic => rw [hr] at h; cases h
  | fail => rw [hr] at h; cases h

theorem stepOp_of_aop [Syms] {n : Nat} {ρ : Operand → Value} {o : Oper} {ds : List Deferred} {par : Option FrameMode} {σ σ' : St} {v : Value} (h : aop P E ρ o σ = .val v σ') : stepOp P E (n + 1) ρ o ds par σ = .val v ds par σ'.clean := by
  unfold stepOp
  rw [h]

/-! ## Operands -/

theorem aop0_congr [Syms] {ρ ρ' : Operand → Value} {o : Oper} {σ : St} (h : ∀ x ∈ o.op.operands, ρ x = ρ' x) : aop0 P E ρ o σ = aop0 P E ρ' o σ := by
  obtain ⟨dst, op, type, pos, after, guard⟩ := o
  have pairs : ∀ ps : Array (Nat × Operand), (∀ x ∈ ps.map (·.2), ρ x = ρ' x) →
      (ps.toList.map fun (i, x) => (i, ρ x)) = (ps.toList.map fun (i, x) => (i, ρ' x)) := fun ps hp =>
    List.map_congr_left fun p hm => by
      obtain ⟨i, x⟩ := p
      simp only [hp x (Array.mem_map.2 ⟨(i, x), Array.mem_toList_iff.1 hm, rfl⟩)]
  have args : ∀ (c : Call), (∀ x ∈ c.operands, ρ x = ρ' x) → c.args.map ρ = c.args.map ρ' ∧ c.args.toList.map ρ = c.args.toList.map ρ' := fun c hp =>
    ⟨Array.map_congr_left fun x hx => hp x (by simp [Call.operands, hx]), List.map_congr_left fun x hx => hp x (by simp [Call.operands, Array.mem_toList_iff.1 hx])⟩
  cases op <;> simp only [Op.operands] at h <;> simp only [aop0]
  case build t ps => rw [pairs ps fun x hx => h x (by simpa using hx)]
  case buildSlice t n ps => rw [pairs ps fun x hx => h x (by simpa using hx)]
  case makeFunc fn first captured =>
    rw [Array.map_congr_left (xs := first) fun x hx => h x (by simp [hx]), Array.map_congr_left (xs := captured) fun x hx => h x (by simp [hx])]
  case call c =>
    unfold aCall
    rw [(args c h).2]
    cases hc : c.callee with
    | value f => have hf : ρ f = ρ' f := h f (by simp [Call.operands, hc]); simp only [hf]
    | invoke r m => have hr : ρ r = ρ' r := h r (by simp [Call.operands, hc]); simp only [hr]
    | builtin b => rfl
  case defer c =>
    unfold aDefer
    rw [(args c h).1]
    cases hc : c.callee with
    | value f => have hf : ρ f = ρ' f := h f (by simp [Call.operands, hc]); simp only [hf]
    | invoke r m => rfl
    | builtin b => rfl
  case makeMap t r => cases r <;> simp_all
  case slice t x lo hi mx => cases lo <;> cases hi <;> cases mx <;> simp_all
  case select cs b =>
    have hcs : ∀ c ∈ cs, ρ c.chan = ρ' c.chan ∧ c.send.map ρ = c.send.map ρ' := fun c hc => by
      refine ⟨h _ (Array.mem_flatMap.2 ⟨c, hc, by simp⟩), ?_⟩
      cases hs : c.send with
      | none => rfl
      | some x => simp only [Option.map_some]; rw [h x (Array.mem_flatMap.2 ⟨c, hc, by simp [hs]⟩)]
    have : (cs.toList.mapM fun s => (E.zero s.elem).map fun z => ({ chan := ρ s.chan, send := s.send.map ρ, zero := z } : CommCase)) =
        (cs.toList.mapM fun s => (E.zero s.elem).map fun z => ({ chan := ρ' s.chan, send := s.send.map ρ', zero := z } : CommCase)) := by
      have hl : ∀ c ∈ cs.toList, ρ c.chan = ρ' c.chan ∧ c.send.map ρ = c.send.map ρ' := fun c hc => hcs c (Array.mem_toList_iff.1 hc)
      generalize cs.toList = l at hl
      induction l with
      | nil => rfl
      | cons c l ih =>
        have h0 := hl c (by simp)
        simp only [List.mapM_cons, h0.1, h0.2, ih fun d hd => hl d (by simp [hd])]
    rw [this]
  all_goals (first | rfl | (simp_all; done))

theorem aop_congr [Syms] {ρ ρ' : Operand → Value} {o : Oper} {σ : St} (h : ∀ x ∈ o.op.operands, ρ x = ρ' x) : aop P E ρ o σ = aop P E ρ' o σ := by
  have hm : o.op.operands.toList.map ρ = o.op.operands.toList.map ρ' := List.map_congr_left fun x hx => h x (Array.mem_toList_iff.1 hx)
  unfold aop orSym
  rw [aop0_congr h, hm]

theorem stepOp_congr [Syms] {n : Nat} {ρ ρ' : Operand → Value} {o : Oper} {ds : List Deferred} {par : Option FrameMode} {σ : St} (h : ∀ x ∈ o.op.operands, ρ x = ρ' x) : stepOp P E n ρ o ds par σ = stepOp P E n ρ' o ds par σ := by
  cases n with
  | zero => unfold stepOp; rfl
  | succ n => unfold stepOp; rw [aop_congr h]

/-! ## Equal values -/

theorem bytesEq_sound [Syms] : ∀ {a b : List UInt8}, bytesEq a b = true → a = b
  | [], [], _ => rfl
  | [], _ :: _, h => by simp [bytesEq] at h
  | _ :: _, [], h => by simp [bytesEq] at h
  | a :: x, b :: y, h => by
    simp only [bytesEq, Bool.and_eq_true] at h
    have h1 : a.toNat = b.toNat := Nat.eq_of_beq_eq_true h.1
    rw [UInt8.toNat_inj.1 h1, bytesEq_sound h.2]

mutual
theorem vbeq_sound [Syms] : ∀ (a b : Value), vbeq a b = true → a = b
  | .bool a, b, h => by cases b <;> simp_all [vbeq]
  | .int k a, b, h => by cases b <;> simp_all [vbeq]
  | .string a, b, h => by
    cases b <;> try (simp [vbeq] at h; done)
    rename_i b
    simp only [vbeq] at h
    have := bytesEq_sound h
    obtain ⟨⟨a⟩⟩ := a
    obtain ⟨⟨b⟩⟩ := b
    simp_all
  | .pointer a, b, h => by cases b <;> simp_all [vbeq]
  | .slice a l c, b, h => by
    cases b <;> try (simp [vbeq] at h; done)
    simp only [vbeq, Bool.and_eq_true, decide_eq_true_eq] at h
    obtain ⟨⟨h1, h2⟩, h3⟩ := h
    rw [h1, Nat.eq_of_beq_eq_true h2, Nat.eq_of_beq_eq_true h3]
  | .map a, b, h => by cases b <;> simp_all [vbeq]
  | .chan a, b, h => by cases b <;> simp_all [vbeq]
  | .nilFunc, b, h => by cases b <;> simp_all [vbeq]
  | .nilIface, b, h => by cases b <;> simp_all [vbeq]
  | .func f a c, b, h => by
    cases b <;> try (simp [vbeq] at h; done)
    simp only [vbeq, Bool.and_eq_true, decide_eq_true_eq] at h
    obtain ⟨⟨h1, h2⟩, h3⟩ := h
    rw [h1, vbeqA_sound a _ h2, vbeqA_sound c _ h3]
  | .iface t v, b, h => by
    cases b <;> try (simp [vbeq] at h; done)
    simp only [vbeq, Bool.and_eq_true] at h
    rw [Nat.eq_of_beq_eq_true h.1, vbeq_sound v _ h.2]
  | .agg a, b, h => by
    cases b <;> try (simp [vbeq] at h; done)
    simp only [vbeq] at h
    rw [vbeqA_sound a _ h]
  | .tuple a, b, h => by
    cases b <;> try (simp [vbeq] at h; done)
    simp only [vbeq] at h
    rw [vbeqA_sound a _ h]
  | .float .., b, h => by cases b <;> simp [vbeq] at h
  | .complex .., b, h => by
    cases b <;> try (simp [vbeq] at h; done)
    simp only [vbeq, Bool.and_eq_true, decide_eq_true_eq] at h
    obtain ⟨⟨h1, h2⟩, h3⟩ := h
    rw [h1, Nat.eq_of_beq_eq_true h2, Nat.eq_of_beq_eq_true h3]
theorem vbeqA_sound [Syms] : ∀ (a b : Array Value), vbeqA a b = true → a = b
  | ⟨l⟩, ⟨m⟩, h => by simp only [vbeqA] at h; rw [vbeqL_sound l m h]
theorem vbeqL_sound [Syms] : ∀ (a b : List Value), vbeqL a b = true → a = b
  | [], [], _ => rfl
  | [], _ :: _, h => by simp [vbeqL] at h
  | _ :: _, [], h => by simp [vbeqL] at h
  | a :: x, b :: y, h => by
    simp only [vbeqL, Bool.and_eq_true] at h
    rw [vbeq_sound a b h.1, vbeqL_sound x y h.2]
end

theorem sameVal_sound [Syms] {r : OR} {v : Value} {m : Nat} (h : sameVal r v m = true) : ∃ σ, r = .val v σ ∧ σ.next = m := by
  unfold sameVal at h
  split at h
  · simp only [Bool.and_eq_true] at h
    exact ⟨_, by rw [vbeq_sound _ _ h.1], Nat.eq_of_beq_eq_true h.2⟩
  · cases h

end Go.Ab
