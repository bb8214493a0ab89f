/- THE SOUNDNESS: a run of the abstract machine stands for the machine's run, whatever the tape. -/
import Derived.Test.YtglelglhogfnfaaGreatAbNext
import Derived.Test.YtglelglhogfnfaaGreatAbComm
import Derived.RangeFuncRecord
import Derived.RangeFuncIn
namespace Go.Ab

variable {P : Program} {E : Env}

/-- One operation. -/
def SS [Syms] (P : Program) (E : Env) (n : Nat) : Prop :=
  ∀ (ρ : Operand → Value) (o : Oper) (ds : List Deferred) (par : Option FrameMode) (σ : St),
  (∀ v ds' par' σ', stepOp P E n ρ o ds par σ = .val v ds' par' σ' →
    ∀ (φ : Phi) (w : World) (a : Act) (ops : Array Oper) (i : Nat) (rest : List Nat) (k : List Item) (b : Frame) (cs0 cs : List Frame),
    ops[i]? = some o → Region.wanted o (yielded ops a.tmps) = true → Rel φ σ w.heap → (∀ x, Vrel φ (ρ x) (a.eval x)) → DsRel φ ds a.defers → CsRel φ b.kr par cs0 cs → Fresh φ σ.next σ'.next →
    ∃ φ' w' ds'' cs' v', Steps P (lone (b.atR a (.inRegion ops (i :: rest) :: k)) cs w) (lone (b.atR (({ a with defers := ds'' } : Act).put o.dst v') (.inRegion ops rest :: k)) cs' w') ∧
      Rel φ' σ' w'.heap ∧ Trans φ σ w φ' σ' w' ∧ Vrel φ' v v' ∧ DsRel φ' ds' ds'' ∧ CsRel φ' b.kr par' cs0 cs') ∧
  (∀ ch σ', stepOp P E n ρ o ds par σ = .panic ch σ' →
    ∀ (φ : Phi) (w : World) (a : Act) (ops : Array Oper) (i : Nat) (rest : List Nat) (k : List Item) (b : Frame) (cs : List Frame),
    ops[i]? = some o → Region.wanted o (yielded ops a.tmps) = true → Rel φ σ w.heap → (∀ x, Vrel φ (ρ x) (a.eval x)) → Fresh φ σ.next σ'.next →
    ∃ φ' w' ch', Steps P (lone (b.atR a (.inRegion ops (i :: rest) :: k)) cs w) (lone { b.atR a (.inRegion ops (i :: rest) :: k) with mode := .panicking ch' } cs w') ∧
      Rel φ' σ' w'.heap ∧ Trans φ σ w φ' σ' w' ∧ ChRel φ' ch ch')

def ExRel [Syms] (φ : Phi) : AEx → Exit → Prop
  | .normal, e => e = .normal
  | .exit i, e => e = .exit i
  | .ret, e => e = .ret
  | .panic ch, e => ∃ ch', e = .panic ch' ∧ ChRel φ ch ch'

/-- Where a piece of code ends, in a call's frame or in a round's. -/
def ArrivesR (P : Program) (m : Machine) (b : Frame) (k : List Item) (cs : List Frame) : Exit → Act → World → Prop
  | .normal, a, w => Steps P m (lone (b.atR a k) cs w)
  | .exit id, a, w => (∀ k', exitTo id k = some k' → Steps P m (lone (b.atR a k') cs w)) ∧ (exitTo id k = none → ∃ k₁, exitTo id k₁ = none ∧ Steps P m (lone (b.atR a (.code (.exit id) :: k₁)) cs w))
  | .ret, a, w => ∃ k₁, Steps P m (lone (b.atR a (.code .ret :: k₁)) cs w)
  | .panic chain, a, w => ∃ todo, Steps P m (lone { b.atR a todo with mode := .panicking chain } cs w)
  | .goto _, _, _ => False
  | .outgrown, _, _ => False

theorem ArrivesR.of_steps [Syms] {m m₁ : Machine} {b : Frame} {k : List Item} {cs : List Frame} {e : Exit} {a : Act} {w : World} (h : Steps P m m₁) (h' : ArrivesR P m₁ b k cs e a w) : ArrivesR P m b k cs e a w := by
  cases e with
  | normal => exact h.trans h'
  | exit id => exact ⟨fun k' hk => h.trans (h'.1 k' hk), fun hn => let ⟨k₁, h1, h2⟩ := h'.2 hn; ⟨k₁, h1, h.trans h2⟩⟩
  | ret => obtain ⟨k₁, hs⟩ := h'; exact ⟨k₁, h.trans hs⟩
  | panic chain => obtain ⟨todo, hs⟩ := h'; exact ⟨todo, h.trans hs⟩
  | goto l => exact h'.elim
  | outgrown => exact h'.elim

theorem ArrivesR.pass [Syms] {m : Machine} {b : Frame} {x : Item} {k : List Item} {cs : List Frame} {e : Exit} {a : Act} {w : World} (hx : x.plain = true) (he : e ≠ .normal) (h : ArrivesR P m b (x :: k) cs e a w) : ArrivesR P m b k cs e a w := by
  cases e with
  | normal => exact absurd rfl he
  | exit id =>
    have hxk : exitTo id (x :: k) = exitTo id k := by cases x <;> simp_all [exitTo, Item.plain]
    exact ⟨fun k' hk => h.1 k' (hxk ▸ hk), fun hn => h.2 (hxk ▸ hn)⟩
  | ret => exact h
  | panic chain => exact h
  | goto l => exact h.elim
  | outgrown => exact h.elim

/-- Where a piece of code that ran to an end has come. -/
def Ends [Syms] (P : Program) (φ : Phi) (σ : St) (w : World) (kind : KR) (cs0 : List Frame) (m : Machine) (b : Frame) (k : List Item) (e : AEx) (fr' : Fr) (σ' : St) : Prop :=
  ∃ φ' w' a' cs' e', ExRel φ' e e' ∧ Rel φ' σ' w'.heap ∧ Trans φ σ w φ' σ' w' ∧ FrRel φ' fr' a' ∧ CsRel φ' kind fr'.par cs0 cs' ∧ ArrivesR P m b k cs' e' a' w'

/-- A piece of code. -/
def SE [Syms] (P : Program) (E : Env) (n : Nat) : Prop :=
  ∀ (c : Code) (fr : Fr) (σ : St) (e : AEx) (fr' : Fr) (σ' : St), exec P E n c fr σ = .done e fr' σ' → codeOk c = true →
    ∀ (φ : Phi) (w : World) (a : Act) (b : Frame) (k : List Item) (cs0 cs : List Frame), Rel φ σ w.heap → FrRel φ fr a → CsRel φ b.kr fr.par cs0 cs → Fresh φ σ.next σ'.next →
      Ends P φ σ w b.kr cs0 (lone (b.atR a (.code c :: k)) cs w) b k e fr' σ' ∧ (∀ c', c = .loop c' → Ends P φ σ w b.kr cs0 (lone (b.atR a (.code c' :: .inLoop c' :: k)) cs w) b k e fr' σ')

/-- The operations of a region whose order is fixed. -/
def SO [Syms] (P : Program) (E : Env) (n : Nat) : Prop :=
  ∀ (ops : Array Oper) (l : List Oper) (fr : Fr) (σ : St) (e : AEx) (fr' : Fr) (σ' : St), execOps P E n ops l fr σ = .done e fr' σ' →
    ∀ (is : List Nat), is.map (ops[·]?) = l.map some →
    ∀ (φ : Phi) (w : World) (a : Act) (b : Frame) (k : List Item) (cs0 cs : List Frame), Rel φ σ w.heap → FrRel φ fr a → CsRel φ b.kr fr.par cs0 cs → Fresh φ σ.next σ'.next →
      Ends P φ σ w b.kr cs0 (lone (b.atR a (.inRegion ops is :: k)) cs w) b k e fr' σ'

/-- How a call has ended. -/
def CEnds [Syms] (P : Program) (φ : Phi) (σ : St) (w : World) (kind : CallKind) (cs0 : List Frame) (f : FuncId) (m : Machine) : CRes → Prop
  | .ret v par' σ' => ∃ φ' w' fr cs' v' fn, Steps P m (lone fr cs' w') ∧ Rel φ' σ' w'.heap ∧ Trans φ σ w φ' σ' w' ∧ CsRel φ' (kind, none) par' cs0 cs' ∧ fr.kind = kind ∧ fr.fn = f ∧
      fr.mode = .returning ∧ fr.defers = [] ∧ P.funcs[fr.fn]? = some fn ∧ (results fn fr.tmps).run P w' = .ok v' w' ∧ Vrel φ' v v'
  | .panicked ch par' σ' => ∃ φ' w' fr cs' ch' fn, Steps P m (lone fr cs' w') ∧ Rel φ' σ' w'.heap ∧ Trans φ σ w φ' σ' w' ∧ CsRel φ' (kind, none) par' cs0 cs' ∧ fr.kind = kind ∧ fr.fn = f ∧
      fr.mode = .panicking ch' ∧ fr.defers = [] ∧ P.funcs[fr.fn]? = some fn ∧ ChRel φ' ch ch'
  | .fail _ => True

def CRes.next [Syms] : CRes → Nat → Nat
  | .ret _ _ σ, _ => σ.next
  | .panicked _ _ σ, _ => σ.next
  | .fail _, n => n

/-- A call. -/
def SC [Syms] (P : Program) (E : Env) (n : Nat) : Prop :=
  ∀ (f : Nat) (args : List Value) (par : Option FrameMode) (σ : St) (φ : Phi) (w : World) (args' : Array Value) (kind : CallKind) (cs0 cs : List Frame),
    Rel φ σ w.heap → VrelL φ args args'.toList → CsRel φ (kind, none) par cs0 cs → Fresh φ σ.next ((callF P E n f args par σ).next σ.next) →
      CEnds P φ σ w kind cs0 f (lone (Frame.enter P f args' kind) cs w) (callF P E n f args par σ)

/-- The deferred calls. -/
def SL [Syms] (P : Program) (E : Env) (n : Nat) : Prop :=
  ∀ (fn : Func) (fr : Fr) (u : FrameMode) (σ : St) (φ : Phi) (w : World) (a : Act) (frm : Frame) (cs0 cs : List Frame),
    Rel φ σ w.heap → FrRel φ fr a → CsRel φ (frm.kind, none) fr.par cs0 cs → P.funcs[frm.fn]? = some fn → E.func frm.fn = some fn → frm.tmps = a.tmps → frm.defers = a.defers → frm.roundOf = none → MRel φ u frm.mode →
      Fresh φ σ.next ((leave P E n fn fr u σ).next σ.next) → CEnds P φ σ w frm.kind cs0 frm.fn (lone frm cs w) (leave P E n fn fr u σ)

/-! ## One operation -/

theorem stepOp_next [Syms] {n : Nat} {ρ : Operand → Value} {o : Oper} {ds ds' : List Deferred} {p p' : Option FrameMode} {σ σ' : St} {v : Value} (h : stepOp P E n ρ o ds p σ = .val v ds' p' σ') : σ.next ≤ σ'.next := by
  have := (rises_all (P := P) (E := E) n).2.2.2.1 ρ o ds p σ
  rw [h] at this; exact this
theorem execOps_next [Syms] {n : Nat} {ops : Array Oper} {l : List Oper} {fr fr' : Fr} {σ σ' : St} {e : AEx} (h : execOps P E n ops l fr σ = .done e fr' σ') : σ.next ≤ σ'.next := by
  have := (rises_all (P := P) (E := E) n).2.1 ops l fr σ
  rw [h] at this; exact this
theorem exec_next [Syms] {n : Nat} {c : Code} {fr fr' : Fr} {σ σ' : St} {e : AEx} (h : exec P E n c fr σ = .done e fr' σ') : σ.next ≤ σ'.next := by
  have := (rises_all (P := P) (E := E) n).1 c fr σ
  rw [h] at this; exact this

theorem Ends.of_steps [Syms] {φ φ1 : Phi} {σ σ1 : St} {w w1 : World} {kind : KR} {cs0 : List Frame} {m m1 : Machine} {b : Frame} {k : List Item} {e : AEx} {fr' : Fr} {σ' : St} (hs : Steps P m m1) (ht : Trans φ σ w φ1 σ1 w1) (h : Ends P φ1 σ1 w1 kind cs0 m1 b k e fr' σ') :
    Ends P φ σ w kind cs0 m b k e fr' σ' := by
  obtain ⟨φ', w', a', cs', e', h1, h2, h3, h4, h5, h6⟩ := h
  exact ⟨φ', w', a', cs', e', h1, h2, ht.trans h3, h4, h5, .of_steps hs h6⟩

theorem Fresh.after [Syms] {φ φ1 : Phi} {σ σ1 : St} {w w1 : World} {m : Nat} (hf : Fresh φ σ.next m) (ht : Trans φ σ w φ1 σ1 w1) : Fresh φ1 σ1.next m := fun i h1 h2 => by
  rw [ht.out i h1]; exact hf i (Nat.le_trans ht.next h1) h2

theorem Ends.pass [Syms] {φ : Phi} {σ : St} {w : World} {kind : KR} {cs0 : List Frame} {m : Machine} {b : Frame} {x : Item} {k : List Item} {e : AEx} {fr' : Fr} {σ' : St} (hx : x.plain = true) (he : e ≠ .normal) (h : Ends P φ σ w kind cs0 m b (x :: k) e fr' σ') :
    Ends P φ σ w kind cs0 m b k e fr' σ' := by
  obtain ⟨φ', w', a', cs', e', h1, h2, h3, h4, h5, h6⟩ := h
  refine ⟨φ', w', a', cs', e', h1, h2, h3, h4, h5, .pass hx ?_ h6⟩
  cases e with
  | normal => exact absurd rfl he
  | exit i => simp only [ExRel] at h1; subst h1; simp
  | ret => simp only [ExRel] at h1; subst h1; simp
  | panic ch => obtain ⟨ch', rfl, _⟩ := h1; simp

theorem Ends.normal [Syms] {φ : Phi} {σ : St} {w : World} {kind : KR} {cs0 : List Frame} {m : Machine} {b : Frame} {k : List Item} {fr' : Fr} {σ' : St} (h : Ends P φ σ w kind cs0 m b k .normal fr' σ') :
    ∃ φ' w' a' cs', Steps P m (lone (b.atR a' k) cs' w') ∧ Rel φ' σ' w'.heap ∧ Trans φ σ w φ' σ' w' ∧ FrRel φ' fr' a' ∧ CsRel φ' kind fr'.par cs0 cs' := by
  obtain ⟨φ', w', a', cs', e', h1, h2, h3, h4, h5, h6⟩ := h
  simp only [ExRel] at h1
  subst h1
  exact ⟨φ', w', a', cs', h6, h2, h3, h4, h5⟩

theorem aop_defer [Syms] {ρ : Operand → Value} {o : Oper} {σ : St} {c : Call} (h : o.op = .defer c) : (∃ d, aop P E ρ o σ = .defer d σ) ∨ aop P E ρ o σ = .fail := by
  unfold aop orSym aop0
  simp only [h]
  cases aDefer ρ c with
  | none => exact .inr rfl
  | some d => exact .inl ⟨d, rfl⟩

theorem semAt_of [Syms] {ρ : Operand → Value} {o : Oper} {σ : St} {r : OR} (h : aop P E ρ o σ = r) (h1 : r ≠ .fail) (h2 : ∀ d σ', r ≠ .defer d σ') (ro : Option Nat) : ∀ ρ', o.semAt ro ρ' = execOp ρ' o := fun ρ' =>
  Oper.semAt_eq ro ρ' o fun c hc => by
    rcases aop_defer (P := P) (E := E) (ρ := ρ) (σ := σ) hc with ⟨d, hd⟩ | hd
    · exact h2 d σ (h.symm.trans hd)
    · exact h1 (h.symm.trans hd)

theorem CsRel.ro [Syms] {φ : Phi} {b : Frame} {par : Option FrameMode} {cs0 cs : List Frame} (h : CsRel φ b.kr par cs0 cs) (hp : isRound par = false) : b.roundOf = none := by
  unfold Frame.kr at h
  cases hr : b.roundOf with
  | none => rfl
  | some l =>
    rw [hr] at h
    cases hk : b.kind with
    | normal => rw [hk] at h; obtain ⟨rfl, _⟩ := h; simp [isRound] at hp
    | _ => rw [hk] at h; exact h.elim

theorem putAll_get [Syms] {φ : Phi} : ∀ (ps : List Nat) (vs vs' : List Value) (t : Tr Value) (t' : Array Value), VrelL φ vs vs' → ps.length = vs.length → (∀ p ∈ ps, p < t'.size) → (∀ i, Vrel φ ((t.get i).getD undef) (t'.getD i undef)) →
    ((ps.zip vs').foldl (fun tmps (x : Nat × Value) => tmps.setIfInBounds x.1 x.2) t').size = t'.size ∧
    ∀ i, Vrel φ (((putAll ps vs t).get i).getD undef) (((ps.zip vs').foldl (fun tmps (x : Nat × Value) => tmps.setIfInBounds x.1 x.2) t').getD i undef)
  | [], vs, vs', t, t', h, hl, hp, ht => by
    have : vs = [] := List.eq_nil_of_length_eq_zero (by simpa using hl.symm)
    subst this
    exact ⟨rfl, ht⟩
  | p :: ps, [], vs', t, t', h, hl, hp, ht => by simp at hl
  | p :: ps, v :: vs, vs', t, t', h, hl, hp, ht => by
    simp only [VrelL] at h
    obtain ⟨v', vs1, rfl, hv, hvs⟩ := h
    simp only [List.zip_cons_cons, List.foldl_cons, putAll]
    have hps : p < t'.size := hp p (by simp)
    obtain ⟨h1, h2⟩ := putAll_get ps vs vs1 (t.set p (some v)) (t'.setIfInBounds p v') hvs (by simpa using hl) (fun q hq => by simpa using hp q (by simp [hq])) fun i => by
      rw [Tr.get_set]
      by_cases hi : i = p
      · subst hi
        rw [Array.getD_eq_getD_getElem?]
        simp [hps, hv]
      · rw [if_neg hi]
        have := ht i
        rw [Array.getD_eq_getD_getElem?] at this ⊢
        rw [Array.getElem?_setIfInBounds_ne (fun e => hi e.symm)]
        exact this
    exact ⟨by simpa using h1, h2⟩

theorem step_round [Syms] {b : Frame} {a : Act} {k : List Item} {cs : List Frame} {w w' : World} {ops : Array Oper} {i : Nat} {rest : List Nat} {o : Oper} (ho : ops[i]? = some o) (hw : Region.wanted o (yielded ops a.tmps) = true) (hs : ∀ ρ, o.semAt b.roundOf ρ = execOp ρ o)
    {l : Nat} {f : FuncId} {tmps : Array Value} {assign body : Code} (hr : (execOp a.eval o).run P w = .ok (.round l f tmps assign body) w') :
    step P (lone (b.atR a (.inRegion ops (i :: rest) :: k)) cs w) = .next (lone (Frame.round l f tmps assign body .normal) (b.atR a (.inRegion ops (i :: rest) :: k) :: cs) w') := by
  have hg := stepG_op' (P := P) (b := b) (k := k) (cs := cs) (w := w) (rest := rest) ho hw hs
  exact step_lone_go (by rw [hg]; simp [stepG.apply, hr, Frame.atR])

/-- A loop's record. -/
theorem Rel.loop [Syms] {φ : Phi} {σ : St} {h : Array Obj} (r : Rel φ σ h) {i i' : Nat} {L : Lp} (hi : σ.get i = some (.loop L)) (ho : ORel φ i i') :
    ∃ x L', φ i = .live x ∧ x.blk = i' ∧ x.base = 0 ∧ h[i']? = some (.loop L') ∧ BRel φ x (.loop L) (.loop L') := by
  obtain ⟨x, o, hx, hox, hb⟩ := r.blocks i _ hi
  unfold ORel at ho
  rw [hx] at ho
  obtain ⟨h1, h2⟩ := ho
  obtain ⟨L', rfl, _⟩ := id hb
  exact ⟨x, L', hx, h1, h2, h1 ▸ hox, hb⟩

/-- A loop's record is written anew. -/
theorem putLoop_sound [Syms] {φ : Phi} {σ : St} {w : World} (r : Rel φ σ w.heap) {i : Nat} {L L2 : Lp} {x : Ext} {L2' : Loop} (hi : σ.get i = some (.loop L)) (hx : φ i = .live x) (hb : BRel φ x (.loop L2) (.loop L2')) :
    Rel φ (σ.put i (.loop L2)) (w.putObj x.blk (.loop L2')).heap ∧ Trans φ σ w φ (σ.put i (.loop L2)) (w.putObj x.blk (.loop L2')) := by
  obtain ⟨y, o, hy, hoy, _⟩ := r.blocks i _ hi
  rw [hx] at hy
  cases hy
  exact putObj_sound r hi hx hoy hb

theorem sound_step [Syms] (hE : EnvOk P E) (n : Nat) (hC : SC P E n) (hX : SE P E n) : SS P E (n + 1) := by
  intro ρ o ds par σ
  refine ⟨?_, ?_⟩
  · intro v ds' par' σ' h φ w a ops i rest k b cs0 cs ho hw r hρ hds hcs hf
    have hop := fun hf' => aop_sound (σ := σ) (w := w) hE r hρ o hf'
    unfold stepOp at h
    cases hres : aop P E ρ o σ with
    | val u σ1 =>
      simp only [hres] at h
      cases h
      have hop := hop fun v' σ2 he => by rw [hres] at he; cases he; exact hf
      rw [hres] at hop
      obtain ⟨φ', w', v', hr, hv, hrel, htr⟩ := hop
      have hds' := hds.mono htr.le
      have hcs' := hcs.mono htr.le
      rcases hr with hr | ⟨hr, rfl⟩
      · exact ⟨φ', w', a.defers, cs, v', .one (op_value ho hw (semAt_of hres (by intro e; cases e) (by intro _ _ e; cases e) _) hr), hrel.clean, htr.clean, hv, hds', hcs'⟩
      · exact ⟨φ', w', a.defers, cs, undef, .one (op_skip ho hw (semAt_of hres (by intro e; cases e) (by intro _ _ e; cases e) _) hr), hrel.clean, htr.clean, hv, hds', hcs'⟩
    | enter f args σ1 =>
      simp only [hres] at h
      have hop := hop fun v' σ2 he => by rw [hres] at he; cases he
      rw [hres] at hop
      obtain ⟨_, args', hr, hargs⟩ := hop
      cases hc : callF P E n f args none σ with
      | ret u p σ2 =>
        simp only [hc] at h
        cases h
        have hcall := hC f args none σ φ w args' .normal (b.atR a (.inRegion ops (i :: rest) :: k) :: cs) (b.atR a (.inRegion ops (i :: rest) :: k) :: cs) r hargs ⟨rfl, rfl⟩ (by rw [hc]; exact hf)
        rw [hc] at hcall
        obtain ⟨φ', w', fr, cs', v', fn, s1, q1, q2, q3, q4, q5, q6, q7, q8, q9, q10⟩ := hcall
        obtain ⟨_, rfl⟩ := q3
        have hleave : fr.leaving P w' (.returned v') := ⟨q6, q7, q4, fn, q8, q9⟩
        refine ⟨φ', w', a.defers, cs, v', ?_, q1, q2, q10, hds.mono q2.le, hcs.mono q2.le⟩
        refine .head (op_enter ho hw (semAt_of hres (by intro e; cases e) (by intro _ _ e; cases e) _) hr) (s1.trans (.one ?_))
        rw [← fin_at ho]
        exact step_leave_returned hleave
      | panicked ch p σ2 => simp only [hc] at h; cases h
      | fail why => simp only [hc] at h; cases h
    | round l args =>
      simp only [hres] at h
      have hop := hop fun v' σ2 he => by rw [hres] at he; cases he
      rw [hres] at hop
      obtain ⟨l', args', hol, hargs, hr⟩ := hop
      split at h
      · rename_i L hg
        split at h
        · rename_i fr0 hfr0
          obtain ⟨x, L', hx, hxb, hx0, hh, hbr⟩ := r.loop hg hol
          obtain ⟨_, e0, _, b1, b2, b3, b4, b5, b6, b7, b8, b9⟩ := id hbr
          cases e0
          unfold roundFr at hfr0
          cases hc : (Nat.beq L.params.length args.length && L.params.all (fun p => Nat.blt p L.n)) with
          | false => rw [hc] at hfr0; cases hfr0
          | true =>
            rw [hc] at hfr0
            simp only [cond_true, Option.some.injEq] at hfr0
            simp only [Bool.and_eq_true] at hc
            have hlen := of_beqT hc.1
            have hsz : args'.size = L'.params.size := by have := hargs.length; simp at this; rw [b3]; simp; omega
            have hr := hr L' hh hsz
            have hround := step_round (P := P) (b := b) (k := k) (cs := cs) (rest := rest) ho hw (semAt_of hres (by intro e; cases e) (by intro _ _ e; cases e) _) hr
            let b' : Frame := { (default : Frame) with fn := L'.fn, kind := .normal, roundOf := some l' }
            let tm := (L'.params.zip args').foldl (fun tmps (t, a) => tmps.setIfInBounds t a) L'.tmps
            have hb0 : Frame.round l' L'.fn tm L'.assign L'.body .normal = b'.atR { tmps := tm, defers := [] } [.code L.assign, .beginRound, .code L.body] := by
              simp [Frame.round, Frame.atR, b', b4, b5]
            have htm : tm = (L.params.zip args'.toList).foldl (fun tmps (x : Nat × Value) => tmps.setIfInBounds x.1 x.2) L'.tmps := by
              simp only [tm, b3]
              rw [← Array.foldl_toList]
              simp
            have hput := putAll_get L.params args args'.toList L.tmps L'.tmps hargs hlen (fun p hp => by
              have := of_bltT (List.all_eq_true.1 hc.2 p hp); rw [b6]; exact this) b7
            have hfr : FrRel φ fr0 { tmps := tm, defers := [] } := by
              subst hfr0
              exact ⟨by rw [htm, hput.1]; exact b6, fun t => by rw [htm]; exact hput.2 t, rfl⟩
            have hpar : fr0.par = some .run := by subst hfr0; rfl
            have hdf : fr0.defers = [] := by subst hfr0; rfl
            split at h
            · rename_i fr1 σ1 h1
              split at h
              · rename_i σ2 hbg
                split at h
                · rename_i e fr2 σ3 h2
                  have n1 := exec_next h1
                  have n12 := begun_next hbg
                  have n2 := exec_next h2
                  have n3 := roundEnd_rises h
                  let cs1 := b.atR a (.inRegion ops (i :: rest) :: k) :: cs
                  have hcs1 : CsRel φ b'.kr fr0.par cs1 cs1 := by rw [hpar]; exact ⟨rfl, rfl⟩
                  obtain ⟨φ1, w1, a1, cs2, s1, q1, q2, q3, q4⟩ := ((hX L.assign fr0 σ .normal fr1 σ1 h1 b8 φ w { tmps := tm, defers := [] } b' [.beginRound, .code L.body] cs1 cs1 r hfr hcs1 (hf.sub (Nat.le_refl _) (by omega))).1).normal
                  obtain ⟨hp1, rfl⟩ := q4
                  -- the round begins
                  obtain ⟨L1, hg1, hr1, rfl⟩ : ∃ L1, σ1.get l = some (.loop L1) ∧ L1.st = .ready ∧ σ2 = σ1.put l (.loop { L1 with st := .busy }) := by
                    unfold begun at hbg
                    split at hbg
                    · rename_i L1 hg1
                      split at hbg
                      · rename_i hst; simp only [Option.some.injEq] at hbg; exact ⟨L1, hg1, hst, hbg.symm⟩
                      · cases hbg
                    · cases hbg
                  obtain ⟨x1, L1', hx1, hxb1, hx01, hh1, hbr1⟩ := q1.loop hg1 (hol.mono q2.le)
                  obtain ⟨_, e1, _, c1, c2, c3, c4, c5, c6, c7, c8, c9⟩ := id hbr1
                  cases e1
                  have hbeg := run_beginRound (P := P) hh1 (by rw [c1]; exact hr1)
                  have hput1 := putLoop_sound (L2 := { L1 with st := .busy }) (L2' := { L1' with state := .busy }) q1 hg1 hx1 ⟨_, rfl, hx01, rfl, c2, c3, c4, c5, c6, c7, c8, c9⟩
                  rw [hxb1] at hput1
                  have s2 : Steps P (lone (b.atR a (.inRegion ops (i :: rest) :: k)) cs w) (lone (b'.atR a1 [.code L.body]) cs1 (w1.putObj l' (.loop { L1' with state := .busy }))) := by
                    refine .head hround ?_
                    rw [hb0]
                    exact Steps.trans s1 (.one (stepR_beginRound rfl hbeg))
                  have ht1 := q2.trans hput1.2
                  obtain ⟨φ3, w3, a3, cs3, e', ex, p1, p2, p3, p4, arr⟩ := (hX L.body fr1 _ e fr2 σ3 h2 b9 φ1 _ a1 b' [] cs1 cs1 hput1.1 q3 ⟨hp1, rfl⟩ (by
                    have := hf.after ht1
                    exact this.sub (Nat.le_refl _) (by omega))).1
                  obtain ⟨_, rfl⟩ := p4
                  -- the round ends
                  have fin : ∀ (jump : Option Code), jumpOf e = jump → (∀ ch, e ≠ .panic ch) → (∀ (W' : World), (Instr.endRound l' jump).run P w3 = .ok (.bool jump.isNone) W' → Steps P (lone (b'.atR a1 [.code L.body]) cs1 (w1.putObj l' (.loop { L1' with state := .busy }))) (lone ((b.atR a (.inRegion ops (i :: rest) :: k)).finish (.bool jump.isNone)) cs W')) →
                      ∃ φ' w' ds'' cs' v', Steps P (lone (b.atR a (.inRegion ops (i :: rest) :: k)) cs w) (lone (b.atR (({ a with defers := ds'' } : Act).put o.dst v') (.inRegion ops rest :: k)) cs' w') ∧
                        Rel φ' σ' w'.heap ∧ Trans φ σ w φ' σ' w' ∧ Vrel φ' v v' ∧ DsRel φ' ds' ds'' ∧ CsRel φ' b.kr par' cs0 cs' := by
                    intro jump hj hnp hst
                    obtain ⟨L3, hg3, rfl, rfl, rfl, rfl⟩ : ∃ L3, σ3.get l = some (.loop L3) ∧ v = .bool jump.isNone ∧ ds' = ds ∧ par' = par ∧ σ' = σ3.put l (.loop { L3 with st := if jump.isNone then .ready else .done, pend := jump }) := by
                      unfold roundEnd at h
                      split at h
                      · rename_i ch; exact absurd rfl (hnp ch)
                      · split at h
                        · rename_i L3 hg3
                          simp only [SRes.val.injEq] at h
                          rw [hj] at h
                          exact ⟨L3, hg3, h.1.symm, h.2.1.symm, h.2.2.1.symm, h.2.2.2.symm⟩
                        · cases h
                    obtain ⟨x3, L3', hx3, hxb3, hx03, hh3, hbr3⟩ := p1.loop hg3 ((hol.mono ht1.le).mono p2.le)
                    obtain ⟨_, e3, _, d1, d2, d3, d4, d5, d6, d7, d8, d9⟩ := id hbr3
                    cases e3
                    have hend := run_endRound (P := P) jump hh3
                    have hput3 := putLoop_sound (L2 := { L3 with st := if jump.isNone then .ready else .done, pend := jump }) (L2' := { L3' with state := if jump.isNone then .ready else .done, pending := jump }) p1 hg3 hx3
                      ⟨_, rfl, hx03, rfl, rfl, d3, d4, d5, d6, d7, d8, d9⟩
                    rw [hxb3] at hput3
                    have htr := (ht1.trans p2).trans hput3.2
                    refine ⟨φ3, _, a.defers, cs, .bool jump.isNone, ?_, hput3.1, htr, by simp [Vrel], hds.mono htr.le, hcs.mono htr.le⟩
                    have := s2.trans (hst _ hend)
                    rw [fin_at ho] at this
                    exact this
                  cases e with
                  | normal =>
                    simp only [ExRel] at ex; subst ex
                    exact fin none rfl (fun _ h => by cases h) fun W' hend => Steps.trans arr (.one (stepR_round_end rfl rfl hend))
                  | ret =>
                    simp only [ExRel] at ex; subst ex
                    obtain ⟨k1, hs⟩ := arr
                    exact fin (some .ret) rfl (fun _ h => by cases h) fun W' hend => Steps.trans hs (.one (stepR_round_ret rfl rfl hend))
                  | exit id =>
                    simp only [ExRel] at ex; subst ex
                    obtain ⟨k1, hk1, hs⟩ := arr.2 rfl
                    exact fin (some (.exit id)) rfl (fun _ h => by cases h) fun W' hend => Steps.trans hs (.one (stepR_round_exit rfl rfl hk1 hend))
                  | panic ch => unfold roundEnd at h; cases h
                · cases h
              · cases h
            · cases h
        · cases h
      · cases h
    | defer d σ1 =>
      simp only [hres] at h
      cases hro : isRound par with
      | true => rw [hro] at h; cases h
      | false =>
      rw [hro] at h
      simp only [cond_false] at h
      have hro := hcs.ro hro
      cases h
      have hop := hop fun v' σ2 he => by rw [hres] at he; cases he
      rw [hres] at hop
      obtain ⟨_, d', hr, hd⟩ := hop
      exact ⟨φ, w, d' :: a.defers, cs, undef, .one (op_defer ho hw (fun ρ => by rw [hro]; rfl) hr), r, Trans.refl _ _ _, undef_rel φ, ⟨d', a.defers, rfl, hd, hds⟩, hcs⟩
    | recover σ1 =>
      simp only [hres] at h
      cases hrd : isRound par with
      | true => rw [hrd] at h; cases h
      | false =>
      rw [hrd] at h
      simp only [cond_false] at h
      have hro := hcs.ro hrd
      have hsm := semAt_of hres (by intro e; cases e) (by intro _ _ e; cases e) b.roundOf
      cases h
      have hop := hop fun v' σ2 he => by rw [hres] at he; cases he
      rw [hres] at hop
      obtain ⟨_, hr⟩ := hop
      have hkr : b.kr = (b.kind, none) := by unfold Frame.kr; rw [hro]
      rw [hkr] at hcs ⊢
      cases hk : b.kind with
      | normal =>
        rw [hk] at hcs
        obtain ⟨rfl, rfl⟩ := hcs
        exact ⟨φ, w, a.defers, _, .nilIface, .one (op_recover_normal ho hw hsm hk hro hr), r, Trans.refl _ _ _, by simp [recoverP, Vrel], hds, by exact ⟨rfl, rfl⟩⟩
      | deferred =>
        rw [hk] at hcs
        rcases recoverP_sound hcs with ⟨v, cs', h1, h2, h3⟩ | ⟨h1, h2, h3⟩
        · exact ⟨φ, w, a.defers, cs', v, .one (op_recover_some ho hw hsm hk hro hr h1), r, Trans.refl _ _ _, h2, hds, h3⟩
        · exact ⟨φ, w, a.defers, cs, .nilIface, .one (op_recover_none ho hw hsm hk hro hr h1), r, Trans.refl _ _ _, by rw [h2]; simp [Vrel], hds, by rw [h3]; exact hcs⟩
      | wrapped => rw [hk] at hcs; exact hcs.elim
      | report => rw [hk] at hcs; exact hcs.elim
      | early => rw [hk] at hcs; exact hcs.elim
    | comm cases bl sh =>
      simp only [hres] at h
      have hop := hop fun v' σ2 he => by rw [hres] at he; cases he
      rw [hres] at hop
      obtain ⟨cases', hr, hsz, hcs'⟩ := hop
      cases hc : aComm σ cases bl sh with
      | val u σ1 =>
        simp only [hc] at h
        cases h
        obtain ⟨v', w', hv, hrel, htr, hcomm⟩ := comm_sound (P := P) r (CsList.of_get (by simpa using hsz) fun k c hk => by obtain ⟨c', h1, h2⟩ := hcs' k c hk; exact ⟨c', by simpa using h1, h2⟩) hc
        exact ⟨φ, w', a.defers, cs, v', .one (op_comm ho hw (semAt_of hres (by intro e; cases e) (by intro _ _ e; cases e) _) hr hcomm), hrel, htr, hv, hds, hcs⟩
      | _ => simp only [hc] at h; cases h
    | panic u σ1 => simp only [hres] at h; cases h
    | fail => simp only [hres] at h; cases h
  · intro ch σ' h φ w a ops i rest k b cs ho hw r hρ hf
    have hop := fun hf' => aop_sound (σ := σ) (w := w) hE r hρ o hf'
    unfold stepOp at h
    cases hres : aop P E ρ o σ with
    | val u σ1 => simp only [hres] at h; cases h
    | enter f args σ1 =>
      simp only [hres] at h
      have hop := hop fun v' σ2 he => by rw [hres] at he; cases he
      rw [hres] at hop
      obtain ⟨_, args', hr, hargs⟩ := hop
      cases hc : callF P E n f args none σ with
      | ret u p σ2 => simp only [hc] at h; cases h
      | panicked ch2 p σ2 =>
        simp only [hc] at h
        cases h
        have hcall := hC f args none σ φ w args' .normal (b.atR a (.inRegion ops (i :: rest) :: k) :: cs) (b.atR a (.inRegion ops (i :: rest) :: k) :: cs) r hargs ⟨rfl, rfl⟩ (by rw [hc]; exact hf)
        rw [hc] at hcall
        obtain ⟨φ', w', fr, cs', ch', fn, s1, q1, q2, q3, q4, q5, q6, q7, q8, q9⟩ := hcall
        obtain ⟨_, rfl⟩ := q3
        have hleave : fr.leaving P w' (.panicked ch') := ⟨q6, q7, fn, q8⟩
        refine ⟨φ', w', ch', ?_, q1, q2, q9⟩
        refine .head (op_enter ho hw (semAt_of hres (by intro e; cases e) (by intro _ _ e; cases e) _) hr) (s1.trans (.one ?_))
        rw [← Frame.raise_atR]
        exact step_leave_panicked hleave
      | fail why => simp only [hc] at h; cases h
    | round l args =>
      simp only [hres] at h
      exfalso
      split at h
      · split at h
        · split at h
          · split at h
            · split at h
              · exact roundEnd_panic h
              · cases h
            · cases h
          · cases h
        · cases h
      · cases h
    | defer d σ1 => simp only [hres] at h; cases hro : isRound par <;> (rw [hro] at h; cases h)
    | recover σ1 => simp only [hres] at h; cases hro : isRound par <;> (rw [hro] at h; cases h)
    | comm cases bl sh =>
      simp only [hres] at h
      cases hc : aComm σ cases bl sh <;> (simp only [hc] at h; cases h)
    | panic u σ1 =>
      simp only [hres] at h
      cases h
      have hop := hop fun v' σ2 he => by rw [hres] at he; cases he
      rw [hres] at hop
      obtain ⟨_, v', hr, hv⟩ := hop
      exact ⟨φ, w, _, .one (op_panic ho hw (semAt_of hres (by intro e; cases e) (by intro _ _ e; cases e) _) hr), r, Trans.refl _ _ _, _, _, rfl, hv, rfl, rfl, rfl⟩
    | fail => simp only [hres] at h; cases h

/-! ## Operations in a row -/

theorem sound_ops [Syms] (hE : EnvOk P E) (n : Nat) (hS : SS P E n) (hO : SO P E n) : SO P E (n + 1) := by
  intro ops l fr σ e fr' σ' h is his φ w a b k cs0 cs r hfr hcs hf
  cases l with
  | nil =>
    simp only [execOps] at h
    cases h
    have : is = [] := by simpa using his
    subst this
    exact ⟨φ, w, a, cs, .normal, rfl, r, Trans.refl _ _ _, hfr, hcs, .one stepR_region_end⟩
  | cons o rest =>
    cases is with
    | nil => simp at his
    | cons i is =>
      simp only [List.map_cons, List.cons.injEq] at his
      obtain ⟨ho, his⟩ := his
      simp only [execOps] at h
      have hwr : ∀ t, aWanted ops fr.tmps o = some t → Region.wanted o (yielded ops a.tmps) = t := fun t ht => wanted_rel (fun d _ _ _ _ => hfr.tmps d) ht
      split at h
      · rename_i hw
        have hw := hwr _ hw
        split at h
        · rename_i v ds p σ1 hs
          split at h
          · rename_i fr1 hput
            have n1 := stepOp_next hs
            have n2 := execOps_next h
            obtain ⟨φ1, w1, ds1, cs1, v1, s1, q1, q2, q3, q4, q5⟩ := (hS _ _ _ _ _).1 _ _ _ _ hs φ w a ops i is k b cs0 cs ho hw r (evalO_rel hfr.tmps) hfr.ds hcs (hf.sub (Nat.le_refl _) n2)
            have hfr1 : FrRel φ1 { fr with defers := ds, par := p } { a with defers := ds1 } := ⟨hfr.size, fun t => (hfr.tmps t).mono q2.le, q4⟩
            have hp : fr1.par = p := by
              unfold Fr.put at hput
              split at hput
              · cases hput; rfl
              · rename_i d _; cases hb : Nat.blt d fr.n <;> simp [hb] at hput; rw [← hput]
            exact (hO ops rest fr1 σ1 e fr' σ' h is his φ1 w1 _ b k cs0 cs1 q1 (hfr1.put hput q3) (by rw [hp]; exact q5) (hf.after q2)).of_steps s1 q2
          · cases h
        · rename_i ch σ1 hs
          cases h
          obtain ⟨φ1, w1, ch1, s1, q1, q2, q3⟩ := (hS _ _ _ _ _).2 _ _ hs φ w a ops i is k b cs ho hw r (evalO_rel hfr.tmps) hf
          exact ⟨φ1, w1, a, cs, .panic ch1, ⟨ch1, rfl, q3⟩, q1, q2, hfr.mono q2.le, hcs.mono q2.le, _, s1⟩
        · cases h
      · rename_i hw
        have hw := hwr _ hw
        split at h
        · rename_i fr1 hput
          have hp : fr1.par = fr.par := by
            unfold Fr.put at hput
            split at hput
            · cases hput; rfl
            · rename_i d _; cases hb : Nat.blt d fr.n <;> simp [hb] at hput; rw [← hput]
          exact (hO ops rest fr1 σ e fr' σ' h is his φ w _ b k cs0 cs r (hfr.put hput (undef_rel φ)) (by rw [hp]; exact hcs) hf).of_steps (.one (op_unwanted ho hw)) (Trans.refl _ _ _)
        · cases h
      · cases h

/-- What is asked of a region whose order is drawn. -/
def SDr [Syms] (P : Program) (E : Env) (n : Nat) : Prop :=
  ∀ (id : Nat) (ops : Array Oper) (fr : Fr) (σ : St) (e : AEx) (fr' : Fr) (σ' : St), exec P E n (.region id ops true) fr σ = .done e fr' σ' → regionOk ops.toList = true →
    ∀ (φ : Phi) (w : World) (a : Act) (b : Frame) (k : List Item) (cs0 cs : List Frame), Rel φ σ w.heap → FrRel φ fr a → CsRel φ b.kr fr.par cs0 cs → Fresh φ σ.next σ'.next →
      Ends P φ σ w b.kr cs0 (lone (b.atR a (.code (.region id ops true) :: k)) cs w) b k e fr' σ'

theorem range_map [Syms] (ops : Array Oper) : (List.range ops.size).map (ops[·]?) = ops.toList.map some := by
  apply List.ext_getElem?
  intro i
  by_cases hi : i < ops.size
  · simp [hi]
  · simp [hi]

theorem loopEnd_done [Syms] {l : Nat} {fr fr' : Fr} {e : AEx} {σ σ' : St} (h : loopEnd l fr σ = .done e fr' σ') :
    ∃ L, σ.get l = some (.loop L) ∧ L.st ≠ .busy ∧ fr' = fr ∧ σ' = σ.put l (.loop { L with st := .exhausted }) ∧ ((L.pend = none ∧ e = .normal) ∨ (L.pend = some .ret ∧ e = .ret) ∨ ∃ i, L.pend = some (.exit i) ∧ e = .exit i) := by
  unfold loopEnd at h
  split at h
  · rename_i L hg
    split at h
    · cases h
    · rename_i hb
      split at h
      · rename_i hp; cases h; exact ⟨L, hg, hb, rfl, rfl, .inl ⟨hp, rfl⟩⟩
      · rename_i hp; cases h; exact ⟨L, hg, hb, rfl, rfl, .inr (.inl ⟨hp, rfl⟩)⟩
      · rename_i i hp; cases h; exact ⟨L, hg, hb, rfl, rfl, .inr (.inr ⟨i, hp, rfl⟩)⟩
      · cases h
  · cases h

theorem sound_rangeFunc [Syms] (hE : EnvOk P E) (n : Nat) (hC : SC P E n) {g : Operand} {ps : Array Tmp} {as bd : Code} {fr fr' : Fr} {σ σ' : St} {e : AEx}
    (h : (bif isRound fr.par then Res.fail "nested" else
      match loopCall E (loopSt σ fr ps as bd) (σ.next + 1) (evalO fr.tmps g) with
      | .enter f args _ =>
        match callF P E n f args none (loopSt σ fr ps as bd) with
        | .ret _ _ σ' => loopEnd (σ.next + 1) (mark σ.next fr) σ'
        | .panicked ch _ σ' => .done (.panic ch) (mark σ.next fr) σ'
        | .fail w => .fail w
      | _ => .fail "loop") = .done e fr' σ') (hc1 : codeOk as = true) (hc2 : codeOk bd = true)
    (φ : Phi) (w : World) (a : Act) (b : Frame) (k : List Item) (cs0 cs : List Frame) (r : Rel φ σ w.heap) (hfr : FrRel φ fr a) (hcs : CsRel φ b.kr fr.par cs0 cs) (hf : Fresh φ σ.next σ'.next) :
    Ends P φ σ w b.kr cs0 (lone (b.atR a (.code (.rangeFunc g ps as bd) :: k)) cs w) b k e fr' σ' := by
  cases hir : isRound fr.par with
  | true => rw [hir] at h; cases h
  | false =>
    rw [hir] at h
    simp only [cond_false] at h
    have hro := hcs.ro hir
    cases hlc : loopCall E (loopSt σ fr ps as bd) (σ.next + 1) (evalO fr.tmps g) with
    | enter f args σx =>
      rw [hlc] at h
      simp only at h
      have hnx : σ.next + 2 ≤ σ'.next := by
        have := (rises_all (P := P) (E := E) n).2.2.2.2.1 f args none (loopSt σ fr ps as bd)
        cases hcf : callF P E n f args none (loopSt σ fr ps as bd) with
        | ret v p σ3 =>
          rw [hcf] at h this
          have h2 := loopEnd_next h
          have h3 : (loopSt σ fr ps as bd).next ≤ σ3.next := this
          simp [loopSt] at h3
          omega
        | panicked ch p σ3 =>
          rw [hcf] at h this
          cases h
          have h3 : (loopSt σ fr ps as bd).next ≤ σ'.next := this
          simp [loopSt] at h3
          omega
        | fail w => rw [hcf] at h; cases h
      -- the two new blocks
      obtain ⟨φ1, p1, r1, t1⟩ := newObj_sound (o := .deferred (some [])) (b := .dfr false) r (hf.sub (Nat.le_refl _) (by omega)) fun φ' _ => ⟨rfl, rfl⟩
      have hf1 : Fresh φ1 (σ.new (.dfr false)).next ((σ.new (.dfr false)).next + 1) := by
        have := hf.after t1
        exact this.sub (Nat.le_refl _) (by simp; omega)
      obtain ⟨φ2, p2, r2, t2⟩ := newObj_sound (σ := σ.new (.dfr false)) (w := w.alloc (.deferred (some [])))
        (o := .loop { state := .ready, pending := none, fn := b.fn, tmps := a.tmps, params := ps, assign := as, body := bd, defers := w.heap.size })
        (b := .loop { st := .ready, pend := none, n := fr.n, tmps := fr.tmps, params := ps.toList, assign := as, body := bd, dfr := σ.next }) r1 hf1
        fun φ' hle => ⟨_, rfl, rfl, rfl, rfl, by simp, rfl, rfl, hfr.size, fun t => ((hfr.tmps t).mono t1.le).mono hle, hc1, hc2⟩
      have t12 := t1.trans t2
      let w2 : World := (w.alloc (.deferred (some []))).alloc (.loop { state := .ready, pending := none, fn := b.fn, tmps := a.tmps, params := ps, assign := as, body := bd, defers := w.heap.size })
      have r2' : Rel φ2 (loopSt σ fr ps as bd) w2.heap := r2
      have t12' : Trans φ σ w φ2 (loopSt σ fr ps as bd) w2 := t12
      have hl : φ2 (σ.next + 1) = .live ⟨w.heap.size + 1, 0, 0, 0, 0⟩ := by
        subst p2
        show (φ1.upd (σ.next + 1) _) (σ.next + 1) = _
        rw [Phi.upd_same, World.size_alloc]
      have hd : φ2 σ.next = .live ⟨w.heap.size, 0, 0, 0, 0⟩ := by
        subst p2
        rw [Phi.upd_other _ _ (by simp), p1, Phi.upd_same]
      have hlo : ORel φ2 (σ.next + 1) (w.heap.size + 1) := by unfold ORel; rw [hl]; exact ⟨rfl, rfl⟩
      have hdo : ORel φ2 σ.next w.heap.size := by unfold ORel; rw [hd]; exact ⟨rfl, rfl⟩
      -- the call
      unfold loopCall at hlc
      split at hlc
      · rename_i gg first captured hgv
        have hgr := evalO_rel hfr.tmps g
        rw [hgv] at hgr
        simp only [Vrel] at hgr
        obtain ⟨first', captured', hga, hfi, hca⟩ := hgr
        have hargs : VrelL φ2 (first.toList ++ [.complex .f64 (σ.next + 1) 1] ++ captured.toList) (first' ++ (#[.func (.yield (w.heap.size + 1)) #[] #[]] : Array Value) ++ captured').toList := by
          rw [VrelA.iff] at hfi hca
          simp only [Array.toList_append]
          refine ((VrelL.append (hfi.mono t12'.le) (VrelL.cons ?_ VrelL.nil)).append (hca.mono t12'.le))
          simp only [Vrel, true_implies]
          exact ⟨fun h => (by cases h), _, rfl, hlo⟩
        have hinv := aCallFunc_sound (P := P) hE r2' (f := gg) hargs
        rw [hlc] at hinv
        obtain ⟨_, args', hi, hag⟩ := hinv
        have henter := stepR_rangeFunc (P := P) (b := b) (a := a) (k := k) (cs := cs) (w := w) (g := g) (ps := ps) (assign := as) (body := bd) (l := w.heap.size + 1) (mark := [{ target := .collected w.heap.size, args := #[] }])
          (w₁ := w2) (w₁' := w2) (w₂ := w2) (d := { target := .fn (.func gg) captured', args := first' ++ (#[.func (.yield (w.heap.size + 1)) #[] #[]] : Array Value) }) (f := f) (args := args')
          (by rw [hro]; exact run_enterLoop_outer b.fn a.tmps ps as bd)
          (by
            have hm : (#[Operand.const (.func (.yield (w.heap.size + 1)) #[] #[])] : Array Operand).map a.eval = #[.func (.yield (w.heap.size + 1)) #[] #[]] := by simp [Act.eval]
            simp only [resolve, rangeCall, hm, hga, Deferred.ofValue, Sem.run_pure])
          (by simpa [invoke] using hi)
        let a' : Act := { a with defers := [{ target := .collected w.heap.size, args := #[] }] ++ a.defers }
        let c : Frame := b.atR a' (.inRangeFunc (w.heap.size + 1) :: k)
        have hfr2 : ∀ {φ'}, PLe φ2 φ' → FrRel φ' (mark σ.next fr) a' := fun hle =>
          ⟨hfr.size, fun t => ((hfr.tmps t).mono t12'.le).mono hle, _, _, rfl, .inr ⟨_, _, rfl, rfl, hdo.mono hle⟩, (hfr.ds.mono t12'.le).mono hle⟩
        cases hcf : callF P E n f args none (loopSt σ fr ps as bd) with
        | ret v p σ3 =>
          rw [hcf] at h
          simp only at h
          obtain ⟨L, hg, hbusy, rfl, rfl, hpe⟩ := loopEnd_done h
          have hcall := hC f args none (loopSt σ fr ps as bd) φ2 w2 args' .normal (c :: cs) (c :: cs) r2' hag ⟨rfl, rfl⟩ (by rw [hcf]; exact (hf.after t12').sub (Nat.le_refl _) (by simp [CRes.next]))
          rw [hcf] at hcall
          obtain ⟨φ', w', frm, cs', v', fn, s1, q1, q2, q3, q4, q5, q6, q7, q8, q9, q10⟩ := hcall
          obtain ⟨_, rfl⟩ := q3
          have hleave : frm.leaving P w' (.returned v') := ⟨q6, q7, q4, fn, q8, q9⟩
          obtain ⟨x, L', hx, hxb, hx0, hh, hbr⟩ := q1.loop hg (hlo.mono q2.le)
          obtain ⟨_, e0, _, b1, b2, b3, b4, b5, b6, b7, b8, b9⟩ := id hbr
          cases e0
          have hend := run_endLoop (P := P) hh (by rw [b1]; exact hbusy)
          have hput := putLoop_sound (L2 := { L with st := .exhausted }) (L2' := { L' with state := .exhausted }) q1 hg hx ⟨_, rfl, hx0, rfl, b2, b3, b4, b5, b6, b7, b8, b9⟩
          rw [hxb] at hput
          have steps : Steps P (lone (b.atR a (.code (.rangeFunc g ps as bd) :: k)) cs w) (lone (b.atR a' ((L'.pending.map Item.code).toList ++ k)) cs (w'.putObj (w.heap.size + 1) (.loop { L' with state := .exhausted }))) := by
            refine .head henter (s1.trans (.head ?_ (.one (stepR_endRangeFunc hend))))
            rw [← finish_atR_inRangeFunc (w.heap.size + 1) v']
            exact step_leave_returned hleave
          have htr := (t12'.trans q2).trans hput.2
          have hfin := hfr2 q2.le
          have hcs' := (hcs.mono t12'.le).mono q2.le
          have steps : ∀ j, L'.pending = j → Steps P (lone (b.atR a (.code (.rangeFunc g ps as bd) :: k)) cs w) (lone (b.atR a' ((j.map Item.code).toList ++ k)) cs (w'.putObj (w.heap.size + 1) (.loop { L' with state := .exhausted }))) := fun j hj => by
            subst hj; exact steps
          rcases hpe with ⟨hp, rfl⟩ | ⟨hp, rfl⟩ | ⟨i, hp, rfl⟩
          · have steps := steps none (b2.trans hp)
            exact ⟨φ', _, a', cs, .normal, rfl, hput.1, htr, hfin, hcs', steps⟩
          · have steps := steps (some .ret) (b2.trans hp)
            exact ⟨φ', _, a', cs, .ret, rfl, hput.1, htr, hfin, hcs', k, steps⟩
          · have steps := steps (some (.exit i)) (b2.trans hp)
            exact ⟨φ', _, a', cs, .exit i, rfl, hput.1, htr, hfin, hcs', fun k' hk => steps.trans (.one (stepR_exit hk)), fun hn => ⟨k, hn, steps⟩⟩
        | panicked ch p σ3 =>
          rw [hcf] at h
          cases h
          have hcall := hC f args none (loopSt σ fr ps as bd) φ2 w2 args' .normal (c :: cs) (c :: cs) r2' hag ⟨rfl, rfl⟩ (by rw [hcf]; exact hf.after t12')
          rw [hcf] at hcall
          obtain ⟨φ', w', frm, cs', ch', fn, s1, q1, q2, q3, q4, q5, q6, q7, q8, q9⟩ := hcall
          obtain ⟨_, rfl⟩ := q3
          have hleave : frm.leaving P w' (.panicked ch') := ⟨q6, q7, fn, q8⟩
          refine ⟨φ', w', a', cs, .panic ch', ⟨ch', rfl, q9⟩, q1, t12'.trans q2, hfr2 q2.le, (hcs.mono t12'.le).mono q2.le, .inRangeFunc (w.heap.size + 1) :: k, ?_⟩
          refine .head henter (s1.trans (.one ?_))
          rw [← Frame.raise_atR]
          exact step_leave_panicked hleave
        | fail why => rw [hcf] at h; cases h
      · cases hlc
    | _ => rw [hlc] at h; cases h

theorem sound_exec [Syms] (hE : EnvOk P E) (n : Nat) (hO : SO P E n) (hX : SE P E n) (hC : SC P E n) (hD : SDr P E (n + 1)) : SE P E (n + 1) := by
  intro c fr σ e fr' σ' h hc φ w a b k cs0 cs r hfr hcs hf
  have h0 := h
  unfold exec at h
  split at h
  · cases h
    exact ⟨⟨φ, w, a, cs, .normal, rfl, r, Trans.refl _ _ _, hfr, hcs, .one stepR_skip⟩, fun c' hc' => by cases hc'⟩
  · rename_i id ops
    refine ⟨?_, fun c' hc' => by cases hc'⟩
    exact (hO ops ops.toList fr σ e fr' σ' h (List.range ops.size) (range_map ops) φ w a b k cs0 cs r hfr hcs hf).of_steps (.one stepR_region) (Trans.refl _ _ _)
  · rename_i id ops
    refine ⟨?_, fun c' hc' => by cases hc'⟩
    exact hD id ops fr σ e fr' σ' h0 (by simpa [codeOk] using hc) φ w a b k cs0 cs r hfr hcs hf
  · rename_i x y
    refine ⟨?_, fun c' hc' => by cases hc'⟩
    simp only [codeOk, Bool.and_eq_true] at hc
    split at h
    · rename_i fr1 σ1 h1
      have n1 := exec_next h1
      have n2 := exec_next h
      obtain ⟨φ1, w1, a1, cs1, s1, q1, q2, q3, q4⟩ := ((hX x fr σ .normal fr1 σ1 h1 hc.1 φ w a b (.code y :: k) cs0 cs r hfr hcs (hf.sub (Nat.le_refl _) n2)).1).normal
      exact ((hX y fr1 σ1 e fr' σ' h hc.2 φ1 w1 a1 b k cs0 cs1 q1 q3 q4 (hf.after q2)).1).of_steps (.head stepR_seq s1) q2
    · rename_i hne
      have hne' : e ≠ .normal := fun he => hne fr' σ' (by rw [h, he])
      exact (((hX x fr σ e fr' σ' h hc.1 φ w a b (.code y :: k) cs0 cs r hfr hcs hf).1).pass (x := .code y) rfl hne').of_steps (.one stepR_seq) (Trans.refl _ _ _)
  · rename_i cnd x y
    refine ⟨?_, fun c' hc' => by cases hc'⟩
    simp only [codeOk, Bool.and_eq_true] at hc
    have hcv := evalO_rel hfr.tmps cnd
    split at h
    · rename_i hv
      rw [hv] at hcv
      simp only [Vrel] at hcv
      exact ((hX x fr σ e fr' σ' h hc.1 φ w a b k cs0 cs r hfr hcs hf).1).of_steps (.one (by simpa using stepR_cond (x := x) (y := y) hcv)) (Trans.refl _ _ _)
    · rename_i hv
      rw [hv] at hcv
      simp only [Vrel] at hcv
      exact ((hX y fr σ e fr' σ' h hc.2 φ w a b k cs0 cs r hfr hcs hf).1).of_steps (.one (by simpa using stepR_cond (x := x) (y := y) hcv)) (Trans.refl _ _ _)
    · cases h
  · rename_i id x
    refine ⟨?_, fun c' hc' => by cases hc'⟩
    simp only [codeOk] at hc
    split at h
    · rename_i i fr1 σ1 h1
      have hgo : ∀ e0, (bif Nat.beq i id then Res.done .normal fr1 σ1 else .done (.exit i) fr1 σ1) = .done e0 fr' σ' → fr1 = fr' ∧ σ1 = σ' := by
        intro e0 he; cases hb : Nat.beq i id <;> rw [hb] at he <;> cases he <;> exact ⟨rfl, rfl⟩
      obtain ⟨rfl, rfl⟩ := hgo e h
      obtain ⟨φ1, w1, a1, cs1, e1, q0, q1, q2, q3, q4, q5⟩ := (hX x fr σ (.exit i) fr1 σ1 h1 hc φ w a b (.inBlock id :: k) cs0 cs r hfr hcs hf).1
      simp only [ExRel] at q0
      subst q0
      cases hb : Nat.beq i id with
      | true =>
        rw [hb] at h
        cases h
        have := of_beqT hb
        subst this
        exact ⟨φ1, w1, a1, cs1, .normal, rfl, q1, q2, q3, q4, .head stepR_block (q5.1 k (by simp [exitTo]))⟩
      | false =>
        rw [hb] at h
        cases h
        have hne : (id == i) = false := by
          have : id ≠ i := fun e => by subst e; rw [Nat.beq_refl] at hb; cases hb
          simpa using this
        exact ⟨φ1, w1, a1, cs1, .exit i, rfl, q1, q2, q3, q4, fun k' hk => .head stepR_block (q5.1 k' (by simp [exitTo, hne, hk])), fun hn => let ⟨k1, g1, g2⟩ := q5.2 (by simp [exitTo, hne, hn]); ⟨k1, g1, .head stepR_block g2⟩⟩
    · rename_i hne
      obtain ⟨φ1, w1, a1, cs1, e1, q0, q1, q2, q3, q4, q5⟩ := (hX x fr σ e fr' σ' h hc φ w a b (.inBlock id :: k) cs0 cs r hfr hcs hf).1
      cases e with
      | normal =>
        simp only [ExRel] at q0; subst q0
        exact ⟨φ1, w1, a1, cs1, .normal, rfl, q1, q2, q3, q4, .head stepR_block (Steps.trans q5 (.one stepR_inBlock))⟩
      | exit i => exact absurd h (hne i fr' σ')
      | ret =>
        simp only [ExRel] at q0; subst q0
        exact ⟨φ1, w1, a1, cs1, .ret, rfl, q1, q2, q3, q4, .of_steps (.one stepR_block) q5⟩
      | panic ch =>
        obtain ⟨ch', rfl, q0⟩ := q0
        exact ⟨φ1, w1, a1, cs1, .panic ch', ⟨ch', rfl, q0⟩, q1, q2, q3, q4, .of_steps (.one stepR_block) q5⟩
  · rename_i x
    simp only [codeOk] at hc
    have inner : Ends P φ σ w b.kr cs0 (lone (b.atR a (.code x :: .inLoop x :: k)) cs w) b k e fr' σ' := by
      split at h
      · rename_i fr1 σ1 h1
        have n1 := exec_next h1
        have n2 := exec_next h
        obtain ⟨φ1, w1, a1, cs1, s1, q1, q2, q3, q4⟩ := ((hX x fr σ .normal fr1 σ1 h1 hc φ w a b (.inLoop x :: k) cs0 cs r hfr hcs (hf.sub (Nat.le_refl _) n2)).1).normal
        exact ((hX (.loop x) fr1 σ1 e fr' σ' h (by simpa [codeOk] using hc) φ1 w1 a1 b k cs0 cs1 q1 q3 q4 (hf.after q2)).2 x rfl).of_steps (s1.trans (.one stepR_inLoop)) q2
      · rename_i hne
        have hne' : e ≠ .normal := fun he => hne fr' σ' (by rw [h, he])
        exact ((hX x fr σ e fr' σ' h hc φ w a b (.inLoop x :: k) cs0 cs r hfr hcs hf).1).pass (x := .inLoop x) rfl hne'
    exact ⟨inner.of_steps (.one stepR_loop) (Trans.refl _ _ _), fun c' hc' => by cases hc'; exact inner⟩
  · cases h
    exact ⟨⟨φ, w, a, cs, _, rfl, r, Trans.refl _ _ _, hfr, hcs, fun _ hk => .one (stepR_exit hk), fun hn => ⟨k, hn, Steps.refl _ _⟩⟩, fun c' hc' => by cases hc'⟩
  · cases h
    exact ⟨⟨φ, w, a, cs, _, rfl, r, Trans.refl _ _ _, hfr, hcs, k, Steps.refl _ _⟩, fun c' hc' => by cases hc'⟩
  · rename_i g ps as bd
    refine ⟨?_, fun c' hc' => by cases hc'⟩
    simp only [codeOk, Bool.and_eq_true] at hc
    exact sound_rangeFunc hE n hC h hc.1 hc.2 φ w a b k cs0 cs r hfr hcs hf
  · cases h

end Go.Ab
