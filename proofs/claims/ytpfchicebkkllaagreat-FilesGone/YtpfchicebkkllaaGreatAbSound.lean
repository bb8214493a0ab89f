/- THE SOUNDNESS: a run of the abstract machine stands for the machine's run, whatever the tape. -/
import Derived.Test.YtpfchicebkkllaaGreatAbNext
import Derived.Test.YtpfchicebkkllaaGreatAbComm
namespace Go.Ab

variable {P : Program} {E : Env}

/-- One operation. -/
def SS [Syms] (P : Program) (E : Env) (n : Nat) : Prop :=
  ∀ (ρ : Operand → Value) (o : Oper) (ds : List Deferred) (par : Option FrameMode) (σ : St),
  (∀ v ds' par' σ', stepOp P E n ρ o ds par σ = .val v ds' par' σ' →
    ∀ (φ : Phi) (w : World) (a : Act) (ops : Array Oper) (i : Nat) (rest : List Nat) (k : List Item) (b : Frame) (cs0 cs : List Frame),
    ops[i]? = some o → Region.wanted o (yielded ops a.tmps) = true → Rel φ σ w.heap → (∀ x, Vrel φ (ρ x) (a.eval x)) → DsRel φ ds a.defers → CsRel φ b.kind par cs0 cs → Fresh φ σ.next σ'.next →
    ∃ φ' w' ds'' cs' v', Steps P (lone (b.at a (.inRegion ops (i :: rest) :: k)) cs w) (lone (b.at (({ a with defers := ds'' } : Act).put o.dst v') (.inRegion ops rest :: k)) cs' w') ∧
      Rel φ' σ' w'.heap ∧ Trans φ σ w φ' σ' w' ∧ Vrel φ' v v' ∧ DsRel φ' ds' ds'' ∧ CsRel φ' b.kind par' cs0 cs') ∧
  (∀ ch σ', stepOp P E n ρ o ds par σ = .panic ch σ' →
    ∀ (φ : Phi) (w : World) (a : Act) (ops : Array Oper) (i : Nat) (rest : List Nat) (k : List Item) (b : Frame) (cs : List Frame),
    ops[i]? = some o → Region.wanted o (yielded ops a.tmps) = true → Rel φ σ w.heap → (∀ x, Vrel φ (ρ x) (a.eval x)) → Fresh φ σ.next σ'.next →
    ∃ φ' w' ch', Steps P (lone (b.at a (.inRegion ops (i :: rest) :: k)) cs w) (lone { b.at a (.inRegion ops (i :: rest) :: k) with mode := .panicking ch' } cs w') ∧
      Rel φ' σ' w'.heap ∧ Trans φ σ w φ' σ' w' ∧ ChRel φ' ch ch')

def ExRel [Syms] (φ : Phi) : AEx → Exit → Prop
  | .normal, e => e = .normal
  | .exit i, e => e = .exit i
  | .ret, e => e = .ret
  | .panic ch, e => ∃ ch', e = .panic ch' ∧ ChRel φ ch ch'

/-- Where a piece of code that ran to an end has come. -/
def Ends [Syms] (P : Program) (φ : Phi) (σ : St) (w : World) (kind : CallKind) (cs0 : List Frame) (m : Machine) (b : Frame) (k : List Item) (e : AEx) (fr' : Fr) (σ' : St) : Prop :=
  ∃ φ' w' a' cs' e', ExRel φ' e e' ∧ Rel φ' σ' w'.heap ∧ Trans φ σ w φ' σ' w' ∧ FrRel φ' fr' a' ∧ CsRel φ' kind fr'.par cs0 cs' ∧ Arrives P m b k cs' e' a' w'

/-- A piece of code. -/
def SE [Syms] (P : Program) (E : Env) (n : Nat) : Prop :=
  ∀ (c : Code) (fr : Fr) (σ : St) (e : AEx) (fr' : Fr) (σ' : St), exec P E n c fr σ = .done e fr' σ' → codeOk c = true →
    ∀ (φ : Phi) (w : World) (a : Act) (b : Frame) (k : List Item) (cs0 cs : List Frame), Rel φ σ w.heap → FrRel φ fr a → CsRel φ b.kind fr.par cs0 cs → Fresh φ σ.next σ'.next →
      Ends P φ σ w b.kind cs0 (lone (b.at a (.code c :: k)) cs w) b k e fr' σ' ∧ (∀ c', c = .loop c' → Ends P φ σ w b.kind cs0 (lone (b.at a (.code c' :: .inLoop c' :: k)) cs w) b k e fr' σ')

/-- The operations of a region whose order is fixed. -/
def SO [Syms] (P : Program) (E : Env) (n : Nat) : Prop :=
  ∀ (ops : Array Oper) (l : List Oper) (fr : Fr) (σ : St) (e : AEx) (fr' : Fr) (σ' : St), execOps P E n ops l fr σ = .done e fr' σ' →
    ∀ (is : List Nat), is.map (ops[·]?) = l.map some →
    ∀ (φ : Phi) (w : World) (a : Act) (b : Frame) (k : List Item) (cs0 cs : List Frame), Rel φ σ w.heap → FrRel φ fr a → CsRel φ b.kind fr.par cs0 cs → Fresh φ σ.next σ'.next →
      Ends P φ σ w b.kind cs0 (lone (b.at a (.inRegion ops is :: k)) cs w) b k e fr' σ'

/-- How a call has ended. -/
def CEnds [Syms] (P : Program) (φ : Phi) (σ : St) (w : World) (kind : CallKind) (cs0 : List Frame) (f : FuncId) (m : Machine) : CRes → Prop
  | .ret v par' σ' => ∃ φ' w' fr cs' v' fn, Steps P m (lone fr cs' w') ∧ Rel φ' σ' w'.heap ∧ Trans φ σ w φ' σ' w' ∧ CsRel φ' kind par' cs0 cs' ∧ fr.kind = kind ∧ fr.fn = f ∧
      fr.mode = .returning ∧ fr.defers = [] ∧ P.funcs[fr.fn]? = some fn ∧ (results fn fr.tmps).run P w' = .ok v' w' ∧ Vrel φ' v v'
  | .panicked ch par' σ' => ∃ φ' w' fr cs' ch' fn, Steps P m (lone fr cs' w') ∧ Rel φ' σ' w'.heap ∧ Trans φ σ w φ' σ' w' ∧ CsRel φ' kind par' cs0 cs' ∧ fr.kind = kind ∧ fr.fn = f ∧
      fr.mode = .panicking ch' ∧ fr.defers = [] ∧ P.funcs[fr.fn]? = some fn ∧ ChRel φ' ch ch'
  | .fail _ => True

def CRes.next [Syms] : CRes → Nat → Nat
  | .ret _ _ σ, _ => σ.next
  | .panicked _ _ σ, _ => σ.next
  | .fail _, n => n

/-- A call. -/
def SC [Syms] (P : Program) (E : Env) (n : Nat) : Prop :=
  ∀ (f : Nat) (args : List Value) (par : Option FrameMode) (σ : St) (φ : Phi) (w : World) (args' : Array Value) (kind : CallKind) (cs0 cs : List Frame),
    Rel φ σ w.heap → VrelL φ args args'.toList → CsRel φ kind par cs0 cs → Fresh φ σ.next ((callF P E n f args par σ).next σ.next) →
      CEnds P φ σ w kind cs0 f (lone (Frame.enter P f args' kind) cs w) (callF P E n f args par σ)

/-- The deferred calls. -/
def SL [Syms] (P : Program) (E : Env) (n : Nat) : Prop :=
  ∀ (fn : Func) (fr : Fr) (u : FrameMode) (σ : St) (φ : Phi) (w : World) (a : Act) (frm : Frame) (cs0 cs : List Frame),
    Rel φ σ w.heap → FrRel φ fr a → CsRel φ frm.kind fr.par cs0 cs → P.funcs[frm.fn]? = some fn → E.func frm.fn = some fn → frm.tmps = a.tmps → frm.defers = a.defers → frm.roundOf = none → MRel φ u frm.mode →
      Fresh φ σ.next ((leave P E n fn fr u σ).next σ.next) → CEnds P φ σ w frm.kind cs0 frm.fn (lone frm cs w) (leave P E n fn fr u σ)

/-! ## One operation -/

theorem sound_step [Syms] (hE : EnvOk P E) (n : Nat) (hC : SC P E n) : SS P E (n + 1) := by
  intro ρ o ds par σ
  refine ⟨?_, ?_⟩
  · intro v ds' par' σ' h φ w a ops i rest k b cs0 cs ho hw r hρ hds hcs hf
    have hop := fun hf' => aop_sound (σ := σ) (w := w) hE r hρ o hf'
    unfold stepOp at h
    cases hres : aop P E ρ o σ with
    | val u σ1 =>
      simp only [hres] at h
      cases h
      have hop := hop fun v' σ2 he => by rw [hres] at he; cases he; exact hf
      rw [hres] at hop
      obtain ⟨φ', w', v', hr, hv, hrel, htr⟩ := hop
      have hds' := hds.mono htr.le
      have hcs' := hcs.mono htr.le
      rcases hr with hr | ⟨hr, rfl⟩
      · exact ⟨φ', w', a.defers, cs, v', .one (op_value ho hw hr), hrel.clean, htr.clean, hv, hds', hcs'⟩
      · exact ⟨φ', w', a.defers, cs, undef, .one (op_skip ho hw hr), hrel.clean, htr.clean, hv, hds', hcs'⟩
    | enter f args σ1 =>
      simp only [hres] at h
      have hop := hop fun v' σ2 he => by rw [hres] at he; cases he
      rw [hres] at hop
      obtain ⟨_, args', hr, hargs⟩ := hop
      cases hc : callF P E n f args none σ with
      | ret u p σ2 =>
        simp only [hc] at h
        cases h
        have hcall := hC f args none σ φ w args' .normal (b.at a (.inRegion ops (i :: rest) :: k) :: cs) (b.at a (.inRegion ops (i :: rest) :: k) :: cs) r hargs ⟨rfl, rfl⟩ (by rw [hc]; exact hf)
        rw [hc] at hcall
        obtain ⟨φ', w', fr, cs', v', fn, s1, q1, q2, q3, q4, q5, q6, q7, q8, q9, q10⟩ := hcall
        obtain ⟨_, rfl⟩ := q3
        have hleave : fr.leaving P w' (.returned v') := ⟨q6, q7, q4, fn, q8, q9⟩
        refine ⟨φ', w', a.defers, cs, v', ?_, q1, q2, q10, hds.mono q2.le, hcs.mono q2.le⟩
        refine .head (op_enter ho hw hr) (s1.trans (.one ?_))
        rw [← fin_at ho]
        exact step_leave_returned hleave
      | panicked ch p σ2 => simp only [hc] at h; cases h
      | fail why => simp only [hc] at h; cases h
    | defer d σ1 =>
      simp only [hres] at h
      cases h
      have hop := hop fun v' σ2 he => by rw [hres] at he; cases he
      rw [hres] at hop
      obtain ⟨_, d', hr, hd⟩ := hop
      exact ⟨φ, w, d' :: a.defers, cs, undef, .one (op_defer ho hw hr), r, Trans.refl _ _ _, undef_rel φ, ⟨d', a.defers, rfl, hd, hds⟩, hcs⟩
    | recover σ1 =>
      simp only [hres] at h
      cases h
      have hop := hop fun v' σ2 he => by rw [hres] at he; cases he
      rw [hres] at hop
      obtain ⟨_, hr⟩ := hop
      cases hk : b.kind with
      | normal =>
        rw [hk] at hcs
        obtain ⟨rfl, rfl⟩ := hcs
        exact ⟨φ, w, a.defers, _, .nilIface, .one (op_recover_normal ho hw hk hr), r, Trans.refl _ _ _, by simp [recoverP, Vrel], hds, by exact ⟨rfl, rfl⟩⟩
      | deferred =>
        rw [hk] at hcs
        rcases recoverP_sound hcs with ⟨v, cs', h1, h2, h3⟩ | ⟨h1, h2, h3⟩
        · exact ⟨φ, w, a.defers, cs', v, .one (op_recover_some ho hw hk hr h1), r, Trans.refl _ _ _, h2, hds, h3⟩
        · exact ⟨φ, w, a.defers, cs, .nilIface, .one (op_recover_none ho hw hk hr h1), r, Trans.refl _ _ _, by rw [h2]; simp [Vrel], hds, by rw [h3]; exact hcs⟩
      | wrapped => rw [hk] at hcs; exact hcs.elim
      | report => rw [hk] at hcs; exact hcs.elim
      | early => rw [hk] at hcs; exact hcs.elim
    | comm cases bl sh =>
      simp only [hres] at h
      have hop := hop fun v' σ2 he => by rw [hres] at he; cases he
      rw [hres] at hop
      obtain ⟨cases', hr, hsz, hcs'⟩ := hop
      cases hc : aComm σ cases bl sh with
      | val u σ1 =>
        simp only [hc] at h
        cases h
        obtain ⟨v', w', hv, hrel, htr, hcomm⟩ := comm_sound (P := P) r (CsList.of_get (by simpa using hsz) fun k c hk => by obtain ⟨c', h1, h2⟩ := hcs' k c hk; exact ⟨c', by simpa using h1, h2⟩) hc
        exact ⟨φ, w', a.defers, cs, v', .one (op_comm ho hw hr hcomm), hrel, htr, hv, hds, hcs⟩
      | _ => simp only [hc] at h; cases h
    | panic u σ1 => simp only [hres] at h; cases h
    | fail => simp only [hres] at h; cases h
  · intro ch σ' h φ w a ops i rest k b cs ho hw r hρ hf
    have hop := fun hf' => aop_sound (σ := σ) (w := w) hE r hρ o hf'
    unfold stepOp at h
    cases hres : aop P E ρ o σ with
    | val u σ1 => simp only [hres] at h; cases h
    | enter f args σ1 =>
      simp only [hres] at h
      have hop := hop fun v' σ2 he => by rw [hres] at he; cases he
      rw [hres] at hop
      obtain ⟨_, args', hr, hargs⟩ := hop
      cases hc : callF P E n f args none σ with
      | ret u p σ2 => simp only [hc] at h; cases h
      | panicked ch2 p σ2 =>
        simp only [hc] at h
        cases h
        have hcall := hC f args none σ φ w args' .normal (b.at a (.inRegion ops (i :: rest) :: k) :: cs) (b.at a (.inRegion ops (i :: rest) :: k) :: cs) r hargs ⟨rfl, rfl⟩ (by rw [hc]; exact hf)
        rw [hc] at hcall
        obtain ⟨φ', w', fr, cs', ch', fn, s1, q1, q2, q3, q4, q5, q6, q7, q8, q9⟩ := hcall
        obtain ⟨_, rfl⟩ := q3
        have hleave : fr.leaving P w' (.panicked ch') := ⟨q6, q7, fn, q8⟩
        refine ⟨φ', w', ch', ?_, q1, q2, q9⟩
        refine .head (op_enter ho hw hr) (s1.trans (.one ?_))
        rw [← Frame.raise_at]
        exact step_leave_panicked hleave
      | fail why => simp only [hc] at h; cases h
    | defer d σ1 => simp only [hres] at h; cases h
    | recover σ1 => simp only [hres] at h; cases h
    | comm cases bl sh =>
      simp only [hres] at h
      cases hc : aComm σ cases bl sh <;> (simp only [hc] at h; cases h)
    | panic u σ1 =>
      simp only [hres] at h
      cases h
      have hop := hop fun v' σ2 he => by rw [hres] at he; cases he
      rw [hres] at hop
      obtain ⟨_, v', hr, hv⟩ := hop
      exact ⟨φ, w, _, .one (op_panic ho hw hr), r, Trans.refl _ _ _, _, _, rfl, hv, rfl, rfl, rfl⟩
    | fail => simp only [hres] at h; cases h

/-! ## Operations in a row -/

theorem Ends.of_steps [Syms] {φ φ1 : Phi} {σ σ1 : St} {w w1 : World} {kind : CallKind} {cs0 : List Frame} {m m1 : Machine} {b : Frame} {k : List Item} {e : AEx} {fr' : Fr} {σ' : St} (hs : Steps P m m1) (ht : Trans φ σ w φ1 σ1 w1) (h : Ends P φ1 σ1 w1 kind cs0 m1 b k e fr' σ') :
    Ends P φ σ w kind cs0 m b k e fr' σ' := by
  obtain ⟨φ', w', a', cs', e', h1, h2, h3, h4, h5, h6⟩ := h
  exact ⟨φ', w', a', cs', e', h1, h2, ht.trans h3, h4, h5, .of_steps hs h6⟩

theorem Fresh.after [Syms] {φ φ1 : Phi} {σ σ1 : St} {w w1 : World} {m : Nat} (hf : Fresh φ σ.next m) (ht : Trans φ σ w φ1 σ1 w1) : Fresh φ1 σ1.next m := fun i h1 h2 => by
  rw [ht.out i h1]; exact hf i (Nat.le_trans ht.next h1) h2

theorem stepOp_next [Syms] {n : Nat} {ρ : Operand → Value} {o : Oper} {ds ds' : List Deferred} {p p' : Option FrameMode} {σ σ' : St} {v : Value} (h : stepOp P E n ρ o ds p σ = .val v ds' p' σ') : σ.next ≤ σ'.next := by
  have := (rises_all (P := P) (E := E) n).2.2.2.1 ρ o ds p σ
  rw [h] at this; exact this
theorem execOps_next [Syms] {n : Nat} {ops : Array Oper} {l : List Oper} {fr fr' : Fr} {σ σ' : St} {e : AEx} (h : execOps P E n ops l fr σ = .done e fr' σ') : σ.next ≤ σ'.next := by
  have := (rises_all (P := P) (E := E) n).2.1 ops l fr σ
  rw [h] at this; exact this
theorem exec_next [Syms] {n : Nat} {c : Code} {fr fr' : Fr} {σ σ' : St} {e : AEx} (h : exec P E n c fr σ = .done e fr' σ') : σ.next ≤ σ'.next := by
  have := (rises_all (P := P) (E := E) n).1 c fr σ
  rw [h] at this; exact this

theorem sound_ops [Syms] (hE : EnvOk P E) (n : Nat) (hS : SS P E n) (hO : SO P E n) : SO P E (n + 1) := by
  intro ops l fr σ e fr' σ' h is his φ w a b k cs0 cs r hfr hcs hf
  cases l with
  | nil =>
    simp only [execOps] at h
    cases h
    have : is = [] := by simpa using his
    subst this
    exact ⟨φ, w, a, cs, .normal, rfl, r, Trans.refl _ _ _, hfr, hcs, .one step_region_end⟩
  | cons o rest =>
    cases is with
    | nil => simp at his
    | cons i is =>
      simp only [List.map_cons, List.cons.injEq] at his
      obtain ⟨ho, his⟩ := his
      simp only [execOps] at h
      have hwr : ∀ t, aWanted ops fr.tmps o = some t → Region.wanted o (yielded ops a.tmps) = t := fun t ht => wanted_rel (fun d _ _ _ _ => hfr.tmps d) ht
      split at h
      · rename_i hw
        have hw := hwr _ hw
        split at h
        · rename_i v ds p σ1 hs
          split at h
          · rename_i fr1 hput
            have n1 := stepOp_next hs
            have n2 := execOps_next h
            obtain ⟨φ1, w1, ds1, cs1, v1, s1, q1, q2, q3, q4, q5⟩ := (hS _ _ _ _ _).1 _ _ _ _ hs φ w a ops i is k b cs0 cs ho hw r (evalO_rel hfr.tmps) hfr.ds hcs (hf.sub (Nat.le_refl _) n2)
            have hfr1 : FrRel φ1 { fr with defers := ds, par := p } { a with defers := ds1 } := ⟨hfr.size, fun t => (hfr.tmps t).mono q2.le, q4⟩
            have hp : fr1.par = p := by
              unfold Fr.put at hput
              split at hput
              · cases hput; rfl
              · rename_i d _; cases hb : Nat.blt d fr.n <;> simp [hb] at hput; rw [← hput]
            exact (hO ops rest fr1 σ1 e fr' σ' h is his φ1 w1 _ b k cs0 cs1 q1 (hfr1.put hput q3) (by rw [hp]; exact q5) (hf.after q2)).of_steps s1 q2
          · cases h
        · rename_i ch σ1 hs
          cases h
          obtain ⟨φ1, w1, ch1, s1, q1, q2, q3⟩ := (hS _ _ _ _ _).2 _ _ hs φ w a ops i is k b cs ho hw r (evalO_rel hfr.tmps) hf
          exact ⟨φ1, w1, a, cs, .panic ch1, ⟨ch1, rfl, q3⟩, q1, q2, hfr.mono q2.le, hcs.mono q2.le, _, s1⟩
        · cases h
      · rename_i hw
        have hw := hwr _ hw
        split at h
        · rename_i fr1 hput
          have hp : fr1.par = fr.par := by
            unfold Fr.put at hput
            split at hput
            · cases hput; rfl
            · rename_i d _; cases hb : Nat.blt d fr.n <;> simp [hb] at hput; rw [← hput]
          exact (hO ops rest fr1 σ e fr' σ' h is his φ w _ b k cs0 cs r (hfr.put hput (undef_rel φ)) (by rw [hp]; exact hcs) hf).of_steps (.one (op_unwanted ho hw)) (Trans.refl _ _ _)
        · cases h
      · cases h

/-- What is asked of a region whose order is drawn. -/
def SDr [Syms] (P : Program) (E : Env) (n : Nat) : Prop :=
  ∀ (id : Nat) (ops : Array Oper) (fr : Fr) (σ : St) (e : AEx) (fr' : Fr) (σ' : St), exec P E n (.region id ops true) fr σ = .done e fr' σ' → regionOk ops.toList = true →
    ∀ (φ : Phi) (w : World) (a : Act) (b : Frame) (k : List Item) (cs0 cs : List Frame), Rel φ σ w.heap → FrRel φ fr a → CsRel φ b.kind fr.par cs0 cs → Fresh φ σ.next σ'.next →
      Ends P φ σ w b.kind cs0 (lone (b.at a (.code (.region id ops true) :: k)) cs w) b k e fr' σ'

theorem Ends.pass [Syms] {φ : Phi} {σ : St} {w : World} {kind : CallKind} {cs0 : List Frame} {m : Machine} {b : Frame} {x : Item} {k : List Item} {e : AEx} {fr' : Fr} {σ' : St} (hx : x.plain = true) (he : e ≠ .normal) (h : Ends P φ σ w kind cs0 m b (x :: k) e fr' σ') :
    Ends P φ σ w kind cs0 m b k e fr' σ' := by
  obtain ⟨φ', w', a', cs', e', h1, h2, h3, h4, h5, h6⟩ := h
  refine ⟨φ', w', a', cs', e', h1, h2, h3, h4, h5, .pass hx (fun _ _ => .inl ?_) h6⟩
  cases e with
  | normal => exact absurd rfl he
  | exit i => simp only [ExRel] at h1; subst h1; simp
  | ret => simp only [ExRel] at h1; subst h1; simp
  | panic ch => obtain ⟨ch', rfl, _⟩ := h1; simp

theorem Ends.normal [Syms] {φ : Phi} {σ : St} {w : World} {kind : CallKind} {cs0 : List Frame} {m : Machine} {b : Frame} {k : List Item} {fr' : Fr} {σ' : St} (h : Ends P φ σ w kind cs0 m b k .normal fr' σ') :
    ∃ φ' w' a' cs', Steps P m (lone (b.at a' k) cs' w') ∧ Rel φ' σ' w'.heap ∧ Trans φ σ w φ' σ' w' ∧ FrRel φ' fr' a' ∧ CsRel φ' kind fr'.par cs0 cs' := by
  obtain ⟨φ', w', a', cs', e', h1, h2, h3, h4, h5, h6⟩ := h
  simp only [ExRel] at h1
  subst h1
  exact ⟨φ', w', a', cs', h6, h2, h3, h4, h5⟩

theorem range_map [Syms] (ops : Array Oper) : (List.range ops.size).map (ops[·]?) = ops.toList.map some := by
  apply List.ext_getElem?
  intro i
  by_cases hi : i < ops.size
  · simp [hi]
  · simp [hi]

theorem sound_exec [Syms] (hE : EnvOk P E) (n : Nat) (hO : SO P E n) (hX : SE P E n) (hD : SDr P E (n + 1)) : SE P E (n + 1) := by
  intro c fr σ e fr' σ' h hc φ w a b k cs0 cs r hfr hcs hf
  have h0 := h
  unfold exec at h
  split at h
  · cases h
    exact ⟨⟨φ, w, a, cs, .normal, rfl, r, Trans.refl _ _ _, hfr, hcs, .one step_skip⟩, fun c' hc' => by cases hc'⟩
  · rename_i id ops
    refine ⟨?_, fun c' hc' => by cases hc'⟩
    exact (hO ops ops.toList fr σ e fr' σ' h (List.range ops.size) (range_map ops) φ w a b k cs0 cs r hfr hcs hf).of_steps (.one step_region) (Trans.refl _ _ _)
  · rename_i id ops
    refine ⟨?_, fun c' hc' => by cases hc'⟩
    exact hD id ops fr σ e fr' σ' h0 (by simpa [codeOk] using hc) φ w a b k cs0 cs r hfr hcs hf
  · rename_i x y
    refine ⟨?_, fun c' hc' => by cases hc'⟩
    simp only [codeOk, Bool.and_eq_true] at hc
    split at h
    · rename_i fr1 σ1 h1
      have n1 := exec_next h1
      have n2 := exec_next h
      obtain ⟨φ1, w1, a1, cs1, s1, q1, q2, q3, q4⟩ := ((hX x fr σ .normal fr1 σ1 h1 hc.1 φ w a b (.code y :: k) cs0 cs r hfr hcs (hf.sub (Nat.le_refl _) n2)).1).normal
      exact ((hX y fr1 σ1 e fr' σ' h hc.2 φ1 w1 a1 b k cs0 cs1 q1 q3 q4 (hf.after q2)).1).of_steps (.head step_seq s1) q2
    · rename_i hne
      have hne' : e ≠ .normal := fun he => hne fr' σ' (by rw [h, he])
      exact (((hX x fr σ e fr' σ' h hc.1 φ w a b (.code y :: k) cs0 cs r hfr hcs hf).1).pass (x := .code y) rfl hne').of_steps (.one step_seq) (Trans.refl _ _ _)
  · rename_i cnd x y
    refine ⟨?_, fun c' hc' => by cases hc'⟩
    simp only [codeOk, Bool.and_eq_true] at hc
    have hcv := evalO_rel hfr.tmps cnd
    split at h
    · rename_i hv
      rw [hv] at hcv
      simp only [Vrel] at hcv
      exact ((hX x fr σ e fr' σ' h hc.1 φ w a b k cs0 cs r hfr hcs hf).1).of_steps (.one (by simpa using step_cond (x := x) (y := y) hcv)) (Trans.refl _ _ _)
    · rename_i hv
      rw [hv] at hcv
      simp only [Vrel] at hcv
      exact ((hX y fr σ e fr' σ' h hc.2 φ w a b k cs0 cs r hfr hcs hf).1).of_steps (.one (by simpa using step_cond (x := x) (y := y) hcv)) (Trans.refl _ _ _)
    · cases h
  · rename_i id x
    refine ⟨?_, fun c' hc' => by cases hc'⟩
    simp only [codeOk] at hc
    split at h
    · rename_i i fr1 σ1 h1
      have hgo : ∀ e0, (bif Nat.beq i id then Res.done .normal fr1 σ1 else .done (.exit i) fr1 σ1) = .done e0 fr' σ' → fr1 = fr' ∧ σ1 = σ' := by
        intro e0 he; cases hb : Nat.beq i id <;> rw [hb] at he <;> cases he <;> exact ⟨rfl, rfl⟩
      obtain ⟨rfl, rfl⟩ := hgo e h
      obtain ⟨φ1, w1, a1, cs1, e1, q0, q1, q2, q3, q4, q5⟩ := (hX x fr σ (.exit i) fr1 σ1 h1 hc φ w a b (.inBlock id :: k) cs0 cs r hfr hcs hf).1
      simp only [ExRel] at q0
      subst q0
      cases hb : Nat.beq i id with
      | true =>
        rw [hb] at h
        cases h
        have := of_beqT hb
        subst this
        exact ⟨φ1, w1, a1, cs1, .normal, rfl, q1, q2, q3, q4, .head step_block (q5 k (by simp [exitTo]))⟩
      | false =>
        rw [hb] at h
        cases h
        have hne : (id == i) = false := by
          have : id ≠ i := fun e => by subst e; rw [Nat.beq_refl] at hb; cases hb
          simpa using this
        exact ⟨φ1, w1, a1, cs1, .exit i, rfl, q1, q2, q3, q4, fun k' hk => .head step_block (q5 k' (by simp [exitTo, hne, hk]))⟩
    · rename_i hne
      obtain ⟨φ1, w1, a1, cs1, e1, q0, q1, q2, q3, q4, q5⟩ := (hX x fr σ e fr' σ' h hc φ w a b (.inBlock id :: k) cs0 cs r hfr hcs hf).1
      cases e with
      | normal =>
        simp only [ExRel] at q0; subst q0
        exact ⟨φ1, w1, a1, cs1, .normal, rfl, q1, q2, q3, q4, .head step_block (Steps.trans q5 (.one step_inBlock))⟩
      | exit i => exact absurd h (hne i fr' σ')
      | ret =>
        simp only [ExRel] at q0; subst q0
        exact ⟨φ1, w1, a1, cs1, .ret, rfl, q1, q2, q3, q4, .of_steps (.one step_block) q5⟩
      | panic ch =>
        obtain ⟨ch', rfl, q0⟩ := q0
        exact ⟨φ1, w1, a1, cs1, .panic ch', ⟨ch', rfl, q0⟩, q1, q2, q3, q4, .of_steps (.one step_block) q5⟩
  · rename_i x
    simp only [codeOk] at hc
    have inner : Ends P φ σ w b.kind cs0 (lone (b.at a (.code x :: .inLoop x :: k)) cs w) b k e fr' σ' := by
      split at h
      · rename_i fr1 σ1 h1
        have n1 := exec_next h1
        have n2 := exec_next h
        obtain ⟨φ1, w1, a1, cs1, s1, q1, q2, q3, q4⟩ := ((hX x fr σ .normal fr1 σ1 h1 hc φ w a b (.inLoop x :: k) cs0 cs r hfr hcs (hf.sub (Nat.le_refl _) n2)).1).normal
        exact ((hX (.loop x) fr1 σ1 e fr' σ' h (by simpa [codeOk] using hc) φ1 w1 a1 b k cs0 cs1 q1 q3 q4 (hf.after q2)).2 x rfl).of_steps (s1.trans (.one step_inLoop)) q2
      · rename_i hne
        have hne' : e ≠ .normal := fun he => hne fr' σ' (by rw [h, he])
        exact ((hX x fr σ e fr' σ' h hc φ w a b (.inLoop x :: k) cs0 cs r hfr hcs hf).1).pass (x := .inLoop x) rfl hne'
    exact ⟨inner.of_steps (.one step_loop) (Trans.refl _ _ _), fun c' hc' => by cases hc'; exact inner⟩
  · cases h
    exact ⟨⟨φ, w, a, cs, _, rfl, r, Trans.refl _ _ _, hfr, hcs, fun _ hk => .one (step_exit hk)⟩, fun c' hc' => by cases hc'⟩
  · cases h
    exact ⟨⟨φ, w, a, cs, _, rfl, r, Trans.refl _ _ _, hfr, hcs, _, .one step_ret⟩, fun c' hc' => by cases hc'⟩
  · cases h

end Go.Ab
