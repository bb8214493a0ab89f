/- The machine's steps that the soundness proof takes; frames, chains, callers against the abstract ones. -/
import Derived.Test.YtglelglhogfnfaaGreatAbOp
import Derived.AtR
import Derived.Recover
namespace Go.Ab

variable {P : Program} {E : Env}

/-! ## Chains, modes, deferred calls, frames, callers -/

def ChRel [Syms] (φ : Phi) : List PanicEntry → List PanicEntry → Prop
  | [], l => l = []
  | e :: es, l => ∃ e' es', l = e' :: es' ∧ Vrel φ e.v e'.v ∧ e'.recovered = e.recovered ∧ e'.goexit = e.goexit ∧ ChRel φ es es'

def MRel [Syms] (φ : Phi) : FrameMode → FrameMode → Prop
  | .run, m => m = .run
  | .returning, m => m = .returning
  | .panicking ch, m => ∃ ch', m = .panicking ch' ∧ ChRel φ ch ch'

def DsRel [Syms] (φ : Phi) : List Deferred → List Deferred → Prop
  | [], l => l = []
  | d :: ds, l => ∃ d' ds', l = d' :: ds' ∧ DRel φ d d' ∧ DsRel φ ds ds'

theorem ChRel.mono [Syms] {φ φ' : Phi} (h : PLe φ φ') : ∀ {a b : List PanicEntry}, ChRel φ a b → ChRel φ' a b
  | [], _, r => r
  | e :: es, _, r => by obtain ⟨e', es', h0, h1, h2, h3, h4⟩ := r; exact ⟨e', es', h0, h1.mono h, h2, h3, h4.mono h⟩
theorem MRel.mono [Syms] {φ φ' : Phi} (h : PLe φ φ') : ∀ {a b : FrameMode}, MRel φ a b → MRel φ' a b
  | .run, _, r => r
  | .returning, _, r => r
  | .panicking ch, _, r => by obtain ⟨ch', h0, h1⟩ := r; exact ⟨ch', h0, h1.mono h⟩
theorem DRel.mono [Syms] {φ φ' : Phi} (h : PLe φ φ') {a b : Deferred} (r : DRel φ a b) : DRel φ' a b := by
  rcases r with ⟨f, c, c', h1, h2, h3, h4⟩ | ⟨i, i', h1, h2, h3⟩
  · exact .inl ⟨f, c, c', h1, h2, h3.mono h, h4.mono h⟩
  · exact .inr ⟨i, i', h1, h2, h3.mono h⟩
theorem DsRel.mono [Syms] {φ φ' : Phi} (h : PLe φ φ') : ∀ {a b : List Deferred}, DsRel φ a b → DsRel φ' a b
  | [], _, r => r
  | e :: es, _, r => by obtain ⟨e', es', h0, h1, h4⟩ := r; exact ⟨e', es', h0, h1.mono h, h4.mono h⟩

theorem ChRel.append [Syms] {φ : Phi} : ∀ {a a' b b' : List PanicEntry}, ChRel φ a a' → ChRel φ b b' → ChRel φ (a ++ b) (a' ++ b')
  | [], _, b, b', h, k => by simp only [ChRel] at h; subst h; exact k
  | e :: es, _, b, b', h, k => by
    obtain ⟨e', es', rfl, h1, h2, h3, h4⟩ := h
    exact ⟨e', es' ++ b', rfl, h1, h2, h3, h4.append k⟩

structure FrRel [Syms] (φ : Phi) (fr : Fr) (a : Act) : Prop where
  size : a.tmps.size = fr.n
  tmps : ∀ t, Vrel φ ((fr.tmps.get t).getD undef) (a.tmps.getD t undef)
  ds : DsRel φ fr.defers a.defers

theorem FrRel.mono [Syms] {φ φ' : Phi} (h : PLe φ φ') {fr : Fr} {a : Act} (r : FrRel φ fr a) : FrRel φ' fr a := ⟨r.size, fun t => (r.tmps t).mono h, r.ds.mono h⟩

theorem undef_rel [Syms] (φ : Phi) : Vrel φ undef undef := by simp [undef, Vrel, VrelA, VrelL]

theorem evalO_rel [Syms] {φ : Phi} {τ : Tr Value} {a : Act} (h : ∀ t, Vrel φ ((τ.get t).getD undef) (a.tmps.getD t undef)) (x : Operand) : Vrel φ (evalO τ x) (a.eval x) := by
  cases x with
  | tmp t => exact h t
  | const v =>
    simp only [evalO, Act.eval]
    split
    · simp [Vrel]
    · simp [Vrel]
    · cases hc : closed v with
      | true => simp only [cond_true]; exact Vrel.closed_refl φ v hc
      | false => simp only [cond_false]; simp [poison, Vrel]
  | global g => simp [evalO, poison, Vrel]
  | func f => simp only [evalO, Act.eval]; exact Vrel.closed_refl φ _ (by simp [closed, closedA, closedL])

theorem FrRel.put [Syms] {φ : Phi} {fr fr' : Fr} {a : Act} (r : FrRel φ fr a) {dst : Option Nat} {v v' : Value} (h : fr.put dst v = some fr') (hv : Vrel φ v v') : FrRel φ fr' (a.put dst v') := by
  unfold Fr.put at h
  cases dst with
  | none => simp only [Option.some.injEq] at h; subst h; exact r
  | some d =>
    cases hb : Nat.blt d fr.n with
    | false => simp only [hb, cond_false] at h; cases h
    | true =>
      simp only [hb, cond_true, Option.some.injEq] at h
      have hlt := of_bltT hb
      subst h
      refine ⟨by simp [Act.put, r.size], fun t => ?_, r.ds⟩
      simp only [Act.put, Tr.get_set]
      have hsz : d < a.tmps.size := by rw [r.size]; exact hlt
      by_cases ht : t = d
      · subst ht
        simp only [if_true, Option.getD_some]
        rw [Array.getD_eq_getD_getElem?]
        simp [hsz, hv]
      · simp only [ht, if_false]
        have := r.tmps t
        rw [Array.getD_eq_getD_getElem?] at this ⊢
        rw [Array.getElem?_setIfInBounds_ne (by omega)]
        exact this

/-- What a call's kind is, and the loop of which its frame is a round. -/
abbrev KR := CallKind × Option Nat
def _root_.Go.Frame.kr (b : Frame) : KR := (b.kind, b.roundOf)

/-- How a frame's callers may lie. A round's frame bears 'run' for what lies below. -/
def CsRel [Syms] (φ : Phi) (kr : KR) (par : Option FrameMode) (cs0 cs : List Frame) : Prop :=
  match kr with
  | (.normal, none) => par = none ∧ cs = cs0
  | (.normal, some _) => par = some .run ∧ cs = cs0
  | (.deferred, none) => ∃ c0 rest u u', cs0 = c0 :: rest ∧ cs = { c0 with mode := u' } :: rest ∧ par = some u ∧ u ≠ .run ∧ MRel φ u u'
  | _ => False

theorem CsRel.mono [Syms] {φ φ' : Phi} (h : PLe φ φ') {kind : KR} {par : Option FrameMode} {cs0 cs : List Frame} (r : CsRel φ kind par cs0 cs) : CsRel φ' kind par cs0 cs := by
  obtain ⟨kind, ro⟩ := kind
  cases kind with
  | normal => cases ro <;> exact r
  | deferred =>
    cases ro with
    | none => obtain ⟨c0, rest, u, u', h1, h2, h3, h5, h4⟩ := r; exact ⟨c0, rest, u, u', h1, h2, h3, h5, h4.mono h⟩
    | some l => exact r.elim
  | _ => cases ro <;> exact r.elim

theorem Rel.clean [Syms] {φ : Phi} {σ : St} {h : Array Obj} (r : Rel φ σ h) : Rel φ σ.clean h := ⟨r.blocks, r.inj, r.bound, r.ids⟩
theorem Trans.clean [Syms] {φ φ' : Phi} {σ σ' : St} {w w' : World} (h : Trans φ σ w φ' σ' w') : Trans φ σ w φ' σ'.clean w' :=
  ⟨h.next, h.le, h.keep, h.out, h.frame, h.fresh, h.size, h.tape, h.os, h.output, h.quiet⟩

theorem wanted_rel [Syms] {φ : Phi} {ops : Array Oper} {τ : Tr Value} {a : Act} {o : Oper} {t : Bool} (h : ∀ d, (∀ j w, o.guard = some (j, w) → (ops.toList[j]?).bind (·.dst) = some d → Vrel φ ((τ.get d).getD undef) (a.tmps.getD d undef))) (hw : aWanted ops τ o = some t) :
    Region.wanted o (yielded ops a.tmps) = t := by
  unfold aWanted at hw
  unfold Region.wanted
  split at hw
  · rename_i hg
    simp only [hg]
    simpa using hw.symm
  · rename_i j want hg
    simp only [hg]
    have hj : (ops.toList[j]?).bind (·.dst) = (ops[j]?).bind (·.dst) := by rw [Array.getElem?_toList]
    have hy : yielded ops a.tmps j = match ((ops[j]?).bind (·.dst)).bind (a.tmps[·]?) with | some (.bool b) => some b | _ => none := rfl
    split at hw
    · rename_i d hd
      have hr := h d j want hg hd
      rw [hj] at hd
      rw [hd] at hy
      simp only [Option.bind_some] at hy
      rw [Array.getD_eq_getD_getElem?] at hr
      split at hw
      · rename_i b hb
        rw [hb] at hr
        simp only [Option.getD_some, Vrel] at hr
        have : a.tmps[d]? = some (.bool b) := by
          cases hq : a.tmps[d]? with
          | none => rw [hq] at hr; simp [undef] at hr
          | some q => rw [hq] at hr; simp only [Option.getD_some] at hr; rw [hr]
        rw [this] at hy
        rw [hy]
        simp only [Option.some.injEq] at hw
        subst hw
        simp
      · cases hw
      · rename_i hn1 hn2
        simp only [Option.some.injEq] at hw
        subst hw
        have : yielded ops a.tmps j = none := by
          rw [hy]
          cases hq : a.tmps[d]? with
          | none => rfl
          | some q =>
            rw [hq] at hr
            simp only [Option.getD_some] at hr
            cases q with
            | bool b =>
              exfalso
              cases hg2 : τ.get d with
              | none => rw [hg2] at hr; simp [undef, Vrel] at hr
              | some v =>
                rw [hg2] at hr
                simp only [Option.getD_some] at hr
                cases v with
                | bool b' => exact hn1 _ hg2
                | complex => exact hn2 _ _ _ hg2
                | pointer x => cases x <;> simp [Vrel] at hr
                | slice x => cases x <;> simp [Vrel] at hr
                | map x => cases x <;> simp [Vrel] at hr
                | chan x => cases x <;> simp [Vrel] at hr
                | _ => simp [Vrel] at hr
            | _ => rfl
        rw [this]
        simp
    · rename_i hd
      rw [hj] at hd
      rw [hd] at hy
      simp only [Option.bind_none] at hy
      rw [hy]
      simp only [Option.some.injEq] at hw
      subst hw
      simp

/-! ## The machine's steps at one operation -/

section
variable {b : Frame} {a : Act} {k : List Item} {cs : List Frame} {w w' : World} {ops : Array Oper} {i : Nat} {rest : List Nat} {o : Oper}

theorem fin_at [Syms] (ho : ops[i]? = some o) (v : Value) : (b.atR a (.inRegion ops (i :: rest) :: k)).finish v = b.atR (a.put o.dst v) (.inRegion ops rest :: k) := by
  rw [Frame.finish_atR, ho]; rfl

theorem stepG_op' [Syms] (ho : ops[i]? = some o) (hw : Region.wanted o (yielded ops a.tmps) = true) (hs : ∀ ρ, o.semAt b.roundOf ρ = execOp ρ o) :
    stepG P true { frame := b.atR a (.inRegion ops (i :: rest) :: k), callers := cs, status := .running, dying := none } w =
      stepG.apply P true (b.atR a (.inRegion ops (i :: rest) :: k)) cs none (execOp a.eval o) w := by
  rw [stepGR_op ho hw, hs]

theorem op_value [Syms] (ho : ops[i]? = some o) (hw : Region.wanted o (yielded ops a.tmps) = true) (hs : ∀ ρ, o.semAt b.roundOf ρ = execOp ρ o) {v : Value} (hr : (execOp a.eval o).run P w = .ok (.value v) w') :
    step P (lone (b.atR a (.inRegion ops (i :: rest) :: k)) cs w) = .next (lone (b.atR (a.put o.dst v) (.inRegion ops rest :: k)) cs w') := by
  have hg := stepG_op' (P := P) (b := b) (k := k) (cs := cs) (w := w) (rest := rest) ho hw hs
  refine step_lone_go ?_
  rw [hg, ← fin_at ho]; simp [stepG.apply, hr]

theorem op_skip [Syms] (ho : ops[i]? = some o) (hw : Region.wanted o (yielded ops a.tmps) = true) (hs : ∀ ρ, o.semAt b.roundOf ρ = execOp ρ o) (hr : (execOp a.eval o).run P w = .ok .skip w') :
    step P (lone (b.atR a (.inRegion ops (i :: rest) :: k)) cs w) = .next (lone (b.atR (a.put o.dst undef) (.inRegion ops rest :: k)) cs w') := by
  have hg := stepG_op' (P := P) (b := b) (k := k) (cs := cs) (w := w) (rest := rest) ho hw hs
  refine step_lone_go ?_
  rw [hg, ← fin_at ho]; simp [stepG.apply, hr]

theorem op_defer [Syms] (ho : ops[i]? = some o) (hw : Region.wanted o (yielded ops a.tmps) = true) (hs : ∀ ρ, o.semAt b.roundOf ρ = execOp ρ o) {d : Deferred} (hr : (execOp a.eval o).run P w = .ok (.defer d) w') :
    step P (lone (b.atR a (.inRegion ops (i :: rest) :: k)) cs w) = .next (lone (b.atR ({ a with defers := d :: a.defers }.put o.dst undef) (.inRegion ops rest :: k)) cs w') := by
  have hg := stepG_op' (P := P) (b := b) (k := k) (cs := cs) (w := w) (rest := rest) ho hw hs
  refine step_lone_go ?_
  have : ({ b.atR a (.inRegion ops (i :: rest) :: k) with defers := d :: a.defers } : Frame).finish undef = b.atR ({ a with defers := d :: a.defers }.put o.dst undef) (.inRegion ops rest :: k) := by
    have := Frame.finish_atR b { a with defers := d :: a.defers } ops i rest k undef
    rw [ho] at this; exact this
  rw [hg]; simp only [stepG.apply, Sem.runT_eq, hr, GStep.bare_after]
  exact congrArg (fun fr => GStep.go { frame := fr, callers := cs, status := .running, dying := none } w') this

theorem op_enter [Syms] (ho : ops[i]? = some o) (hw : Region.wanted o (yielded ops a.tmps) = true) (hs : ∀ ρ, o.semAt b.roundOf ρ = execOp ρ o) {f : FuncId} {args : Array Value} (hr : (execOp a.eval o).run P w = .ok (.enter f args) w') :
    step P (lone (b.atR a (.inRegion ops (i :: rest) :: k)) cs w) = .next (lone (Frame.enter P f args .normal) (b.atR a (.inRegion ops (i :: rest) :: k) :: cs) w') := by
  have hg := stepG_op' (P := P) (b := b) (k := k) (cs := cs) (w := w) (rest := rest) ho hw hs
  exact step_lone_go (by rw [hg]; simp [stepG.apply, hr, Frame.atR])

theorem op_panic [Syms] (ho : ops[i]? = some o) (hw : Region.wanted o (yielded ops a.tmps) = true) (hs : ∀ ρ, o.semAt b.roundOf ρ = execOp ρ o) {v : Value} (hr : (execOp a.eval o).run P w = .halt (.panic v) w') :
    step P (lone (b.atR a (.inRegion ops (i :: rest) :: k)) cs w) = .next (lone { b.atR a (.inRegion ops (i :: rest) :: k) with mode := .panicking [{ v, recovered := false }] } cs w') := by
  have hg := stepG_op' (P := P) (b := b) (k := k) (cs := cs) (w := w) (rest := rest) ho hw hs
  refine step_lone_go ?_
  rw [hg, ← Frame.raise_atR]; simp [stepG.apply, hr]

theorem op_recover_some [Syms] (ho : ops[i]? = some o) (hw : Region.wanted o (yielded ops a.tmps) = true) (hs : ∀ ρ, o.semAt b.roundOf ρ = execOp ρ o) (hk : b.kind = .deferred) (hro : b.roundOf = none) {v : Value} {cs' : List Frame} (hr : (execOp a.eval o).run P w = .ok .recover w') (hrec : recoverD cs = some (v, cs')) :
    step P (lone (b.atR a (.inRegion ops (i :: rest) :: k)) cs w) = .next (lone (b.atR (a.put o.dst v) (.inRegion ops rest :: k)) cs' w') := by
  have hg := stepG_op' (P := P) (b := b) (k := k) (cs := cs) (w := w) (rest := rest) ho hw hs
  have hkk : (b.atR a (.inRegion ops (i :: rest) :: k)).kind = .deferred := hk
  have htr := tryRecover_deferred hkk cs
  refine step_lone_go ?_
  rw [hg, ← fin_at ho]
  simp only [Frame.atR, hro] at htr ⊢
  simp [stepG.apply, hr, htr, hrec]

theorem op_recover_none [Syms] (ho : ops[i]? = some o) (hw : Region.wanted o (yielded ops a.tmps) = true) (hs : ∀ ρ, o.semAt b.roundOf ρ = execOp ρ o) (hk : b.kind = .deferred) (hro : b.roundOf = none) (hr : (execOp a.eval o).run P w = .ok .recover w') (hrec : recoverD cs = none) :
    step P (lone (b.atR a (.inRegion ops (i :: rest) :: k)) cs w) = .next (lone (b.atR (a.put o.dst .nilIface) (.inRegion ops rest :: k)) cs w') := by
  have hg := stepG_op' (P := P) (b := b) (k := k) (cs := cs) (w := w) (rest := rest) ho hw hs
  have hkk : (b.atR a (.inRegion ops (i :: rest) :: k)).kind = .deferred := hk
  have htr := tryRecover_deferred hkk cs
  refine step_lone_go ?_
  rw [hg, ← fin_at ho]
  simp only [Frame.atR, hro] at htr ⊢
  simp [stepG.apply, hr, htr, hrec]

theorem op_recover_normal [Syms] (ho : ops[i]? = some o) (hw : Region.wanted o (yielded ops a.tmps) = true) (hs : ∀ ρ, o.semAt b.roundOf ρ = execOp ρ o) (hk : b.kind = .normal) (hro : b.roundOf = none) (hr : (execOp a.eval o).run P w = .ok .recover w') :
    step P (lone (b.atR a (.inRegion ops (i :: rest) :: k)) cs w) = .next (lone (b.atR (a.put o.dst .nilIface) (.inRegion ops rest :: k)) cs w') := by
  have hg := stepG_op' (P := P) (b := b) (k := k) (cs := cs) (w := w) (rest := rest) ho hw hs
  have htr : ∀ fr : Frame, fr.kind = .normal → tryRecover fr cs = none := by
    intro fr hf
    cases cs with
    | nil => simp [tryRecover, hf]
    | cons c rest => simp [tryRecover, hf]
  refine step_lone_go ?_
  rw [hg, ← fin_at ho]
  have h1 := htr (b.atR a (.inRegion ops (i :: rest) :: k)) hk
  simp only [Frame.atR, hro] at h1 ⊢
  simp [stepG.apply, hr, h1]

theorem op_unwanted [Syms] (ho : ops[i]? = some o) (hw : Region.wanted o (yielded ops a.tmps) = false) :
    step P (lone (b.atR a (.inRegion ops (i :: rest) :: k)) cs w) = .next (lone (b.atR (a.put o.dst undef) (.inRegion ops rest :: k)) cs w) := by
  have hs := stepR_op_skip (P := P) (b := b) (a := a) (k := k) (cs := cs) (w := w) (ops := ops) (i := i) (rest := rest) (by simp [ho, hw])
  simpa [ho] using hs

end

theorem recoverP_sound [Syms] {φ : Phi} {par : Option FrameMode} {cs0 cs : List Frame} (h : CsRel φ (.deferred, none) par cs0 cs) :
    (∃ v cs', recoverD cs = some (v, cs') ∧ Vrel φ (recoverP par).1 v ∧ CsRel φ (.deferred, none) (recoverP par).2 cs0 cs') ∨ (recoverD cs = none ∧ (recoverP par).1 = .nilIface ∧ (recoverP par).2 = par) := by
  obtain ⟨c0, rest, u, u', rfl, rfl, rfl, hnr, hm⟩ := h
  unfold recoverP recoverD
  cases u with
  | run => simp only [MRel] at hm; subst hm; exact .inr ⟨rfl, rfl, rfl⟩
  | returning => simp only [MRel] at hm; subst hm; exact .inr ⟨rfl, rfl, rfl⟩
  | panicking ch =>
    obtain ⟨ch', rfl, hch⟩ := hm
    cases ch with
    | nil => simp only [ChRel] at hch; subst hch; exact .inr ⟨rfl, rfl, rfl⟩
    | cons e es =>
      obtain ⟨e', es', rfl, h1, h2, h3, h4⟩ := hch
      obtain ⟨v, rec, ge⟩ := e
      obtain ⟨v', rec', ge'⟩ := e'
      simp only at h1 h2 h3
      subst h2; subst h3
      cases rec' <;> cases ge'
      · refine .inl ⟨v', _, rfl, h1, c0, rest, _, _, rfl, rfl, rfl, (by intro e; cases e), _, rfl, _, _, rfl, h1, rfl, rfl, h4⟩
      · exact .inr ⟨rfl, rfl, rfl⟩
      · exact .inr ⟨rfl, rfl, rfl⟩
      · exact .inr ⟨rfl, rfl, rfl⟩

end Go.Ab
