/- Each quick run that does not fail is a run of the interpreter with enough fuel. -/
import Derived.Test.YtglelglhogfnfaaGreatAbFast2
namespace Go.Ab

variable {P : Program} {E : Env}

/-- What f comes to in the end: r, unless r is a failure. -/
def LimR (f : Nat → Res) (r : Res) : Prop := (∃ w, r = .fail w) ∨ ∃ N, ∀ n, N ≤ n → f n = r
def LimD (f : Nat → DRes) (r : DRes) : Prop := (∃ w, r = .fail w) ∨ ∃ N, ∀ n, N ≤ n → f n = r
def LimC (f : Nat → CRes) (r : CRes) : Prop := (∃ w, r = .fail w) ∨ ∃ N, ∀ n, N ≤ n → f n = r

theorem LimR.fail {f : Nat → Res} (w : String) : LimR f (.fail w) := .inl ⟨w, rfl⟩
theorem LimD.fail {f : Nat → DRes} (w : String) : LimD f (.fail w) := .inl ⟨w, rfl⟩
theorem LimC.fail {f : Nat → CRes} (w : String) : LimC f (.fail w) := .inl ⟨w, rfl⟩
theorem LimR.of {f : Nat → Res} {r : Res} (N : Nat) (h : ∀ n, f (n + N) = r) : LimR f r := .inr ⟨N, fun n hn => by obtain ⟨k, rfl⟩ := Nat.exists_eq_add_of_le hn; rw [Nat.add_comm]; exact h k⟩
theorem LimC.of {f : Nat → CRes} {r : CRes} (N : Nat) (h : ∀ n, f (n + N) = r) : LimC f r := .inr ⟨N, fun n hn => by obtain ⟨k, rfl⟩ := Nat.exists_eq_add_of_le hn; rw [Nat.add_comm]; exact h k⟩

/-- One more of fuel. -/
theorem LimR.step {f g : Nat → Res} {r : Res} (h : LimR f r) (e : ∀ n, f n = r → g (n + 1) = f n) : LimR g r := by
  rcases h with h | ⟨N, h⟩
  · exact .inl h
  · refine .inr ⟨N + 1, fun n hn => ?_⟩
    obtain ⟨k, rfl⟩ : ∃ k, n = k + 1 := ⟨n - 1, by omega⟩
    have := h k (by omega)
    rw [e k this, this]
theorem LimR.mono {f g : Nat → Res} {r : Res} (h : LimR f r) (N : Nat) (e : ∀ n, N ≤ n → g n = f n) : LimR g r := by
  rcases h with h | ⟨M, h⟩
  · exact .inl h
  · exact .inr ⟨N + M, fun n hn => by rw [e n (by omega), h n (by omega)]⟩
theorem LimC.mono {f g : Nat → CRes} {r : CRes} (h : LimC f r) (N : Nat) (e : ∀ n, N ≤ n → g n = f n) : LimC g r := by
  rcases h with h | ⟨M, h⟩
  · exact .inl h
  · exact .inr ⟨N + M, fun n hn => by rw [e n (by omega), h n (by omega)]⟩
theorem LimD.mono {f g : Nat → DRes} {r : DRes} (h : LimD f r) (N : Nat) (e : ∀ n, N ≤ n → g n = f n) : LimD g r := by
  rcases h with h | ⟨M, h⟩
  · exact .inl h
  · exact .inr ⟨N + M, fun n hn => by rw [e n (by omega), h n (by omega)]⟩
/-- Fuel may be shifted. -/
theorem LimR.shift {f : Nat → Res} {r : Res} (h : LimR f r) : LimR (fun n => f (n - 1)) r := by
  rcases h with h | ⟨N, h⟩
  · exact .inl h
  · exact .inr ⟨N + 1, fun n hn => h _ (by omega)⟩
theorem LimC.shift {f : Nat → CRes} {r : CRes} (h : LimC f r) : LimC (fun n => f (n - 1)) r := by
  rcases h with h | ⟨N, h⟩
  · exact .inl h
  · exact .inr ⟨N + 1, fun n hn => h _ (by omega)⟩
theorem LimD.shift {f : Nat → DRes} {r : DRes} (h : LimD f r) : LimD (fun n => f (n - 1)) r := by
  rcases h with h | ⟨N, h⟩
  · exact .inl h
  · exact .inr ⟨N + 1, fun n hn => h _ (by omega)⟩

structure Good (P : Program) (E : Env) (m : Ms) : Prop where
  exec : ∀ c fr σ, LimR (fun n => exec P E n c fr σ) (m.exec c fr σ)
  callF : ∀ f args par σ, LimC (fun n => callF P E n f args par σ) (m.callF f args par σ)
  leave : ∀ fn fr u σ, LimC (fun n => leave P E n fn fr u σ) (m.leave fn fr u σ)

/-! ## Operations -/

/-- What follows an operation. -/
noncomputable def opsNext (P : Program) (E : Env) (n : Nat) (ops : Array Oper) (rest : List Oper) (o : Oper) (fr : Fr) : SRes → Res
  | .val v ds p σ' => match ({ fr with defers := ds, par := p } : Fr).put o.dst v with
    | some fr' => execOps P E n ops rest fr' σ'
    | none => .fail "dst"
  | .panic chain σ' => .done (.panic chain) fr σ'
  | .fail w => .fail w

theorem execOps_cons (n : Nat) (ops : Array Oper) (o : Oper) (rest : List Oper) (fr : Fr) (σ : St) : execOps P E (n + 1) ops (o :: rest) fr σ =
    match aWanted ops fr.tmps o with
    | some true => opsNext P E n ops rest o fr (stepOp P E n (evalO fr.tmps) o fr.defers fr.par σ)
    | some false => match fr.put o.dst undef with
      | some fr' => execOps P E n ops rest fr' σ
      | none => .fail "dst"
    | none => .fail "guard" := by
  rw [execOps.eq_def]
  simp only
  cases aWanted ops fr.tmps o with
  | none => rfl
  | some b =>
    cases b with
    | false => rfl
    | true => cases stepOp P E n (evalO fr.tmps) o fr.defers fr.par σ <;> rfl

theorem fPut_lim {ops : Array Oper} {rest : List Oper} {k : FrK} (hk : ∀ fr σ, LimR (fun n => execOps P E n ops rest fr σ) (k fr σ)) (o : Oper) (v : Value) (fr : Fr) (ds : List Deferred) (p : Option FrameMode) (σ : St) :
    LimR (fun n => opsNext P E n ops rest o fr (.val v ds p σ)) (fPut k o.dst v fr.n fr.tmps ds p σ) := by
  unfold fPut
  cases hd : o.dst with
  | none =>
    refine (hk ⟨fr.n, fr.tmps, ds, p⟩ σ).mono 0 fun n _ => ?_
    simp only [opsNext, hd, Fr.put]
  | some d =>
    show LimR _ (Bool.rec _ _ (Nat.ble (Nat.succ d) fr.n))
    cases hb : Nat.ble (Nat.succ d) fr.n with
    | false => exact LimR.fail _
    | true =>
      refine (hk ⟨fr.n, fr.tmps.set d (some v), ds, p⟩ σ).mono 0 fun n _ => ?_
      have : Nat.blt d fr.n = true := hb
      simp only [opsNext, hd, Fr.put, this, cond_true]

theorem round_lim {m : Ms} (hm : Good P E m) {ρ : Operand → Value} {o : Oper} {l : Nat} {args : List Value} {d : List Deferred} {p : Option FrameMode} {σ : St} (hr : aop P E ρ o σ = .round l args) :
    (∃ w, roundS m l args d p σ (σ.get l) = .fail w) ∨ ∃ N, ∀ n, N ≤ n → stepOp P E n ρ o d p σ = roundS m l args d p σ (σ.get l) := by
  have hstep : ∀ n, stepOp P E (n + 1) ρ o d p σ = match σ.get l with
      | some (.loop L) =>
        match roundFr L args with
        | some fr =>
          match exec P E n L.assign fr σ with
          | .done .normal fr1 σ1 =>
            match begun σ1 l with
            | some σ2 =>
              match exec P E n L.body fr1 σ2 with
              | .done e _ σ3 => roundEnd l d p e σ3
              | .fail w => .fail w
            | none => .fail "round"
          | _ => .fail "assign"
        | none => .fail "round"
      | _ => .fail "round" := fun n => by rw [stepOp.eq_def]; simp only [hr]; rfl
  cases hg : σ.get l with
  | none => exact .inl ⟨_, rfl⟩
  | some bk =>
    cases bk with
    | loop L =>
      show (∃ w, roundF m L.assign L.body l d p σ (roundFr L args) = .fail w) ∨ ∃ N, ∀ n, N ≤ n → stepOp P E n ρ o d p σ = roundF m L.assign L.body l d p σ (roundFr L args)
      cases hfr : roundFr L args with
      | none => exact .inl ⟨_, rfl⟩
      | some fr =>
        show (∃ w, roundA m L.body l d p (m.exec L.assign fr σ) = .fail w) ∨ ∃ N, ∀ n, N ≤ n → stepOp P E n ρ o d p σ = roundA m L.body l d p (m.exec L.assign fr σ)
        rcases hm.exec L.assign fr σ with ⟨w, h⟩ | ⟨N, h⟩
        · rw [h]; exact .inl ⟨_, rfl⟩
        · cases hx : m.exec L.assign fr σ with
          | fail w => exact .inl ⟨_, rfl⟩
          | done e fr1 σ1 =>
            cases e with
            | normal =>
              show (∃ w, roundO m L.body l d p fr1 (begun σ1 l) = .fail w) ∨ ∃ N, ∀ n, N ≤ n → stepOp P E n ρ o d p σ = roundO m L.body l d p fr1 (begun σ1 l)
              cases hb : begun σ1 l with
              | none => exact .inl ⟨_, rfl⟩
              | some σ2 =>
                show (∃ w, roundB l d p (m.exec L.body fr1 σ2) = .fail w) ∨ ∃ N, ∀ n, N ≤ n → stepOp P E n ρ o d p σ = roundB l d p (m.exec L.body fr1 σ2)
                rcases hm.exec L.body fr1 σ2 with ⟨w, h2⟩ | ⟨N2, h2⟩
                · rw [h2]; exact .inl ⟨_, rfl⟩
                · refine .inr ⟨N + N2 + 1, fun n hn => ?_⟩
                  obtain ⟨j, rfl⟩ : ∃ j, n = j + 1 := ⟨n - 1, by omega⟩
                  have e1 : exec P E j L.assign fr σ = _ := h j (by omega)
                  have e2 : exec P E j L.body fr1 σ2 = _ := h2 j (by omega)
                  rw [hstep, hg]
                  simp only [hfr, e1, hx, hb, e2]
                  cases m.exec L.body fr1 σ2 <;> rfl
            | _ => exact .inl ⟨_, rfl⟩
    | _ => exact .inl ⟨_, rfl⟩

theorem fRes_lim {m : Ms} (hm : Good P E m) {ops : Array Oper} {rest : List Oper} {k : FrK} (hk : ∀ fr σ, LimR (fun n => execOps P E n ops rest fr σ) (k fr σ)) (o : Oper) (fr : Fr) (σ : St) :
    LimR (fun n => opsNext P E n ops rest o fr (stepOp P E n (evalO fr.tmps) o fr.defers fr.par σ)) (fRes m k o.dst fr.n fr.tmps fr.defers fr.par σ (opR P E o.op (evalR fr.tmps) σ)) := by
  rw [evalR_eq, opR_eq]
  have one : ∀ s : SRes, (∀ n, stepOp P E (n + 1) (evalO fr.tmps) o fr.defers fr.par σ = s) → ∀ n, 1 ≤ n → stepOp P E n (evalO fr.tmps) o fr.defers fr.par σ = s := fun s h n hn => by
    obtain ⟨j, rfl⟩ : ∃ j, n = j + 1 := ⟨n - 1, by omega⟩
    exact h j
  cases hr : aop P E (evalO fr.tmps) o σ with
  | val v σ' =>
    exact (fPut_lim hk o v fr fr.defers fr.par σ').mono 1 fun n hn => by rw [one (.val v fr.defers fr.par σ'.clean) (fun n => by rw [stepOp.eq_def]; simp only [hr]) n hn]; rfl
  | enter f args σ1 =>
    show LimR _ (fCall k o.dst fr.n fr.tmps fr.defers fr.par (m.callF f args none σ))
    rcases hm.callF f args none σ with ⟨w, h⟩ | ⟨N, h⟩
    · rw [h]; exact LimR.fail w
    · have hs : ∀ n, N + 1 ≤ n → stepOp P E n (evalO fr.tmps) o fr.defers fr.par σ = match m.callF f args none σ with
          | .ret v _ σ' => .val v fr.defers fr.par σ'
          | .panicked chain _ σ' => .panic chain σ'
          | .fail w => .fail w := fun n hn => by
        obtain ⟨j, rfl⟩ : ∃ j, n = j + 1 := ⟨n - 1, by omega⟩
        rw [stepOp.eq_def]
        simp only [hr, h j (by omega)]
        cases m.callF f args none σ <;> rfl
      cases hc : m.callF f args none σ with
      | ret v p' σ' => exact (fPut_lim hk o v fr fr.defers fr.par σ').mono (N + 1) fun n hn => by rw [hs n hn, hc]
      | panicked ch p' σ' => exact .inr ⟨N + 1, fun n hn => by show opsNext P E n ops rest o fr _ = _; rw [hs n hn, hc]; rfl⟩
      | fail w => exact LimR.fail w
  | round l args =>
    show LimR _ (fRound k o.dst fr.n fr.tmps fr.defers fr.par (roundS m l args fr.defers fr.par σ (σ.get l)))
    rcases round_lim (d := fr.defers) (p := fr.par) hm hr with ⟨w, h⟩ | ⟨N, h⟩
    · rw [h]; exact LimR.fail w
    · cases hc : roundS m l args fr.defers fr.par σ (σ.get l) with
      | val v d' p' σ' => exact (fPut_lim hk o v fr d' p' σ').mono N fun n hn => by rw [h n hn, hc]
      | panic ch σ' => exact .inr ⟨N, fun n hn => by show opsNext P E n ops rest o fr _ = _; rw [h n hn, hc]; rfl⟩
      | fail w => exact LimR.fail w
  | defer d σ1 =>
    show LimR _ (bif isRound fr.par then .fail "round" else fPut k o.dst undef fr.n fr.tmps (d :: fr.defers) fr.par σ)
    cases hp : isRound fr.par with
    | true => exact LimR.fail _
    | false => exact (fPut_lim hk o undef fr (d :: fr.defers) fr.par σ).mono 1 fun n hn => by rw [one (.val undef (d :: fr.defers) fr.par σ) (fun n => by rw [stepOp.eq_def]; simp only [hr, hp, cond_false]) n hn]
  | recover σ1 =>
    show LimR _ (bif isRound fr.par then .fail "round" else fPut k o.dst (recoverP fr.par).1 fr.n fr.tmps fr.defers (recoverP fr.par).2 σ)
    cases hp : isRound fr.par with
    | true => exact LimR.fail _
    | false => exact (fPut_lim hk o (recoverP fr.par).1 fr fr.defers (recoverP fr.par).2 σ).mono 1 fun n hn => by rw [one (.val (recoverP fr.par).1 fr.defers (recoverP fr.par).2 σ) (fun n => by rw [stepOp.eq_def]; simp only [hr, hp, cond_false]) n hn]
  | comm a b c =>
    show LimR _ (fComm k o.dst fr.n fr.tmps fr.defers fr.par (aComm σ a b c))
    cases hc : aComm σ a b c with
    | val v σ' => exact (fPut_lim hk o v fr fr.defers fr.par σ').mono 1 fun n hn => by rw [one (.val v fr.defers fr.par σ') (fun n => by rw [stepOp.eq_def]; simp only [hr, hc]) n hn]
    | _ => exact LimR.fail _
  | panic v σ1 => exact .inr ⟨1, fun n hn => by show opsNext P E n ops rest o fr _ = _; rw [one (.panic [{ v, recovered := false }] σ) (fun n => by rw [stepOp.eq_def]; simp only [hr]) n hn]; rfl⟩
  | fail => exact LimR.fail _

theorem fOps_lim {m : Ms} (hm : Good P E m) (ops : Array Oper) : ∀ (l : List Oper) (fr : Fr) (σ : St), LimR (fun n => execOps P E n ops l fr σ) (fOps P E m ops l fr σ)
  | [], fr, σ => LimR.of 1 fun n => by rw [execOps.eq_def]; rfl
  | o :: rest, fr, σ => by
    have hk := fOps_lim hm ops rest
    have hgo := fRes_lim hm hk o fr σ
    have hcons : LimR (fun n => match aWanted ops fr.tmps o with
        | some true => opsNext P E n ops rest o fr (stepOp P E n (evalO fr.tmps) o fr.defers fr.par σ)
        | some false => match fr.put o.dst undef with
          | some fr' => execOps P E n ops rest fr' σ
          | none => .fail "dst"
        | none => .fail "guard") (fOps P E m ops (o :: rest) fr σ) := by
      show LimR _ (fOp P E m ops o (fOps P E m ops rest) fr σ)
      obtain ⟨n0, t, d, p⟩ := fr
      show LimR _ (Option.rec _ _ o.guard)
      cases hg : o.guard with
      | none =>
        have : aWanted ops t o = some true := by simp [aWanted, hg]
        simp only [this]
        exact hgo
      | some g =>
        show LimR _ (fGuard m (fGo P E m o (fOps P E m ops rest)) (fOps P E m ops rest) o.dst n0 t d p σ (aWanted ops t o))
        cases hw : aWanted ops t o with
        | none => exact LimR.fail _
        | some b =>
          cases b with
          | true => exact hgo
          | false =>
            exact (fPut_lim hk o undef ⟨n0, t, d, p⟩ d p σ).mono 0 fun n _ => rfl
    refine hcons.step fun n _ => ?_
    exact execOps_cons n ops o rest fr σ

/-! ## Regions whose order is drawn -/

noncomputable def runMore (P : Program) (E : Env) (n : Nat) (ops : Array Oper) (rest : List Oper) (r : Rec) : Option Fr → DRes
  | some fr' => match runD P E n ops rest fr' r.out (match r.k with | .eff => r.out | _ => r.base) with
    | .all rs fr'' σ'' => .all (r :: rs) fr'' σ''
    | .panic rs ch fr'' σ'' left => .panic (r :: rs) ch fr'' σ'' left
    | .fail w => .fail w
  | none => .fail "dst"

noncomputable def runNext (P : Program) (E : Env) (n : Nat) (ops : Array Oper) (rest : List Oper) (o : Oper) (fr : Fr) (σ base : St) : SRes → DRes
  | .val v ds p σ' => runMore P E n ops rest { o, k := cls o.op, wanted := true, v, tmps := fr.tmps, σ, base, ds := fr.defers, par := fr.par, out := σ', ds' := ds, par' := p } (({ fr with defers := ds, par := p } : Fr).put o.dst v)
  | .panic chain σ' => match cls o.op with
    | .eff => .panic [] chain fr σ' rest
    | _ => .fail "panic"
  | .fail w => .fail w

theorem runD_cons (n : Nat) (ops : Array Oper) (o : Oper) (rest : List Oper) (fr : Fr) (σ base : St) : runD P E (n + 1) ops (o :: rest) fr σ base =
    match aWanted ops fr.tmps o with
    | some true => runNext P E n ops rest o fr σ base (stepOp P E n (evalO fr.tmps) o fr.defers fr.par σ)
    | some false => runMore P E n ops rest { o, k := cls o.op, wanted := false, v := undef, tmps := fr.tmps, σ, base, ds := fr.defers, par := fr.par, out := σ, ds' := fr.defers, par' := fr.par } (fr.put o.dst undef)
    | none => .fail "guard" := by
  rw [runD.eq_def]
  simp only
  cases aWanted ops fr.tmps o with
  | none => rfl
  | some b =>
    cases b with
    | false => cases fr.put o.dst undef <;> rfl
    | true =>
      cases stepOp P E n (evalO fr.tmps) o fr.defers fr.par σ with
      | val v ds p σ' =>
        simp only [runNext]
        cases Fr.put { fr with defers := ds, par := p } o.dst v <;> rfl
      | panic => rfl
      | fail => rfl

theorem dPut_lim {ops : Array Oper} {rest : List Oper} {k : DrK} (hk : ∀ fr σ base, LimD (fun n => runD P E n ops rest fr σ base) (k fr σ base)) (r : Rec) (fr : Fr) :
    LimD (fun n => runMore P E n ops rest r (({ fr with defers := r.ds', par := r.par' } : Fr).put r.o.dst r.v)) (dPut k r fr.n fr.tmps) := by
  have more : ∀ fr' : Fr, LimD (fun n => runMore P E n ops rest r (some fr')) (dMore r (k fr' r.out (match r.k with | .eff => r.out | _ => r.base))) := fun fr' => by
    rcases hk fr' r.out (match r.k with | .eff => r.out | _ => r.base) with ⟨w, h⟩ | ⟨N, h⟩
    · rw [h]; exact LimD.fail w
    · refine .inr ⟨N, fun n hn => ?_⟩
      simp only [runMore]
      have hh := h n hn
      dsimp only at hh
      rw [hh]
      cases k fr' r.out (match r.k with | .eff => r.out | _ => r.base) <;> rfl
  unfold dPut
  cases hd : r.o.dst with
  | none => exact more ⟨fr.n, fr.tmps, r.ds', r.par'⟩
  | some d =>
    show LimD _ (Bool.rec _ _ (Nat.ble (Nat.succ d) fr.n))
    cases hb : Nat.ble (Nat.succ d) fr.n with
    | false => exact LimD.fail _
    | true =>
      refine (more ⟨fr.n, fr.tmps.set d (some r.v), r.ds', r.par'⟩).mono 0 fun n _ => ?_
      have : Nat.blt d fr.n = true := hb
      simp only [Fr.put, this, cond_true]

theorem dRes_lim {m : Ms} (hm : Good P E m) {ops : Array Oper} {rest : List Oper} {k : DrK} (hk : ∀ fr σ base, LimD (fun n => runD P E n ops rest fr σ base) (k fr σ base)) (o : Oper) (fr : Fr) (σ base : St) :
    LimD (fun n => runNext P E n ops rest o fr σ base (stepOp P E n (evalO fr.tmps) o fr.defers fr.par σ)) (dRes m k rest o fr.n fr.tmps fr.defers fr.par σ base (opR P E o.op (evalR fr.tmps) σ)) := by
  rw [evalR_eq, opR_eq]
  have one : ∀ s : SRes, (∀ n, stepOp P E (n + 1) (evalO fr.tmps) o fr.defers fr.par σ = s) → ∀ n, 1 ≤ n → stepOp P E n (evalO fr.tmps) o fr.defers fr.par σ = s := fun s h n hn => by
    obtain ⟨j, rfl⟩ : ∃ j, n = j + 1 := ⟨n - 1, by omega⟩
    exact h j
  have pan : ∀ ch σ', LimD (fun n => runNext P E n ops rest o fr σ base (.panic ch σ')) (dPanic ch fr σ' rest (cls o.op)) := fun ch σ' => by
    refine .inr ⟨0, fun n _ => ?_⟩
    simp only [runNext]
    cases cls o.op <;> rfl
  cases hr : aop P E (evalO fr.tmps) o σ with
  | val v σ' =>
    exact (dPut_lim hk { o, k := cls o.op, wanted := true, v, tmps := fr.tmps, σ, base, ds := fr.defers, par := fr.par, out := σ', ds' := fr.defers, par' := fr.par } fr).mono 1 fun n hn => by
      rw [one (.val v fr.defers fr.par σ'.clean) (fun n => by rw [stepOp.eq_def]; simp only [hr]) n hn]; rfl
  | enter f args σ1 =>
    show LimD _ (dCall k rest o fr.n fr.tmps fr.defers fr.par σ base (m.callF f args none σ))
    rcases hm.callF f args none σ with ⟨w, h⟩ | ⟨N, h⟩
    · rw [h]; exact LimD.fail w
    · have hs : ∀ n, N + 1 ≤ n → stepOp P E n (evalO fr.tmps) o fr.defers fr.par σ = match m.callF f args none σ with
          | .ret v _ σ' => .val v fr.defers fr.par σ'
          | .panicked chain _ σ' => .panic chain σ'
          | .fail w => .fail w := fun n hn => by
        obtain ⟨j, rfl⟩ : ∃ j, n = j + 1 := ⟨n - 1, by omega⟩
        rw [stepOp.eq_def]
        simp only [hr, h j (by omega)]
        cases m.callF f args none σ <;> rfl
      cases hc : m.callF f args none σ with
      | ret v p' σ' =>
        exact (dPut_lim hk { o, k := cls o.op, wanted := true, v, tmps := fr.tmps, σ, base, ds := fr.defers, par := fr.par, out := σ', ds' := fr.defers, par' := fr.par } fr).mono (N + 1) fun n hn => by rw [hs n hn, hc]; rfl
      | panicked ch p' σ' => exact (pan ch σ').mono (N + 1) fun n hn => by rw [hs n hn, hc]
      | fail w => exact LimD.fail w
  | round l args =>
    show LimD _ (dRound k rest o fr.n fr.tmps fr.defers fr.par σ base (roundS m l args fr.defers fr.par σ (σ.get l)))
    rcases round_lim (d := fr.defers) (p := fr.par) hm hr with ⟨w, h⟩ | ⟨N, h⟩
    · rw [h]; exact LimD.fail w
    · cases hc : roundS m l args fr.defers fr.par σ (σ.get l) with
      | val v d' p' σ' =>
        exact (dPut_lim hk { o, k := cls o.op, wanted := true, v, tmps := fr.tmps, σ, base, ds := fr.defers, par := fr.par, out := σ', ds' := d', par' := p' } fr).mono N fun n hn => by rw [h n hn, hc]; rfl
      | panic ch σ' => exact (pan ch σ').mono N fun n hn => by rw [h n hn, hc]
      | fail w => exact LimD.fail w
  | defer d σ1 =>
    show LimD _ (bif isRound fr.par then .fail "round" else dPut k { o, k := cls o.op, wanted := true, v := undef, tmps := fr.tmps, σ, base, ds := fr.defers, par := fr.par, out := σ, ds' := d :: fr.defers, par' := fr.par } fr.n fr.tmps)
    cases hp : isRound fr.par with
    | true => exact LimD.fail _
    | false =>
      exact (dPut_lim hk { o, k := cls o.op, wanted := true, v := undef, tmps := fr.tmps, σ, base, ds := fr.defers, par := fr.par, out := σ, ds' := d :: fr.defers, par' := fr.par } fr).mono 1 fun n hn => by
        rw [one (.val undef (d :: fr.defers) fr.par σ) (fun n => by rw [stepOp.eq_def]; simp only [hr, hp, cond_false]) n hn]; rfl
  | recover σ1 =>
    show LimD _ (bif isRound fr.par then .fail "round" else dPut k { o, k := cls o.op, wanted := true, v := (recoverP fr.par).1, tmps := fr.tmps, σ, base, ds := fr.defers, par := fr.par, out := σ, ds' := fr.defers, par' := (recoverP fr.par).2 } fr.n fr.tmps)
    cases hp : isRound fr.par with
    | true => exact LimD.fail _
    | false =>
      exact (dPut_lim hk { o, k := cls o.op, wanted := true, v := (recoverP fr.par).1, tmps := fr.tmps, σ, base, ds := fr.defers, par := fr.par, out := σ, ds' := fr.defers, par' := (recoverP fr.par).2 } fr).mono 1 fun n hn => by
        rw [one (.val (recoverP fr.par).1 fr.defers (recoverP fr.par).2 σ) (fun n => by rw [stepOp.eq_def]; simp only [hr, hp, cond_false]) n hn]; rfl
  | comm a b c =>
    show LimD _ (dComm k o fr.n fr.tmps fr.defers fr.par σ base (aComm σ a b c))
    cases hc : aComm σ a b c with
    | val v σ' =>
      exact (dPut_lim hk { o, k := cls o.op, wanted := true, v, tmps := fr.tmps, σ, base, ds := fr.defers, par := fr.par, out := σ', ds' := fr.defers, par' := fr.par } fr).mono 1 fun n hn => by
        rw [one (.val v fr.defers fr.par σ') (fun n => by rw [stepOp.eq_def]; simp only [hr, hc]) n hn]; rfl
    | _ => exact LimD.fail _
  | panic v σ1 => exact (pan [{ v, recovered := false }] σ).mono 1 fun n hn => by rw [one (.panic [{ v, recovered := false }] σ) (fun n => by rw [stepOp.eq_def]; simp only [hr]) n hn]
  | fail => exact LimD.fail _

theorem LimD.step {f g : Nat → DRes} {r : DRes} (h : LimD f r) (e : ∀ n, g (n + 1) = f n) : LimD g r := by
  rcases h with h | ⟨N, h⟩
  · exact .inl h
  · refine .inr ⟨N + 1, fun n hn => ?_⟩
    obtain ⟨k, rfl⟩ : ∃ k, n = k + 1 := ⟨n - 1, by omega⟩
    rw [e k, h k (by omega)]

theorem dOps_lim {m : Ms} (hm : Good P E m) (ops : Array Oper) : ∀ (l : List Oper) (fr : Fr) (σ base : St), LimD (fun n => runD P E n ops l fr σ base) (dOps P E m ops l fr σ base)
  | [], fr, σ, base => .inr ⟨1, fun n hn => by
    obtain ⟨k, rfl⟩ : ∃ k, n = k + 1 := ⟨n - 1, by omega⟩
    show runD P E (k + 1) ops [] fr σ base = _
    rw [runD.eq_def]; rfl⟩
  | o :: rest, fr, σ, base => by
    have hk := dOps_lim hm ops rest
    have hgo := dRes_lim hm hk o fr σ base
    refine LimD.step (f := fun n => match aWanted ops fr.tmps o with
        | some true => runNext P E n ops rest o fr σ base (stepOp P E n (evalO fr.tmps) o fr.defers fr.par σ)
        | some false => runMore P E n ops rest { o, k := cls o.op, wanted := false, v := undef, tmps := fr.tmps, σ, base, ds := fr.defers, par := fr.par, out := σ, ds' := fr.defers, par' := fr.par } (fr.put o.dst undef)
        | none => .fail "guard") ?_ fun n => runD_cons n ops o rest fr σ base
    obtain ⟨n0, t, d, p⟩ := fr
    show LimD _ (dOp P E m ops o rest (dOps P E m ops rest) n0 t d p σ base (aWanted ops t o))
    cases hw : aWanted ops t o with
    | none => exact LimD.fail _
    | some b =>
      cases b with
      | true => exact hgo
      | false => exact dPut_lim hk { o, k := cls o.op, wanted := false, v := undef, tmps := t, σ, base, ds := d, par := p, out := σ, ds' := d, par' := p } ⟨n0, t, d, p⟩

/-! ## Code -/

theorem LimR.succ {f g : Nat → Res} {r : Res} (h : LimR f r) (e : ∀ n, g (n + 1) = f n) : LimR g r := h.step fun n _ => e n

def thenR (g : Fr → St → Res) : Res → Res
  | .done .normal fr σ => g fr σ
  | r => r

theorem exec_seq (n : Nat) (a b : Code) (fr : Fr) (σ : St) : exec P E (n + 1) (.seq a b) fr σ = thenR (exec P E n b) (exec P E n a fr σ) := by
  rw [exec.eq_def]
  simp only
  cases exec P E n a fr σ with
  | fail w => rfl
  | done e fr σ => cases e <;> rfl
theorem exec_loop (n : Nat) (a : Code) (fr : Fr) (σ : St) : exec P E (n + 1) (.loop a) fr σ = thenR (exec P E n (.loop a)) (exec P E n a fr σ) := by
  rw [exec.eq_def]
  simp only
  cases exec P E n a fr σ with
  | fail w => rfl
  | done e fr σ => cases e <;> rfl

theorem exec_block (n id : Nat) (a : Code) (fr : Fr) (σ : St) : exec P E (n + 1) (.block id a) fr σ = blockK id (exec P E n a fr σ) := by
  rw [exec.eq_def]
  simp only
  cases exec P E n a fr σ with
  | fail w => rfl
  | done e fr' σ' =>
    cases e with
    | exit i =>
      show (bif Nat.beq i id then Res.done .normal fr' σ' else .done (.exit i) fr' σ') = Bool.rec _ _ (Nat.beq i id)
      cases Nat.beq i id <;> rfl
    | _ => rfl
theorem exec_cond (n : Nat) (x : Operand) (a b : Code) (fr : Fr) (σ : St) : exec P E (n + 1) (.cond x a b) fr σ = condK (exec P E n a) (exec P E n b) fr σ (evalO fr.tmps x) := by
  rw [exec.eq_def]
  simp only
  cases evalO fr.tmps x with
  | bool c => cases c <;> rfl
  | _ => rfl

/-- What follows a call's body. -/
noncomputable def bodyR (P : Program) (E : Env) (n : Nat) (fn : Func) : Res → CRes
  | .done .normal fr σ' => leave P E n fn fr .returning σ'
  | .done .ret fr σ' => leave P E n fn fr .returning σ'
  | .done (.panic ch) fr σ' => leave P E n fn fr (.panicking ch) σ'
  | .done (.exit _) _ _ => .fail "exit"
  | .fail w => .fail w

theorem callB_eq {f : Nat} {fn : Func} {c : Code} (hf : E.func f = some fn) (hb : fn.body = some c) (n : Nat) (args : List Value) (par : Option FrameMode) (σ : St) :
    callB P E n f args par σ = bodyR P E n fn (exec P E n c { n := Nat.max fn.ntmps args.length, tmps := laid args 0 .leaf, defers := [], par } σ) := by
  unfold callB
  simp only [hf, hb]
  cases exec P E n c { n := Nat.max fn.ntmps args.length, tmps := laid args 0 .leaf, defers := [], par } σ with
  | fail w => rfl
  | done e fr σ => cases e <;> rfl

theorem thenK_lim {f : Nat → Res} {r : Res} (h : LimR f r) {k : FrK} {g : Nat → Fr → St → Res} (hk : ∀ fr σ, LimR (fun n => g n fr σ) (k fr σ)) :
    LimR (fun n => thenR (g n) (f n)) (thenK k r) := by
  rcases h with ⟨w, rfl⟩ | ⟨N, h⟩
  · exact LimR.fail w
  · cases r with
    | fail w => exact LimR.fail w
    | done e fr σ =>
      cases e with
      | normal => exact (hk fr σ).mono N fun n hn => by rw [h n hn]; rfl
      | _ => exact .inr ⟨N, fun n hn => by show thenR (g n) (f n) = _; rw [h n hn]; rfl⟩

theorem fExec_lim {m : Ms} (hm : Good P E m) : ∀ (c : Code) (fr : Fr) (σ : St), LimR (fun n => exec P E n c fr σ) (fExec P E m c fr σ)
  | .skip, fr, σ => LimR.of 1 fun n => by rw [exec.eq_def]; rfl
  | .region id ops false, fr, σ => (fOps_lim hm ops ops.toList fr σ).succ fun n => by rw [exec.eq_def]
  | .region id ops true, fr, σ => by
    show LimR _ (drawnEnd P E (bfGo [] ops.toList) (dOps P E m ops ops.toList fr σ σ))
    rcases dOps_lim hm ops ops.toList fr σ σ with ⟨w, h⟩ | ⟨N, h⟩
    · rw [h]; exact LimR.fail w
    · refine .inr ⟨N + 1, fun n hn => ?_⟩
      obtain ⟨k, rfl⟩ : ∃ k, n = k + 1 := ⟨n - 1, by omega⟩
      show exec P E (k + 1) (.region id ops true) fr σ = _
      rw [exec.eq_def]
      simp only
      have hh := h k (by omega)
      dsimp only at hh
      rw [hh]
      cases dOps P E m ops ops.toList fr σ σ <;> rfl
  | .seq a b, fr, σ => (thenK_lim (fExec_lim hm a fr σ) (fExec_lim hm b)).succ fun n => exec_seq n a b fr σ
  | .cond x a b, fr, σ => by
    show LimR _ (condK (fExec P E m a) (fExec P E m b) fr σ (evalR fr.tmps x))
    rw [evalR_eq]
    have hx : ∀ n, exec P E (n + 1) (.cond x a b) fr σ = _ := fun n => exec_cond n x a b fr σ
    unfold condK
    split
    · rename_i c hc
      cases c with
      | true => exact (fExec_lim hm a fr σ).succ fun n => by rw [hx, hc]; rfl
      | false => exact (fExec_lim hm b fr σ).succ fun n => by rw [hx, hc]; rfl
    · exact LimR.fail _
  | .block id a, fr, σ => by
    show LimR _ (blockK id (fExec P E m a fr σ))
    rcases fExec_lim hm a fr σ with ⟨w, h⟩ | ⟨N, h⟩
    · rw [h]; exact LimR.fail w
    · refine .inr ⟨N + 1, fun n hn => ?_⟩
      obtain ⟨k, rfl⟩ : ∃ k, n = k + 1 := ⟨n - 1, by omega⟩
      have hh : exec P E k a fr σ = _ := h k (by omega)
      show exec P E (k + 1) (.block id a) fr σ = _
      rw [exec_block, hh]
  | .loop a, fr, σ => (thenK_lim (fExec_lim hm a fr σ) (hm.exec (.loop a))).succ fun n => exec_loop n a fr σ
  | .rangeFunc g ps as bd, fr, σ => by
    show LimR _ (fRange E m g ps as bd fr σ)
    unfold fRange
    rw [evalR_eq]
    cases hp : isRound fr.par with
    | true => exact LimR.fail _
    | false =>
      show LimR _ (fRangeO m (loopSt σ fr ps as bd) fr σ.next (loopCall E (loopSt σ fr ps as bd) (σ.next + 1) (evalO fr.tmps g)))
      cases hl : loopCall E (loopSt σ fr ps as bd) (σ.next + 1) (evalO fr.tmps g) with
      | enter f args σ1 =>
        show LimR _ (fRangeC fr σ.next (m.callF f args none (loopSt σ fr ps as bd)))
        rcases hm.callF f args none (loopSt σ fr ps as bd) with ⟨w, h⟩ | ⟨N, h⟩
        · rw [h]; exact LimR.fail w
        · refine .inr ⟨N + 1, fun n hn => ?_⟩
          obtain ⟨j, rfl⟩ : ∃ j, n = j + 1 := ⟨n - 1, by omega⟩
          show exec P E (j + 1) (.rangeFunc g ps as bd) fr σ = _
          have e1 : callF P E j f args none (loopSt σ fr ps as bd) = _ := h j (by omega)
          rw [exec.eq_def]
          simp only [hp, cond_false, hl, e1]
          cases m.callF f args none (loopSt σ fr ps as bd) <;> rfl
      | _ => exact LimR.fail _
  | .exit id, fr, σ => LimR.of 1 fun n => by rw [exec.eq_def]; rfl
  | .scope _, fr, σ => LimR.fail _
  | .label _, fr, σ => LimR.fail _
  | .goto _, fr, σ => LimR.fail _
  | .ret, fr, σ => LimR.of 1 fun n => by rw [exec.eq_def]; rfl
  | .refuse _, fr, σ => LimR.fail _

/-! ## Calls -/

theorem LimC.succ {f g : Nat → CRes} {r : CRes} (h : LimC f r) (e : ∀ n, g (n + 1) = f n) : LimC g r := by
  rcases h with h | ⟨N, h⟩
  · exact .inl h
  · refine .inr ⟨N + 1, fun n hn => ?_⟩
    obtain ⟨k, rfl⟩ : ∃ k, n = k + 1 := ⟨n - 1, by omega⟩
    rw [e k, h k (by omega)]

theorem bodyF_lim {m : Ms} (hm : Good P E m) (f : Nat) (args : List Value) (par : Option FrameMode) (σ : St) : LimC (fun n => callB P E n f args par σ) (bodyF m args par σ (E.func f)) := by
  cases hf : E.func f with
  | none => exact LimC.fail _
  | some fn =>
    cases hb : fn.body with
    | none =>
      show LimC _ (bodyC m fn args par σ fn.body)
      rw [hb]; exact LimC.fail _
    | some c =>
      show LimC _ (bodyC m fn args par σ fn.body)
      rw [hb]
      show LimC _ (bodyK m fn (m.exec c ⟨Nat.max fn.ntmps args.length, laid args 0 .leaf, [], par⟩ σ))
      have hx : ∀ n, callB P E n f args par σ = _ := fun n => callB_eq hf hb n args par σ
      rcases hm.exec c ⟨Nat.max fn.ntmps args.length, laid args 0 .leaf, [], par⟩ σ with ⟨w, h⟩ | ⟨N, h⟩
      · rw [h]; exact LimC.fail w
      · cases hr : m.exec c ⟨Nat.max fn.ntmps args.length, laid args 0 .leaf, [], par⟩ σ with
        | fail w => exact LimC.fail w
        | done e fr σ' =>
          rw [hr] at h
          cases e with
          | normal => exact (hm.leave fn fr .returning σ').mono N fun n hn => by rw [hx]; exact congrArg (bodyR P E n fn) (h n hn)
          | ret => exact (hm.leave fn fr .returning σ').mono N fun n hn => by rw [hx]; exact congrArg (bodyR P E n fn) (h n hn)
          | panic ch => exact (hm.leave fn fr (.panicking ch) σ').mono N fun n hn => by rw [hx]; exact congrArg (bodyR P E n fn) (h n hn)
          | exit i => exact LimC.fail _

theorem fCallF_lim {m : Ms} (hm : Good P E m) (f : Nat) (args : List Value) (par : Option FrameMode) (σ : St) : LimC (fun n => callF P E n f args par σ) (fCallF E m f args par σ) := by
  cases par with
  | some u => exact (bodyF_lim hm f args (some u) σ).succ fun n => by rw [callF_succ]
  | none =>
    show LimC _ (sumK E m f args σ (E.sum f args σ))
    cases hs : E.sum f args σ with
    | some v => exact .inr ⟨1, fun n hn => by
        obtain ⟨k, rfl⟩ : ∃ k, n = k + 1 := ⟨n - 1, by omega⟩
        show callF P E (k + 1) f args none σ = _
        rw [callF_succ, hs]; rfl⟩
    | none => exact (bodyF_lim hm f args none σ).succ fun n => by rw [callF_succ, hs]

noncomputable def leaveS (P : Program) (E : Env) (n : Nat) (fn : Func) (fr : Fr) (ds : List Deferred) : CRes → CRes
  | .ret _ (some u') σ'' => leave P E n fn { fr with defers := ds } (settle u') σ''
  | .panicked ch (some u') σ'' => leave P E n fn { fr with defers := ds } (raised u' ch) σ''
  | .fail w => .fail w
  | _ => .fail "par"
noncomputable def leaveT (P : Program) (E : Env) (n : Nat) (fn : Func) (fr : Fr) (ds : List Deferred) (u : FrameMode) (σ : St) : OR → CRes
  | .enter f args _ => leaveS P E n fn fr ds (callF P E n f args (some u) σ)
  | _ => .fail "deferred"

theorem fLeave_lim {m : Ms} (hm : Good P E m) (fn : Func) (fr : Fr) (u : FrameMode) (σ : St) : LimC (fun n => leave P E n fn fr u σ) (fLeave E m fn fr u σ) := by
  unfold fLeave
  cases hd : fr.defers with
  | nil =>
    refine .inr ⟨1, fun n hn => ?_⟩
    obtain ⟨k, rfl⟩ : ∃ k, n = k + 1 := ⟨n - 1, by omega⟩
    show leave P E (k + 1) fn fr u σ = leaveR E fr u σ fn.results.toList
    rw [leave.eq_def]
    simp only [hd]
    cases u with
    | returning =>
      simp only [leaveR]
      cases resultsOf E σ fr.tmps fn.results.toList <;> rfl
    | _ => rfl
  | cons d ds =>
    show LimC _ (leaveD E m fn fr d ds u σ d.target)
    cases hdt : d.target with
    | collected i =>
      show LimC _ (leaveCol m fn fr ds i u σ (σ.get i))
      cases hg : σ.get i with
      | none => exact LimC.fail _
      | some bk =>
        cases bk with
        | dfr b =>
          cases b with
          | true => exact LimC.fail _
          | false =>
            have k2 : (u = .run → False) → LimC (fun n => leave P E n fn fr u σ) (m.leave fn { fr with defers := ds } u (σ.put i (.dfr true))) := fun hu =>
              (hm.leave fn { fr with defers := ds } u (σ.put i (.dfr true))).succ fun n => by
                rw [leave.eq_def]
                simp only [hd, hdt]
                cases u with
                | run => exact absurd rfl hu
                | returning => simp only [hg]
                | panicking ch => simp only [hg]
            cases u with
            | run => exact LimC.fail _
            | returning => exact k2 (fun h => by cases h)
            | panicking ch => exact k2 (fun h => by cases h)
        | _ => exact LimC.fail _
    | nil => show LimC _ (leaveU E m fn fr d ds u σ); unfold leaveU; rw [hdt]; cases u <;> exact LimC.fail _
    | builtin => show LimC _ (leaveU E m fn fr d ds u σ); unfold leaveU; rw [hdt]; cases u <;> exact LimC.fail _
    | coroexit => show LimC _ (leaveU E m fn fr d ds u σ); unfold leaveU; rw [hdt]; cases u <;> exact LimC.fail _
    | fn g c =>
    show LimC _ (leaveU E m fn fr d ds u σ)
    have key : ∀ u, (u = .run → False) → LimC (fun n => leave P E n fn fr u σ) (leaveK m fn fr ds u σ (aTarget E σ d.target d.args.toList)) := by
      rw [hdt]
      intro u hu
      have hx : ∀ n, leave P E (n + 1) fn fr u σ = leaveT P E n fn fr ds u σ (aTarget E σ (.fn g c) d.args.toList) := fun n => by
        rw [leave.eq_def]
        simp only [hd, hdt]
        cases aTarget E σ (.fn g c) d.args.toList with
        | enter f args σ1 =>
          simp only [leaveT, leaveS]
          cases callF P E n f args (some u) σ with
          | ret v p σ => cases p <;> rfl
          | panicked v p σ => cases p <;> rfl
          | fail w => rfl
        | _ => rfl
      cases ht : aTarget E σ (.fn g c) d.args.toList with
      | enter f args σ1 =>
        show LimC _ (leaveC m fn fr ds (m.callF f args (some u) σ))
        rcases hm.callF f args (some u) σ with ⟨w, h⟩ | ⟨N, h⟩
        · rw [h]; exact LimC.fail w
        · have hx' : ∀ n, N ≤ n → leave P E (n + 1) fn fr u σ = leaveS P E n fn fr ds (m.callF f args (some u) σ) := fun n hn => by
            rw [hx n, ht]
            exact congrArg (leaveS P E n fn fr ds) (h n hn)
          cases hc : m.callF f args (some u) σ with
          | ret v p σ' =>
            cases p with
            | none => exact LimC.fail _
            | some u' =>
              refine ((hm.leave fn { fr with defers := ds } (settle u') σ').mono N fun n _ => rfl).shift.mono (N + 1) fun n hn => ?_
              obtain ⟨k, rfl⟩ : ∃ k, n = k + 1 := ⟨n - 1, by omega⟩
              show leave P E (k + 1) fn fr u σ = _
              rw [hx' k (by omega), hc]
              rfl
          | panicked ch p σ' =>
            cases p with
            | none => exact LimC.fail _
            | some u' =>
              refine ((hm.leave fn { fr with defers := ds } (raised u' ch) σ').mono N fun n _ => rfl).shift.mono (N + 1) fun n hn => ?_
              obtain ⟨k, rfl⟩ : ∃ k, n = k + 1 := ⟨n - 1, by omega⟩
              show leave P E (k + 1) fn fr u σ = _
              rw [hx' k (by omega), hc]
              rfl
          | fail w => exact LimC.fail w
      | _ => exact LimC.fail _
    cases u with
    | run => exact LimC.fail _
    | returning => exact key _ (fun h => by cases h)
    | panicking ch => exact key _ (fun h => by cases h)

theorem Good.none : Good P E Ms.none := ⟨fun _ _ _ => LimR.fail _, fun _ _ _ _ => LimC.fail _, fun _ _ _ _ => LimC.fail _⟩
theorem Good.next {m : Ms} (h : Good P E m) : Good P E (Ms.next P E m) := ⟨fExec_lim h, fCallF_lim h, fLeave_lim h⟩
theorem Good.lv (n : Nat) : Good P E (Ms.lv P E n) := by
  induction n with
  | zero => exact Good.none
  | succ n ih => exact Good.next ih

/-- A quick call that does not fail is a call of the interpreter. -/
theorem callF_of_lv {n f : Nat} {args : List Value} {par : Option FrameMode} {σ : St} {r : CRes} (h : (Ms.lv P E n).callF f args par σ = r) (hr : ∀ w, r ≠ .fail w) : ∃ N, callF P E N f args par σ = r := by
  rcases (Good.lv n).callF f args par σ with ⟨w, hw⟩ | ⟨N, hN⟩
  · exact absurd (h.symm.trans hw) (hr w)
  · exact ⟨N, by rw [← h]; exact hN N (Nat.le_refl N)⟩

end Go.Ab
