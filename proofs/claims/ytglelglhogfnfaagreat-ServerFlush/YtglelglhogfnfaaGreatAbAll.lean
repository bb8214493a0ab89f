/- The soundness, whole. -/
import Derived.Test.YtglelglhogfnfaaGreatAbDraw4
namespace Go.Ab

variable {P : Program} {E : Env}

section
variable {n nn N : Nat} {ops : Array Oper} {rs : List Rec} {c0 : Cu} {φ0 : Phi} {w0 : World} {kind : KR} {cs0 : List Frame}

theorem Inv.start [Syms] (D : Drawn P E n nn N ops rs c0) {φ : Phi} {w : World} {a : Act} {cs : List Frame} (r : Rel φ c0.σ w.heap) (hsz : a.tmps.size = nn) (ht : ∀ t, Vrel φ ((c0.τ.get t).getD undef) (a.tmps.getD t undef))
    (hds : DsRel φ c0.ds a.defers) (hcs : CsRel φ kind c0.par cs0 cs) (hf : Fresh φ c0.σ.next N) (hN : c0.σ.next ≤ N) :
    Inv P E n nn N ops rs c0 φ w kind cs0 (fun _ => false) φ w a cs 0 c0.σ.get := by
  have h0 : cur c0 rs 0 = c0 := by cases rs <;> rfl
  have ids : ∀ i, c0.σ.next ≤ i → c0.σ.get i = none := fun i hi => by
    cases hg : c0.σ.get i with
    | none => rfl
    | some b => have := r.ids i b hg; omega
  refine ⟨fun j o _ h => (by cases h), fun k h => (by cases h), Nat.zero_le _, .inl rfl, fun k r _ _ => ⟨fun h => (by cases h), fun h => (by omega)⟩, ⟨r.blocks, r.inj, r.bound⟩,
    by rw [h0]; exact ids, fun i _ => by rw [h0], fun k r b _ _ _ h => (by cases h), fun i h1 _ => ?_, by rw [h0]; exact hds, by rw [h0]; exact hcs, fun t => ⟨fun k r _ h => (by cases h), fun _ => ht t⟩, hsz, ?_⟩
  · rw [h0] at h1; exact ⟨ids i h1, fun h2 => hf i h1 h2⟩
  · exact ⟨hN, PLe.refl _, fun _ _ _ h => h, fun _ _ => rfl, fun _ _ _ => rfl, fun i x h1 h2 h3 => (by rw [hf i h1 h2] at h3; cases h3), Nat.le_refl _, rfl, rfl, rfl, fun _ _ h => h⟩

theorem Trans.to [Syms] {φ0 φ : Phi} {σ0 σN σ : St} {w0 w : World} (T : Trans φ0 σ0 w0 φ σN w) (h : σ.next = σN.next) : Trans φ0 σ0 w0 φ σ w :=
  ⟨by rw [h]; exact T.next, T.le, T.keep, fun i hi => T.out i (by rw [← h]; exact hi), T.frame, fun i x h1 h2 => T.fresh i x h1 (by rw [← h]; exact h2), T.size, T.tape, T.os, T.output, T.quiet⟩

end

theorem sound_draw [Syms] (hE : EnvOk P E) (n : Nat) (hSS : ∀ m, m < n → SS P E m) : SDr P E (n + 1) := by
  intro id ops fr σ e fr' σ' h hord φ w a b k cs0 cs r hfr hcs hf
  unfold exec at h
  simp only at h
  have hrun := runD_ok (P := P) (E := E) ops n ops.toList fr σ σ
  have hdraw := stepR_region_draw (P := P) (b := b) (a := a) (k := k) (cs := cs) (w := w) (ops := ops) (id := id)
  simp only [Region.schedule, hE.mixed, Bool.true_or, if_true] at hdraw
  generalize hw0 : ({ w with drawn := w.drawn + 1 } : World) = w0 at hdraw
  have r0 : Rel φ σ w0.heap := by subst hw0; exact r
  have T0 : Trans φ σ w φ σ w0 := by subst hw0; exact (Trans.refl φ σ w).drew _
  generalize w.tape w.drawn (.order b.fn id) = tt at hdraw
  have base : ∀ (rs : List Rec) (N : Nat), Drawn P E n fr.n N ops rs ⟨fr.tmps, fr.defers, fr.par, σ, σ⟩ → Fresh φ σ.next N → σ.next ≤ N →
      (∀ i, rs.length < i → i < ops.size → Nat.testBit ((bfGo [] ops.toList).getD i 0) rs.length = true) → ∃ S' φ' w' a' cs' p' G', Inv P E n fr.n N ops rs ⟨fr.tmps, fr.defers, fr.par, σ, σ⟩ φ w0 b.kr cs0 S' φ' w' a' cs' p' G' ∧
        ((Steps P (lone (b.atR a (.code (.region id ops true) :: k)) cs w) (lone (b.atR a' (.inRegion ops [] :: k)) cs' w') ∧ ∀ i, i < ops.size → S' i = true) ∨
        (∃ rest, Steps P (lone (b.atR a (.code (.region id ops true) :: k)) cs w) (lone (b.atR a' (.inRegion ops (rs.length :: rest) :: k)) cs' w') ∧ rs.length < ops.size ∧ S' rs.length = false ∧ Ready ops S' rs.length)) := by
    intro rs N D hf hN hleft
    have I0 := Inv.start (cs0 := cs0) (kind := b.kr) D (w := w0) (a := a) (cs := cs) r0 hfr.size hfr.tmps hfr.ds hcs hf hN
    obtain ⟨S', φ', w', a', cs', p', G', I', h⟩ := run_draw D hSS rfl k hleft ops.size tt (Array.replicate ops.size false) (fun _ => false) φ w0 a cs 0 _ (by simp) (fun i => by
      rw [Array.getD_eq_getD_getElem?]
      cases hq : (Array.replicate ops.size false)[i]? with
      | none => rfl
      | some q => rw [Array.getElem?_replicate] at hq; split at hq <;> simp_all) (by rw [cnt_empty]; exact Nat.le_refl _) I0
    refine ⟨S', φ', w', a', cs', p', G', I', ?_⟩
    rcases h with ⟨h1, h2⟩ | ⟨rest, h1, h2⟩
    · exact .inl ⟨.head hdraw h1, h2⟩
    · exact .inr ⟨rest, .head hdraw h1, h2⟩
  cases hd : runD P E n ops ops.toList fr σ σ with
  | fail why => rw [hd] at h; cases h
  | all rs fr1 σ1 =>
    rw [hd] at h hrun
    obtain ⟨htr, hlen, c, hc, hfr1, hσ1⟩ := hrun
    simp only at h
    cases hreads : readsOk P E (bfGo [] ops.toList) rs rs 0 with
    | false => rw [hreads] at h; cases h
    | true =>
      rw [hreads] at h
      simp only [cond_true, Res.done.injEq] at h
      obtain ⟨rfl, rfl, rfl⟩ := h
      have hlen' : rs.length = ops.size := by simpa using hlen
      subst hc
      have D : Drawn P E n fr.n σ1.next ops rs ⟨fr.tmps, fr.defers, fr.par, σ, σ⟩ := ⟨htr, rfl, by rw [hσ1]; exact Nat.le_refl _, hreads, hord⟩
      have hN : σ.next ≤ σ1.next := by
        have := D.mono (i := 0) (j := rs.length) (Nat.zero_le _) (Nat.le_refl _)
        rw [hσ1]
        cases rs <;> exact this
      obtain ⟨S', φ', w', a', cs', p', G', I, h⟩ := base rs σ1.next D hf hN (fun i h1 h2 => by omega)
      rcases h with ⟨hs, hall⟩ | ⟨rest, _, h1, _⟩
      · have hn : NoEff rs p' rs.length := fun k r h1 h2 h3 h4 => by
          have := (I.effs k r h3 h4).1 (hall k (by omega))
          omega
        have hb := D.betw I.pl (Nat.le_refl _) hn
        have hrel := I.rel.rel (I.mat D I.pl (Nat.le_refl _) hn fun k r h1 h2 h3 _ _ => hall k (by omega))
        refine ⟨φ', w', a', cs', .normal, rfl, by rw [hσ1]; exact hrel, T0.trans (I.trans.to rfl), ⟨by rw [hfr1]; exact I.size, fun t => ?_, by rw [hfr1]; show DsRel φ' (cur _ rs rs.length).ds a'.defers; rw [hb.ds]; exact I.ds⟩,
          by rw [hfr1]; show CsRel φ' b.kr (cur _ rs rs.length).par cs0 cs'; rw [hb.par]; exact I.par, ?_⟩
        · rw [hfr1]
          show Vrel φ' (((cur _ rs rs.length).τ.get t).getD undef) _
          obtain ⟨s1, s2⟩ := I.slots t
          rcases D.slot t (j := rs.length) (Nat.le_refl _) with ⟨k, r, k1, k2, k3, k4, k5⟩ | ⟨k1, k2⟩
          · rw [k5]
            exact s1 k r k2 (hall k (by omega)) k3 fun k' r' g1 g2 g3 => k4 k' r' g1 (lt_of_get g2) g2
          · rw [k2]
            exact s2 fun k r g1 _ => k1 k r (lt_of_get g1) g1
        · exact Steps.trans hs (.one stepR_region_end)
      · omega
  | panic rs ch fr1 σ1 left =>
    rw [hd] at h hrun
    obtain ⟨htr, o, hl, hko, c, hc, hfr1, hwant, m, hm, hstep⟩ := hrun
    simp only at h
    cases hreads : (readsOk P E (bfGo [] ops.toList) rs rs 0 && leftOk (bfGo [] ops.toList) rs.length left (rs.length + 1)) with
    | false => rw [hreads] at h; cases h
    | true =>
      rw [hreads] at h
      simp only [cond_true, Res.done.injEq] at h
      obtain ⟨rfl, rfl, rfl⟩ := h
      simp only [Bool.and_eq_true] at hreads
      obtain ⟨hreads, hleft⟩ := hreads
      have hsize : ops.size = rs.length + 1 + left.length := by
        have := congrArg List.length hl
        simp at this
        omega
      have hops : ops[rs.length]? = some o := by
        rw [← Array.getElem?_toList, hl, List.getElem?_append_right (by simp)]
        simp
      subst hc
      have hnext : (cur ⟨fr.tmps, fr.defers, fr.par, σ, σ⟩ rs rs.length).σ.next ≤ σ1.next := by
        have := (rises_all (P := P) (E := E) m).2.2.2.1 (evalO (cur ⟨fr.tmps, fr.defers, fr.par, σ, σ⟩ rs rs.length).τ) o (cur ⟨fr.tmps, fr.defers, fr.par, σ, σ⟩ rs rs.length).ds (cur ⟨fr.tmps, fr.defers, fr.par, σ, σ⟩ rs rs.length).par (cur ⟨fr.tmps, fr.defers, fr.par, σ, σ⟩ rs rs.length).σ
        rw [hstep] at this
        exact this
      have D : Drawn P E n fr.n σ1.next ops rs ⟨fr.tmps, fr.defers, fr.par, σ, σ⟩ := ⟨htr, rfl, hnext, hreads, hord⟩
      have hz : σ.next ≤ (cur ⟨fr.tmps, fr.defers, fr.par, σ, σ⟩ rs rs.length).σ.next := by
        have := D.mono (i := 0) (j := rs.length) (Nat.zero_le _) (Nat.le_refl _)
        cases rs <;> exact this
      obtain ⟨S', φ1, w1, a1, cs1, p1, G1, I, h⟩ := base rs σ1.next D hf (by omega) (fun i h1 h2 => by
        have := leftOk_spec hleft (i - (rs.length + 1)) (by omega)
        rwa [show rs.length + 1 + (i - (rs.length + 1)) = i by omega] at this)
      rcases h with ⟨_, hall⟩ | ⟨rest, hs, _, hSe, hready⟩
      · have := I.low _ (hall rs.length (by omega))
        omega
      · have hback : ∀ (k : Nat) (r : Rec), rs[k]? = some r → (r.k = .eff ∨ r.k = .fresh) → S' k = true := fun k r h1 h2 =>
          I.before' D hops hready h1 (lt_of_get h1) (clash_eff (by rw [D.kls h1]; exact h2) hko)
        have hn : NoEff rs p1 rs.length := fun k r h1 h2 h3 h4 => by
          have := (I.effs k r h3 h4).1 (hback k r h3 (.inl h4))
          omega
        have hb := D.betw I.pl (Nat.le_refl _) hn
        have hmat := I.mat D I.pl (Nat.le_refl _) hn fun k r _ _ h3 h4 _ => hback k r h3 (.inr h4)
        have hrel := I.rel.rel hmat
        have hw' := I.wanted' D (Nat.le_refl _) hops hSe hready hwant
        rw [stepOp_congr (ρ' := only o (evalO (cur ⟨fr.tmps, fr.defers, fr.par, σ, σ⟩ rs rs.length).τ)) fun x hx => only_at x hx] at hstep
        have hpm := D.mono I.pl (Nat.le_refl _)
        have hfr2 : Fresh φ1 (cur ⟨fr.tmps, fr.defers, fr.par, σ, σ⟩ rs rs.length).σ.next σ1.next := fun i h1 h2 => by
          refine (I.gc i (by omega) fun i' e g1 g2 g3 g4 => ?_).2 h2
          obtain ⟨_, g5, _⟩ := D.fresh g1 g2 g3
          have := D.out g1
          have hmm := D.mono (i := i' + 1) (j := rs.length) (by have := lt_of_get g1; omega) (Nat.le_refl _)
          rw [← this] at hmm
          omega
        obtain ⟨φ2, w2, ch2, s2, q1, q2, q3⟩ := (hSS m hm _ _ _ _ _).2 _ _ hstep φ1 w1 a1 ops rs.length rest k b cs1 hops hw' hrel (I.operands' D (Nat.le_refl _) hops hSe hready) hfr2
        refine ⟨φ2, w2, a1, cs1, .panic ch2, ⟨ch2, rfl, q3⟩, q1, T0.trans ((I.trans.widen q2 hz (Nat.le_refl _)).to rfl), ⟨by rw [hfr1]; exact I.size, fun t => ?_, ?_⟩, ?_, ⟨_, Steps.trans hs s2⟩⟩
        · rw [hfr1]
          show Vrel φ2 (((poisoned rs (cur _ rs rs.length).τ).get t).getD undef) _
          rcases poisoned_get rs (cur ⟨fr.tmps, fr.defers, fr.par, σ, σ⟩ rs rs.length).τ t with ⟨_, hp⟩ | ⟨hp1, hp2⟩ | hp
          · rw [hp]; simp [poison, Vrel]
          · rw [hp2]
            obtain ⟨s1, s2⟩ := I.slots t
            rcases D.slot t (j := rs.length) (Nat.le_refl _) with ⟨k, r, k1, k2, k3, k4, k5⟩ | ⟨k1, k2⟩
            · rw [k5]
              exact (s1 k r k2 (hback k r k2 (.inl (hp1 k r k2 k3))) k3 fun k' r' g1 g2 g3 => k4 k' r' g1 (lt_of_get g2) g2).mono q2.le
            · rw [k2]
              exact (s2 fun k r g1 _ => k1 k r (lt_of_get g1) g1).mono q2.le
          · rw [hp]; simp [poison, Vrel]
        · rw [hfr1]
          show DsRel φ2 (cur _ rs rs.length).ds a1.defers
          rw [hb.ds]; exact I.ds.mono q2.le
        · rw [hfr1]
          show CsRel φ2 b.kr (cur _ rs rs.length).par cs0 cs1
          rw [hb.par]; exact I.par.mono q2.le

theorem sound_all [Syms] (hE : EnvOk P E) : ∀ n, (∀ m, m ≤ n → SS P E m ∧ SE P E m ∧ SO P E m ∧ SC P E m ∧ SL P E m)
  | 0 => fun m hm => by
    obtain rfl : m = 0 := by omega
    refine ⟨fun ρ o ds par σ => ⟨fun v ds' par' σ' h => ?_, fun ch σ' h => ?_⟩, fun c fr σ e fr' σ' h => ?_, fun ops l fr σ e fr' σ' h => ?_, fun f args par σ φ w args' kind cs0 cs _ _ _ _ => ?_, fun fn fr u σ φ w a frm cs0 cs _ _ _ _ _ _ _ _ _ _ => ?_⟩
    · unfold stepOp at h; cases h
    · unfold stepOp at h; cases h
    · unfold exec at h; cases h
    · unfold execOps at h; cases h
    · unfold callF; exact trivial
    · unfold leave; exact trivial
  | n + 1 => fun m hm => by
    have ih := sound_all hE n
    by_cases hmn : m ≤ n
    · exact ih m hmn
    · obtain rfl : m = n + 1 := by omega
      obtain ⟨h1, h2, h3, h4, h5⟩ := ih n (Nat.le_refl _)
      have hD := sound_draw hE n fun m hm => (ih m (by omega)).1
      exact ⟨sound_step hE n h4 h2, sound_exec hE n h3 h2 h4 hD, sound_ops hE n h1 h3, sound_call hE n h2 h5, sound_leave hE n h4 h5⟩

end Go.Ab
