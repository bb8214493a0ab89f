/- Calls, deferred calls. -/
import Derived.Test.YtglelglhogfnfaaGreatAbSound
namespace Go.Ab

variable {P : Program} {E : Env}

theorem laid_get [Syms] : ∀ (l : List Value) (i : Nat) (t : Tr Value) (j : Nat), (laid l i t).get j = if i ≤ j ∧ j < i + l.length then l[j - i]? else t.get j
  | [], i, t, j => by simp [laid]; intro h1 h2; omega
  | v :: vs, i, t, j => by
    rw [laid, laid_get vs (i + 1), Tr.get_set]
    by_cases h : j = i
    · subst h
      rw [if_neg (by omega), if_pos rfl, if_pos (by simp)]
      simp
    · by_cases h2 : i + 1 ≤ j ∧ j < i + 1 + vs.length
      · rw [if_pos h2, if_pos (by simp; omega), show j - i = (j - (i + 1)) + 1 by omega]
        simp
      · rw [if_neg h2, if_neg h, if_neg (by simp; omega)]

theorem start_rel [Syms] {φ : Phi} {args : List Value} {args' : Array Value} {m : Nat} {par : Option FrameMode} (h : VrelL φ args args'.toList) :
    FrRel φ { n := Nat.max m args.length, tmps := laid args 0 .leaf, defers := [], par } { tmps := args' ++ Array.replicate (m - args'.size) undef, defers := [] } := by
  have hl : args'.size = args.length := by have := h.length; simpa using this
  refine ⟨?_, fun t => ?_, rfl⟩
  · simp only [Array.size_append, Array.size_replicate, hl]
    show _ = Nat.max m args.length
    simp only [Nat.max_def]
    split <;> omega
  · simp only [laid_get, Nat.zero_le, Nat.zero_add, true_and, Nat.sub_zero]
    rw [Array.getD_eq_getD_getElem?]
    by_cases ht : t < args.length
    · rw [if_pos ht]
      have hg : args[t]? = some args[t] := List.getElem?_eq_getElem ht
      obtain ⟨v', h1, h2⟩ := h.get hg
      rw [hg, Array.getElem?_append_left (by omega)]
      have h1' : args'[t]? = some v' := by simpa using h1
      rw [h1']
      exact h2
    · rw [if_neg ht, Array.getElem?_append_right (by omega), Tr.get_leaf]
      have : ((Array.replicate (m - args'.size) undef)[t - args'.size]?).getD undef = undef := by
        cases hq : (Array.replicate (m - args'.size) undef)[t - args'.size]? with
        | none => rfl
        | some q =>
          rw [Array.getElem?_replicate] at hq
          split at hq
          · simp only [Option.some.injEq] at hq; simp [← hq]
          · cases hq
      rw [this]
      exact undef_rel φ

theorem ChRel.dropWhile [Syms] {φ : Phi} : ∀ {a b : List PanicEntry}, ChRel φ a b → ChRel φ (a.dropWhile (!·.goexit)) (b.dropWhile (!·.goexit))
  | [], _, h => by simp only [ChRel] at h; subst h; rfl
  | e :: es, _, h => by
    obtain ⟨e', es', rfl, h1, h2, h3, h4⟩ := h
    simp only [List.dropWhile_cons, h3]
    split
    · exact h4.dropWhile
    · exact ⟨e', es', rfl, h1, h2, h3, h4⟩

theorem MRel.settle [Syms] {φ : Phi} {u u' : FrameMode} (h : MRel φ u u') : MRel φ (Go.settle u) (Go.settle u') := by
  cases u with
  | run => simp only [MRel] at h; subst h; rfl
  | returning => simp only [MRel] at h; subst h; rfl
  | panicking ch =>
    obtain ⟨ch', rfl, hch⟩ := h
    cases ch with
    | nil => simp only [ChRel] at hch; subst hch; exact ⟨[], rfl, rfl⟩
    | cons e es =>
      obtain ⟨e', es', rfl, h1, h2, h3, h4⟩ := hch
      obtain ⟨v, rec, ge⟩ := e
      obtain ⟨v', rec', ge'⟩ := e'
      simp only at h1 h2 h3
      subst h2; subst h3
      cases rec' with
      | false => exact ⟨_, rfl, _, _, rfl, h1, rfl, rfl, h4⟩
      | true =>
        have hd := h4.dropWhile
        simp only [Go.settle]
        cases hq : es.dropWhile (!·.goexit) with
        | nil =>
          rw [hq] at hd
          simp only [ChRel] at hd
          rw [hd]
          rfl
        | cons x xs =>
          rw [hq] at hd
          obtain ⟨x', xs', hd0, d1, d2, d3, d4⟩ := hd
          rw [hd0]
          exact ⟨_, rfl, _, _, rfl, d1, d2, d3, d4⟩

theorem MRel.raised [Syms] {φ : Phi} {u u' : FrameMode} {ch ch' : List PanicEntry} (h : MRel φ u u') (hc : ChRel φ ch ch') : MRel φ (Go.raised u ch) (Go.raised u' ch') := by
  cases u with
  | run => simp only [MRel] at h; subst h; exact ⟨_, rfl, hc⟩
  | returning => simp only [MRel] at h; subst h; exact ⟨_, rfl, hc⟩
  | panicking old => obtain ⟨old', rfl, ho⟩ := h; exact ⟨_, rfl, hc.append ho⟩

theorem MRel.not_run [Syms] {φ : Phi} {u u' : FrameMode} (h : MRel φ u u') (hu : u ≠ .run) : u' ≠ .run := by
  cases u with
  | run => exact absurd rfl hu
  | returning => simp only [MRel] at h; subst h; intro e; cases e
  | panicking ch => obtain ⟨_, rfl, _⟩ := h; intro e; cases e

theorem settle_not_run [Syms] {u : FrameMode} (hu : u ≠ .run) : Go.settle u ≠ .run := by
  unfold Go.settle
  split
  · split <;> (intro e; cases e)
  · exact hu
theorem raised_not_run [Syms] {u : FrameMode} {ch : List PanicEntry} : Go.raised u ch ≠ .run := by
  unfold Go.raised
  split <;> (intro e; cases e)

theorem resultsOf_sound [Syms] (hE : EnvOk P E) {φ : Phi} {σ : St} {w : World} (r : Rel φ σ w.heap) {τ : Tr Value} {tmps : Array Value} (ht : ∀ t, Vrel φ ((τ.get t).getD undef) (tmps.getD t undef)) {F : ResultVar → Sem Value}
    (hF1 : ∀ t, F (.tmp t) = pure (tmps.getD t undef)) (hF2 : ∀ a t, F (.cell a t) = do Go.loadVar t (← asAddr (tmps.getD a undef))) : ∀ (rs : List ResultVar) (vs : List Value), resultsOf E σ τ rs = some vs →
    ∃ vs', (rs.mapM F).run P w = .ok vs' w ∧ VrelL φ vs vs'
  | [], vs, h => by simp only [resultsOf, Option.some.injEq] at h; subst h; exact ⟨[], rfl, VrelL.nil⟩
  | .tmp t :: rs, vs, h => by
    simp only [resultsOf] at h
    cases hr : resultsOf E σ τ rs with
    | none => simp [hr] at h
    | some vs1 =>
      simp only [hr, Option.map_some, Option.some.injEq] at h
      subst h
      obtain ⟨vs', h1, h2⟩ := resultsOf_sound hE r ht hF1 hF2 rs vs1 hr
      exact ⟨tmps.getD t undef :: vs', by simp only [List.mapM_cons, hF1, Sem.run_bind, Sem.run_pure, Result.andThen_ok, h1], VrelL.cons (ht t) h2⟩
  | .cell a t :: rs, vs, h => by
    simp only [resultsOf] at h
    have ha := ht a
    split at h
    · rename_i ad hg
      rw [hg] at ha
      simp only [Option.getD_some, Vrel] at ha
      obtain ⟨a', he, hra⟩ := ha
      split at h
      · rename_i v l hv hl
        simp only [Option.some.injEq] at h
        subst h
        obtain ⟨v', l1, l2⟩ := loadVar_sound hE r hv hra
        obtain ⟨vs', h1, h2⟩ := resultsOf_sound hE r ht hF1 hF2 rs l hl
        have h0 : (asAddr (tmps.getD a undef)).run P w = .ok a' w := by rw [he]; rfl
        exact ⟨v' :: vs', by simp only [List.mapM_cons, hF2, Sem.run_bind, Sem.run_pure, h0, Result.andThen_ok, l1, h1], VrelL.cons l2 h2⟩
      · cases h
    · cases h

theorem tupled_rel [Syms] {φ : Phi} {vs vs' : List Value} (h : VrelL φ vs vs') : Vrel φ (tupled vs) (if hs : vs'.toArray.size = 1 then vs'.toArray[0] else .tuple vs'.toArray) := by
  have hl := h.length
  unfold tupled
  split
  · rename_i v
    simp only [VrelL] at h
    obtain ⟨v', _, rfl, h1, rfl⟩ := h
    simpa using h1
  · rename_i hne
    have : ¬ vs'.toArray.size = 1 := by
      intro hs
      have hs' : vs'.length = 1 := by simpa using hs
      have : vs.length = 1 := by omega
      obtain ⟨v, rfl⟩ := List.length_eq_one_iff.1 this
      exact hne v rfl
    rw [dif_neg this]
    simp only [Vrel]
    exact ⟨_, rfl, by simpa [VrelA] using h⟩

theorem run_results [Syms] (hE : EnvOk P E) {φ : Phi} {σ : St} {w : World} (r : Rel φ σ w.heap) {fn : Func} {τ : Tr Value} {tmps : Array Value} (ht : ∀ t, Vrel φ ((τ.get t).getD undef) (tmps.getD t undef)) {vs : List Value} (h : resultsOf E σ τ fn.results.toList = some vs) :
    ∃ v', (results fn tmps).run P w = .ok v' w ∧ Vrel φ (tupled vs) v' := by
  unfold results
  obtain ⟨vs', h1, h2⟩ := resultsOf_sound hE r ht (F := fun
    | .tmp t => pure (tmps.getD t undef)
    | .cell a t => do Go.loadVar t (← asAddr (tmps.getD a undef))) (fun _ => rfl) (fun _ _ => rfl) _ _ h
  refine ⟨_, ?_, tupled_rel h2⟩
  simp only [Sem.run_bind]
  rw [Array.mapM_eq_mapM_toList, Sem.run_map]
  erw [h1]
  rfl

theorem CEnds.of_steps [Syms] {φ φ1 : Phi} {σ σ1 : St} {w w1 : World} {kind : CallKind} {cs0 : List Frame} {f : FuncId} {m m1 : Machine} {c : CRes} (hs : Steps P m m1) (ht : Trans φ σ w φ1 σ1 w1) (h : CEnds P φ1 σ1 w1 kind cs0 f m1 c) : CEnds P φ σ w kind cs0 f m c := by
  cases c with
  | ret v par' σ' =>
    obtain ⟨φ', w', fr, cs', v', fn, s, q1, q2, q⟩ := h
    exact ⟨φ', w', fr, cs', v', fn, hs.trans s, q1, ht.trans q2, q⟩
  | panicked ch par' σ' =>
    obtain ⟨φ', w', fr, cs', ch', fn, s, q1, q2, q⟩ := h
    exact ⟨φ', w', fr, cs', ch', fn, hs.trans s, q1, ht.trans q2, q⟩
  | fail _ => exact trivial

theorem leave_next [Syms] {n : Nat} {fn : Func} {fr : Fr} {u : FrameMode} {σ : St} : σ.next ≤ (leave P E n fn fr u σ).next σ.next := by
  have := (rises_all (P := P) (E := E) n).2.2.2.2.2 fn fr u σ
  revert this
  cases leave P E n fn fr u σ <;> simp [CRes.rises, CRes.next]

theorem call_next [Syms] {n : Nat} {f : Nat} {args : List Value} {par : Option FrameMode} {σ : St} : σ.next ≤ (callF P E n f args par σ).next σ.next := by
  have := (rises_all (P := P) (E := E) n).2.2.2.2.1 f args par σ
  revert this
  cases callF P E n f args par σ <;> simp [CRes.rises, CRes.next]

theorem CRes.next_of [Syms] {c : CRes} {a b : Nat} (h : b ≤ c.next b) : c.next a = c.next b ∨ (∃ why, c = .fail why) := by
  cases c with
  | ret => exact .inl rfl
  | panicked => exact .inl rfl
  | fail w => exact .inr ⟨w, rfl⟩

theorem sound_call_body [Syms] (hE : EnvOk P E) (n : Nat) (hX : SE P E n) (hL : SL P E n) : ∀ (f : Nat) (args : List Value) (par : Option FrameMode) (σ : St) (φ : Phi) (w : World) (args' : Array Value) (kind : CallKind) (cs0 cs : List Frame),
    Rel φ σ w.heap → VrelL φ args args'.toList → CsRel φ (kind, none) par cs0 cs → Fresh φ σ.next ((callB P E n f args par σ).next σ.next) →
      CEnds P φ σ w kind cs0 f (lone (Frame.enter P f args' kind) cs w) (callB P E n f args par σ) := by
  intro f args par σ φ w args' kind cs0 cs r hargs hcs hf
  unfold callB at hf ⊢
  cases hfn : E.func f with
  | none => exact trivial
  | some fn =>
    simp only [hfn] at hf ⊢
    cases hb : fn.body with
    | none => exact trivial
    | some c =>
      simp only [hb] at hf ⊢
      have hP := hE.func f fn hfn
      let b : Frame := { (default : Frame) with fn := f, kind := kind, roundOf := none }
      let a : Act := { tmps := args' ++ Array.replicate (fn.ntmps - args'.size) undef, defers := [] }
      have henter : Frame.enter P f args' kind = b.atR a [.code c] := by
        simp [Frame.enter, Frame.atR, hP, hb, b, a]
      rw [henter]
      have hfr0 : FrRel φ { n := Nat.max fn.ntmps args.length, tmps := laid args 0 .leaf, defers := [], par } a := start_rel hargs
      have go : ∀ (e : AEx) (fr : Fr) (σ' : St) (u : FrameMode), exec P E n c { n := Nat.max fn.ntmps args.length, tmps := laid args 0 .leaf, defers := [], par } σ = .done e fr σ' →
          Fresh φ σ.next ((leave P E n fn fr u σ').next σ.next) → (e = .normal ∨ e = .ret → u = .returning) → (∀ ch, e = .panic ch → u = .panicking ch) → (∀ i, e ≠ .exit i) →
          CEnds P φ σ w kind cs0 f (lone (b.atR a [.code c]) cs w) (leave P E n fn fr u σ') := by
        intro e fr σ' u hex hf hu1 hu2 hu3
        rcases CRes.next_of (a := σ.next) (leave_next (P := P) (E := E) (n := n) (fn := fn) (fr := fr) (u := u) (σ := σ')) with hnx | ⟨why, hnx⟩
        · rw [hnx] at hf
          have n1 := exec_next hex
          obtain ⟨φ1, w1, a1, cs1, e1, he, q1, q2, q3, q4, q5⟩ := (hX c _ σ e fr σ' hex (hE.code f fn c hfn hb) φ w a b [] cs0 cs r hfr0 hcs (hf.sub (Nat.le_refl _) leave_next)).1
          have fin : ∀ (frm : Frame), Steps P (lone (b.atR a [.code c]) cs w) (lone frm cs1 w1) → frm.kind = kind → frm.fn = f → frm.tmps = a1.tmps → frm.defers = a1.defers → frm.roundOf = none → MRel φ1 u frm.mode →
              CEnds P φ σ w kind cs0 f (lone (b.atR a [.code c]) cs w) (leave P E n fn fr u σ') := by
            intro frm hs k1 k2 k3 k4 k5 k6
            subst k1
            subst k2
            exact (hL fn fr u σ' φ1 w1 a1 frm cs0 cs1 q1 q3 q4 hP hfn k3 k4 k5 k6 (hf.after q2)).of_steps hs q2
          cases e with
          | normal =>
            simp only [ExRel] at he
            subst he
            rw [hu1 (.inl rfl)] at fin ⊢
            exact fin _ (Steps.trans q5 (.one (stepR_end rfl))) rfl rfl rfl rfl rfl rfl
          | ret =>
            simp only [ExRel] at he
            subst he
            obtain ⟨k1, hs⟩ := q5
            rw [hu1 (.inr rfl)] at fin ⊢
            exact fin _ (Steps.trans hs (.one (stepR_ret rfl))) rfl rfl rfl rfl rfl rfl
          | panic ch =>
            obtain ⟨ch', rfl, hch⟩ := he
            obtain ⟨todo, hs⟩ := q5
            rw [hu2 ch rfl] at fin ⊢
            exact fin _ hs rfl rfl rfl rfl rfl ⟨ch', rfl, hch⟩
          | exit i => exact absurd rfl (hu3 i)
        · rw [hnx]; exact trivial
      cases hex : exec P E n c { n := Nat.max fn.ntmps args.length, tmps := laid args 0 .leaf, defers := [], par } σ with
      | fail why => exact trivial
      | done e fr σ' =>
        simp only [hex] at hf
        cases e with
        | normal => exact go _ _ _ _ hex hf (fun _ => rfl) (fun _ h => by cases h) (fun _ h => by cases h)
        | ret => exact go _ _ _ _ hex hf (fun _ => rfl) (fun _ h => by cases h) (fun _ h => by cases h)
        | panic ch => exact go _ _ _ _ hex hf (fun h => by rcases h with h | h <;> cases h) (fun _ h => by cases h; rfl) (fun _ h => by cases h)
        | exit i => exact trivial

theorem sound_call [Syms] (hE : EnvOk P E) (n : Nat) (hX : SE P E n) (hL : SL P E n) : SC P E (n + 1) := by
  intro f args par σ φ w args' kind cs0 cs r hargs hcs hf
  have key : callF P E (n + 1) f args par σ = callB P E n f args par σ → CEnds P φ σ w kind cs0 f (lone (Frame.enter P f args' kind) cs w) (callF P E (n + 1) f args par σ) := fun e => by
    rw [e] at hf ⊢
    exact sound_call_body hE n hX hL f args par σ φ w args' kind cs0 cs r hargs hcs hf
  cases hsum : E.sum f args σ with
  | some q =>
    obtain ⟨v, σ1⟩ := q
    cases par with
    | none =>
      have hk : kind = .normal := by
        cases kind with
        | normal => rfl
        | deferred => obtain ⟨_, _, _, _, _, _, h, _⟩ := hcs; cases h
        | _ => exact hcs.elim
      subst hk
      obtain ⟨_, rfl⟩ := hcs
      unfold callF at hf ⊢
      simp only [hsum, sumRes] at hf ⊢
      cases hle : Nat.ble σ.next σ1.next with
      | false => exact trivial
      | true =>
        simp only [hle, cond_true] at hf ⊢
        obtain ⟨e, w', fr, ⟨φ', v', he, hv, hr', ht'⟩, hcm, hfn, hlv⟩ := hE.sum f args σ v σ1 hsum φ w args' r hargs hf cs
        subst he
        obtain ⟨l1, l2, l3, fn, l4, l5⟩ := hlv
        exact ⟨φ', w', fr, cs, v', fn, hcm, hr', ht', ⟨rfl, rfl⟩, l3, hfn, l1, l2, l4, l5, hv⟩
    | some u => exact key (by unfold callF; rfl)
  | none => exact key (by unfold callF; simp only [hsum]; cases par <;> rfl)

theorem sound_leave [Syms] (hE : EnvOk P E) (n : Nat) (hC : SC P E n) (hL : SL P E n) : SL P E (n + 1) := by
  intro fn fr u σ φ w a frm cs0 cs r hfr hcs hP hEf ht hd hr hm hf
  obtain ⟨nn, τ, ds, par⟩ := fr
  have hds := hfr.ds
  unfold leave at hf ⊢
  cases ds with
  | nil =>
    simp only [DsRel] at hds
    cases u with
    | run => exact trivial
    | returning =>
      simp only [MRel] at hm
      simp only
      cases hres : resultsOf E σ τ fn.results.toList with
      | none => exact trivial
      | some vs =>
        obtain ⟨v', h1, h2⟩ := run_results (P := P) hE r hfr.tmps hres
        exact ⟨φ, w, frm, cs, v', fn, Steps.refl _ _, r, Trans.refl _ _ _, hcs, rfl, rfl, hm, hd.trans hds, hP, by rw [ht]; exact h1, h2⟩
    | panicking ch =>
      obtain ⟨ch', hm, hch⟩ := hm
      exact ⟨φ, w, frm, cs, ch', fn, Steps.refl _ _, r, Trans.refl _ _ _, hcs, rfl, rfl, hm, hd.trans hds, hP, hch⟩
  | cons d ds =>
    obtain ⟨d', ds', hde, hdr, hdsr⟩ := hds
    rcases hdr with ⟨g, c, c', t1, t2, t3, t4⟩ | ⟨i, i', t1, t2, t3⟩
    case inr =>
      simp only [t1] at hf ⊢
      by_cases hu : u = .run
      · subst hu; exact trivial
      have hu' : frm.mode ≠ .run := hm.not_run hu
      cases hg : σ.get i with
      | none => cases u <;> exact trivial
      | some bk =>
        cases bk with
        | dfr t =>
          cases t with
          | true => cases u <;> exact trivial
          | false =>
            have red : ∀ (x : CRes), x = leave P E n fn { n := nn, tmps := τ, defers := ds, par := par } u (σ.put i (.dfr true)) → Fresh φ σ.next (x.next σ.next) → CEnds P φ σ w frm.kind cs0 frm.fn (lone frm cs w) x := by
              intro x hx hf
              subst hx
              obtain ⟨y, o, hy, hoy, rfl, hb0⟩ := r.blocks _ _ hg
              unfold ORel at t3
              rw [hy] at t3
              obtain ⟨rfl, _⟩ := t3
              have hrun := run_takeDeferred (P := P) (ds := []) hoy
              have hst := step_collected (P := P) (fr := frm) (cs := cs) (w := w) (d := d') (ds := ds') (r := y.blk) (calls := []) hu' (hd.trans hde) t2 hrun
              have hput := putObj_sound (b' := .dfr true) (o' := .deferred none) r hg hy hoy ⟨rfl, hb0⟩
              have hL' := hL fn { n := nn, tmps := τ, defers := ds, par := par } u (σ.put i (.dfr true)) φ (w.putObj y.blk (.deferred none)) { a with defers := ds' } { frm with defers := ds' } cs0 cs hput.1 ⟨hfr.size, hfr.tmps, hdsr⟩ hcs hP hEf ht rfl hr hm hf
              exact hL'.of_steps (.one (by simpa using hst)) hput.2
            rw [hg] at hf
            cases u with
            | run => exact absurd rfl hu
            | returning => exact red _ rfl hf
            | panicking ch => exact red _ rfl hf
        | _ => cases u <;> exact trivial
    have hargs : VrelL φ (d.args.toList ++ c.toList) (d'.args ++ c').toList := by
      rw [Array.toList_append]; exact (VrelA.iff.1 t4).append (VrelA.iff.1 t3)
    have hinv := aCallFunc_sound (P := P) (E := E) hE r (f := g) hargs
    simp only [t1] at hf ⊢
    by_cases hu : u = .run
    · subst hu; exact trivial
    have hum : ∀ {α : Type} (x y : α), (match u with | .run => x | _ => y) = y := by intro α x y; cases u <;> first | rfl | exact absurd rfl hu
    have hu' : frm.mode ≠ .run := hm.not_run hu
    have key : ∀ (res : CRes), res = (match aTarget E σ d.target d.args.toList with
      | .enter f args _ =>
        match callF P E n f args (some u) σ with
        | .ret _ (some u') σ'' => leave P E n fn { n := nn, tmps := τ, defers := ds, par := par } (settle u') σ''
        | .panicked ch (some u') σ'' => leave P E n fn { n := nn, tmps := τ, defers := ds, par := par } (raised u' ch) σ''
        | .fail w => .fail w
        | _ => .fail "par"
      | _ => .fail "deferred") → Fresh φ σ.next (res.next σ.next) → CEnds P φ σ w frm.kind cs0 frm.fn (lone frm cs w) res := by
      intro res hres hf
      simp only [aTarget, t1] at hres
      cases hcf : aCallFunc E σ g (d.args.toList ++ c.toList) with
      | enter f args σ1 =>
        rw [hcf] at hinv
        obtain ⟨_, args', hi, hag⟩ := hinv
        simp only [hcf] at hres
        have h1 := step_defer (P := P) (fr := frm) (cs := cs) (w := w) (d := d') (ds := ds') (fv := .func g) (cap := c') (f := f) (args := args') hu' (hd.trans hde) t2 (by rw [t2]; exact hi)
        have base : CsRel φ (.deferred, none) (some u) ({ frm with defers := ds' } :: cs) ({ frm with defers := ds' } :: cs) := ⟨_, _, u, frm.mode, rfl, rfl, rfl, hu, hm⟩
        have hcall := hC f args (some u) σ φ w args' .deferred ({ frm with defers := ds' } :: cs) ({ frm with defers := ds' } :: cs) r hag base
        cases hres2 : callF P E n f args (some u) σ with
        | fail why => rw [hres2] at hres; rw [hres]; exact trivial
        | ret v p σ2 =>
          rw [hres2] at hres
          cases p with
          | none => rw [hres]; exact trivial
          | some u2 =>
            simp only at hres
            subst hres
            rcases CRes.next_of (a := σ.next) (leave_next (P := P) (E := E) (n := n) (fn := fn) (fr := { n := nn, tmps := τ, defers := ds, par := par }) (u := settle u2) (σ := σ2)) with hnx | ⟨why, hnx⟩
            · rw [hnx] at hf
              have hcall := hcall (by rw [hres2]; exact hf.sub (Nat.le_refl _) leave_next)
              rw [hres2] at hcall
              obtain ⟨φ1, w1, fr1, cs1, v1, fn1, s1, q1, q2, q3, q4, q5, q6, q7, q8, q9, q10⟩ := hcall
              obtain ⟨c0, rest, u3, u3', e1, e2, e3, e5, e4⟩ := q3
              cases e1
              cases e3
              subst e2
              have hgo : fr1.going P w1 (.returned v1) := ⟨q6, q7, fn1, q8, q9⟩
              have h2 := step_going_returned (c := { { frm with defers := ds' } with mode := u3' }) (cs := cs) q4 hgo
              have hL' := hL fn { n := nn, tmps := τ, defers := ds, par := par } (settle u2) σ2 φ1 w1 { a with defers := ds' } { { { frm with defers := ds' } with mode := u3' } with mode := settle u3' } cs0 cs q1 ⟨hfr.size, fun t => (hfr.tmps t).mono q2.le, hdsr.mono q2.le⟩ (hcs.mono q2.le) hP hEf ht rfl hr e4.settle (hf.after q2)
              exact hL'.of_steps (.head h1 (Steps.trans s1 (.one h2))) q2
            · rw [hnx]; exact trivial
        | panicked ch p σ2 =>
          rw [hres2] at hres
          cases p with
          | none => rw [hres]; exact trivial
          | some u2 =>
            simp only at hres
            subst hres
            rcases CRes.next_of (a := σ.next) (leave_next (P := P) (E := E) (n := n) (fn := fn) (fr := { n := nn, tmps := τ, defers := ds, par := par }) (u := raised u2 ch) (σ := σ2)) with hnx | ⟨why, hnx⟩
            · rw [hnx] at hf
              have hcall := hcall (by rw [hres2]; exact hf.sub (Nat.le_refl _) leave_next)
              rw [hres2] at hcall
              obtain ⟨φ1, w1, fr1, cs1, ch1, fn1, s1, q1, q2, q3, q4, q5, q6, q7, q8, q9⟩ := hcall
              obtain ⟨c0, rest, u3, u3', e1, e2, e3, e5, e4⟩ := q3
              cases e1
              cases e3
              subst e2
              have hgo : fr1.going P w1 (.panicked ch1) := ⟨q6, q7, fn1, q8⟩
              have h2 := step_going_panicked (c := { { frm with defers := ds' } with mode := u3' }) (cs := cs) hgo
              have hL' := hL fn { n := nn, tmps := τ, defers := ds, par := par } (raised u2 ch) σ2 φ1 w1 { a with defers := ds' } { { { frm with defers := ds' } with mode := u3' } with mode := raised u3' ch1 } cs0 cs q1 ⟨hfr.size, fun t => (hfr.tmps t).mono q2.le, hdsr.mono q2.le⟩ (hcs.mono q2.le) hP hEf ht rfl hr (e4.raised q9) (hf.after q2)
              exact hL'.of_steps (.head h1 (Steps.trans s1 (.one h2))) q2
            · rw [hnx]; exact trivial
      | val => rw [hcf] at hres; rw [hres]; exact trivial
      | defer => rw [hcf] at hres; rw [hres]; exact trivial
      | round => rw [hcf] at hres; rw [hres]; exact trivial
      | recover => rw [hcf] at hres; rw [hres]; exact trivial
      | comm => rw [hcf] at hres; rw [hres]; exact trivial
      | panic => rw [hcf] at hres; rw [hres]; exact trivial
      | fail => rw [hcf] at hres; rw [hres]; exact trivial
    rw [t1] at key
    cases u with
    | run => exact absurd rfl hu
    | returning => exact key _ rfl hf
    | panicking ch => exact key _ rfl hf

end Go.Ab
