/- Drawn regions: in whatever order the operations go, they come to what they come to in the order of the text. -/
import Derived.Test.YtglelglhogfnfaaGreatAbTrace
namespace Go.Ab

variable {P : Program} {E : Env}

/-! ## The run in the order of the text -/

structure Drawn [Syms] (P : Program) (E : Env) (n nn N : Nat) (ops : Array Oper) (rs : List Rec) (c0 : Cu) : Prop where
  tr : Traced P E ops n nn ops.toList rs c0
  base0 : c0.base = c0.σ
  top : (cur c0 rs rs.length).σ.next ≤ N
  reads : readsOk P E (bfGo [] ops.toList) rs rs 0 = true
  ord : regionOk ops.toList = true

section
variable {n nn N : Nat} {ops : Array Oper} {rs : List Rec} {c0 : Cu}

theorem Drawn.op [Syms] (D : Drawn P E n nn N ops rs c0) {j : Nat} {r : Rec} (h : rs[j]? = some r) : ops[j]? = some r.o := by
  have := D.tr.op j r h; rwa [Array.getElem?_toList] at this
theorem Drawn.kls [Syms] (D : Drawn P E n nn N ops rs c0) {j : Nat} {r : Rec} (h : rs[j]? = some r) : cls r.o.op = r.k := (D.tr.ok j r h).k.symm
theorem lt_of_get [Syms] {α : Type} {l : List α} {j : Nat} {r : α} (h : l[j]? = some r) : j < l.length := (List.getElem?_eq_some_iff.1 h).1

theorem Drawn.next [Syms] (D : Drawn P E n nn N ops rs c0) {j : Nat} {r : Rec} (h : rs[j]? = some r) : r.σ.next ≤ r.out.next := by
  have hk := D.tr.ok j r h
  cases hw : r.wanted with
  | true => obtain ⟨m, _, hs⟩ := hk.run hw; exact stepOp_next hs
  | false => rw [(hk.skip hw).2.2.2]; exact Nat.le_refl _

theorem Drawn.σ [Syms] (D : Drawn P E n nn N ops rs c0) {j : Nat} {r : Rec} (h : rs[j]? = some r) : r.σ = (cur c0 rs j).σ := by rw [← D.tr.at' j r h]; rfl
theorem Drawn.out [Syms] (D : Drawn P E n nn N ops rs c0) {j : Nat} {r : Rec} (h : rs[j]? = some r) : r.out = (cur c0 rs (j + 1)).σ := by rw [cur_succ h]; rfl

theorem Drawn.mono [Syms] (D : Drawn P E n nn N ops rs c0) {i : Nat} : ∀ {j : Nat}, i ≤ j → j ≤ rs.length → (cur c0 rs i).σ.next ≤ (cur c0 rs j).σ.next
  | 0, h, _ => by have : i = 0 := by omega
                  subst this; exact Nat.le_refl _
  | j + 1, h, hl => by
    by_cases he : i = j + 1
    · subst he; exact Nat.le_refl _
    · have hr : rs[j]? = some rs[j] := List.getElem?_eq_getElem (by omega)
      refine Nat.le_trans (D.mono (j := j) (by omega) (by omega)) ?_
      rw [← D.σ hr, ← D.out hr]
      exact D.next hr

/-- Two stores with the same blocks. -/
def Same [Syms] (a b : St) : Prop := a.next = b.next ∧ ∀ i, a.get i = b.get i

theorem Drawn.quiet [Syms] (D : Drawn P E n nn N ops rs c0) {j : Nat} {r : Rec} (h : rs[j]? = some r) (hk : r.k ≠ .eff) : r.ds' = r.ds ∧ r.par' = r.par := by
  have ho := D.tr.ok j r h
  cases hw : r.wanted with
  | false => obtain ⟨_, h1, h2, _⟩ := ho.skip hw; exact ⟨h1, h2⟩
  | true =>
    obtain ⟨m, _, hs⟩ := ho.run hw
    cases m with
    | zero => unfold stepOp at hs; cases hs
    | succ m => obtain ⟨_, _, _, h1, h2⟩ := stepOp_quiet (by rw [D.kls h]; exact hk) hs; exact ⟨h1, h2⟩

theorem Drawn.same [Syms] (D : Drawn P E n nn N ops rs c0) {j : Nat} {r : Rec} (h : rs[j]? = some r) (hk : r.k = .pure ∨ r.k = .read ∨ r.wanted = false) : Same r.out r.σ := by
  have ho := D.tr.ok j r h
  cases hw : r.wanted with
  | false => obtain ⟨_, _, _, h1⟩ := ho.skip hw; rw [h1]; exact ⟨rfl, fun _ => rfl⟩
  | true =>
    obtain ⟨m, _, hs⟩ := ho.run hw
    cases m with
    | zero => unfold stepOp at hs; cases hs
    | succ m =>
      rcases hk with hk | hk | hk
      · obtain ⟨σ1, h1, h2, _, _⟩ := stepOp_quiet (by rw [D.kls h, hk]; simp) hs
        obtain ⟨h3, _⟩ := aop_pure (by rw [D.kls h, hk]) h1
        subst h3
        rw [h2]; exact ⟨rfl, fun _ => rfl⟩
      · obtain ⟨σ1, h1, h2, _, _⟩ := stepOp_quiet (by rw [D.kls h, hk]; simp) hs
        obtain ⟨h4, _⟩ := readsOk_spec D.reads j r h hk hw
        have h3 := aop_read (by rw [D.kls h, hk]) h1 (by rw [h2] at h4; exact h4)
        subst h3
        rw [h2]; exact ⟨rfl, fun _ => rfl⟩
      · rw [hw] at hk; cases hk

theorem Drawn.fresh [Syms] (D : Drawn P E n nn N ops rs c0) {j : Nat} {r : Rec} (h : rs[j]? = some r) (hk : r.k = .fresh) (hw : r.wanted = true) :
    ∃ b, r.out.next = r.σ.next + 1 ∧ (∀ i, r.out.get i = if i = r.σ.next then some b else r.σ.get i) ∧ ∀ σ2 : St, σ2.next = r.σ.next → aop P E (evalO r.tmps) r.o σ2 = .val r.v (σ2.new b) := by
  obtain ⟨m, _, hs⟩ := (D.tr.ok j r h).run hw
  cases m with
  | zero => unfold stepOp at hs; cases hs
  | succ m =>
    obtain ⟨σ1, h1, h2, _, _⟩ := stepOp_quiet (by rw [D.kls h, hk]; simp) hs
    obtain ⟨b, h3, h4⟩ := aop_fresh (by rw [D.kls h, hk]) h1
    subst h3
    rw [h2]
    exact ⟨b, rfl, fun i => St.get_new _ _ _, h4⟩

/-- No operation of those from p on and ahead of j is one whose place is fixed. -/
def NoEff [Syms] (rs : List Rec) (p j : Nat) : Prop := ∀ (k : Nat) (r : Rec), p ≤ k → k < j → rs[k]? = some r → r.k ≠ .eff

structure Betw [Syms] (rs : List Rec) (c0 : Cu) (p j : Nat) : Prop where
  ds : (cur c0 rs j).ds = (cur c0 rs p).ds
  par : (cur c0 rs j).par = (cur c0 rs p).par
  base : (cur c0 rs j).base = (cur c0 rs p).base
  old : ∀ i, i < (cur c0 rs p).σ.next → (cur c0 rs j).σ.get i = (cur c0 rs p).σ.get i
  new : ∀ i, (cur c0 rs p).σ.next ≤ i → i < (cur c0 rs j).σ.next → ∃ (k : Nat) (r : Rec) (b : Blk), p ≤ k ∧ k < j ∧ rs[k]? = some r ∧ r.k = .fresh ∧ r.wanted = true ∧ r.σ.next = i ∧ r.out.get i = some b ∧ (cur c0 rs j).σ.get i = some b
  none : (∀ i, (cur c0 rs p).σ.next ≤ i → (cur c0 rs p).σ.get i = none) → ∀ i, (cur c0 rs j).σ.next ≤ i → (cur c0 rs j).σ.get i = none

theorem Drawn.betw [Syms] (D : Drawn P E n nn N ops rs c0) {p : Nat} : ∀ {j : Nat}, p ≤ j → j ≤ rs.length → NoEff rs p j → Betw rs c0 p j
  | 0, h, _, _ => by
    have : p = 0 := by omega
    subst this
    exact ⟨rfl, rfl, rfl, fun _ _ => rfl, fun i h1 h2 => absurd h1 (by omega), fun h => h⟩
  | j + 1, h, hl, hn => by
    by_cases he : p = j + 1
    · subst he
      exact ⟨rfl, rfl, rfl, fun _ _ => rfl, fun i h1 h2 => absurd h1 (by omega), fun h => h⟩
    · have hr : rs[j]? = some rs[j] := List.getElem?_eq_getElem (by omega)
      generalize rs[j] = r at hr
      have ih := D.betw (j := j) (by omega) (by omega) fun k r h1 h2 h3 => hn k r h1 (by omega) h3
      have hk : r.k ≠ .eff := hn j r (by omega) (by omega) hr
      have hmono := D.mono (i := p) (j := j) (by omega) (by omega)
      obtain ⟨q1, q2⟩ := D.quiet hr hk
      have hat := D.tr.at' j r hr
      have hds : r.ds = (cur c0 rs j).ds := by rw [← hat]; rfl
      have hpar : r.par = (cur c0 rs j).par := by rw [← hat]; rfl
      have hbase : r.base = (cur c0 rs j).base := by rw [← hat]; rfl
      have hσ := D.σ hr
      have hs := cur_succ (c0 := c0) hr
      have hout := D.out hr
      have hb : (cur c0 rs (j + 1)).base = (cur c0 rs p).base := by rw [hs]; simp only [Rec.aft, if_neg hk]; rw [hbase, ih.base]
      have hd : (cur c0 rs (j + 1)).ds = (cur c0 rs p).ds := by rw [hs]; simp only [Rec.aft]; rw [q1, hds, ih.ds]
      have hp : (cur c0 rs (j + 1)).par = (cur c0 rs p).par := by rw [hs]; simp only [Rec.aft]; rw [q2, hpar, ih.par]
      by_cases hf : r.k = .fresh ∧ r.wanted = true
      · obtain ⟨b, f1, f2, _⟩ := D.fresh hr hf.1 hf.2
        rw [hout, hσ] at f1 f2
        refine ⟨hd, hp, hb, fun i hi => ?_, fun i h1 h2 => ?_, fun h i hi => ?_⟩
        · rw [f2, if_neg (by omega), ih.old i hi]
        · by_cases hi : i = (cur c0 rs j).σ.next
          · exact ⟨j, r, b, by omega, by omega, hr, hf.1, hf.2, by rw [hσ, hi], by rw [hout, f2, if_pos hi], by rw [f2, if_pos hi]⟩
          · obtain ⟨k, r', b', k1, k2, k3, k4, k5, k6, k7, k8⟩ := ih.new i h1 (by omega)
            exact ⟨k, r', b', k1, by omega, k3, k4, k5, k6, k7, by rw [f2, if_neg hi]; exact k8⟩
        · rw [f2, if_neg (by omega)]
          exact ih.none h i (by omega)
      · have hs' : Same r.out r.σ := D.same hr (by
          cases hkk : r.k with
          | pure => exact .inl rfl
          | read => exact .inr (.inl rfl)
          | eff => exact absurd hkk hk
          | fresh =>
            refine .inr (.inr ?_)
            cases hw : r.wanted with
            | false => rfl
            | true => exact absurd ⟨hkk, hw⟩ hf)
        rw [hout, hσ] at hs'
        obtain ⟨s1, s2⟩ := hs'
        refine ⟨hd, hp, hb, fun i hi => by rw [s2, ih.old i hi], fun i h1 h2 => ?_, fun h i hi => by rw [s2]; exact ih.none h i (by omega)⟩
        obtain ⟨k, r', b', k1, k2, k3, k4, k5, k6, k7, k8⟩ := ih.new i h1 (by omega)
        exact ⟨k, r', b', k1, by omega, k3, k4, k5, k6, k7, by rw [s2]; exact k8⟩

/-- The slots, in the order of the text. -/
theorem Drawn.slot [Syms] (D : Drawn P E n nn N ops rs c0) (t : Nat) : ∀ {j : Nat}, j ≤ rs.length →
    (∃ (k : Nat) (r : Rec), k < j ∧ rs[k]? = some r ∧ r.o.dst = some t ∧ (∀ (k' : Nat) (r' : Rec), k < k' → k' < j → rs[k']? = some r' → r'.o.dst ≠ some t) ∧ (cur c0 rs j).τ.get t = some r.v) ∨
    ((∀ (k : Nat) (r : Rec), k < j → rs[k]? = some r → r.o.dst ≠ some t) ∧ (cur c0 rs j).τ.get t = c0.τ.get t)
  | 0, _ => .inr ⟨fun k r h => by omega, by simp [cur]⟩
  | j + 1, hl => by
    have hr : rs[j]? = some rs[j] := List.getElem?_eq_getElem (by omega)
    generalize rs[j] = r at hr
    have hs := cur_succ (c0 := c0) hr
    have hτ : (cur c0 rs (j + 1)).τ = putT (cur c0 rs j).τ r.o.dst r.v := by
      rw [hs]
      have hat := D.tr.at' j r hr
      have : r.tmps = (cur c0 rs j).τ := by rw [← hat]; rfl
      rw [← this]; rfl
    by_cases hd : r.o.dst = some t
    · refine .inl ⟨j, r, by omega, hr, hd, fun k' r' h1 h2 => by omega, ?_⟩
      rw [hτ, hd, putT, Tr.get_set, if_pos rfl]
    · have hget : (cur c0 rs (j + 1)).τ.get t = (cur c0 rs j).τ.get t := by
        rw [hτ]
        unfold putT
        split
        · rename_i d hdd
          rw [Tr.get_set, if_neg]
          intro e; subst e; exact hd hdd
        · rfl
      rw [hget]
      rcases D.slot t (j := j) (by omega) with ⟨k, r', k1, k2, k3, k4, k5⟩ | ⟨k1, k2⟩
      · refine .inl ⟨k, r', by omega, k2, k3, fun k' r'' h1 h2 h3 => ?_, k5⟩
        by_cases hk : k' = j
        · subst hk; rw [hr] at h3; cases h3; exact hd
        · exact k4 k' r'' h1 (by omega) h3
      · refine .inr ⟨fun k r'' h1 h2 => ?_, k2⟩
        by_cases hk : k = j
        · subst hk; rw [hr] at h2; cases h2; exact hd
        · exact k1 k r'' (by omega) h2

end

/-! ## Stores that are a function -/

structure RelF [Syms] (φ : Phi) (G : Nat → Option Blk) (h : Array Obj) : Prop where
  blocks : ∀ i b, G i = some b → ∃ x o, φ i = .live x ∧ h[x.blk]? = some o ∧ BRel φ x b o
  inj : ∀ i j x y, φ i = .live x → φ j = .live y → x.blk = y.blk → i = j
  bound : ∀ i x, φ i = .live x → x.blk < h.size

theorem RelF.rel [Syms] {φ : Phi} {G : Nat → Option Blk} {h : Array Obj} (r : RelF φ G h) {σ : St} (hσ : ∀ i, σ.get i = if i < σ.next then G i else none) : Rel φ σ h := by
  refine ⟨fun i b hb => ?_, r.inj, r.bound, fun i b hb => ?_⟩
  · rw [hσ] at hb
    split at hb
    · exact r.blocks i b hb
    · cases hb
  · rw [hσ] at hb
    split at hb
    · assumption
    · cases hb

theorem exists_st [Syms] (G : Nat → Option Blk) : ∀ (n : Nat), ∃ σ : St, σ.next = n ∧ ∀ i, σ.get i = if i < n then G i else none
  | 0 => ⟨⟨0, .leaf, []⟩, rfl, fun i => by simp [St.get, Tr.get_leaf]⟩
  | n + 1 => by
    obtain ⟨σ, h1, h2⟩ := exists_st G n
    refine ⟨⟨n + 1, σ.t.set n (G n), []⟩, rfl, fun i => ?_⟩
    show (σ.t.set n (G n)).get i = _
    rw [Tr.get_set]
    by_cases hi : i = n
    · subst hi; simp
    · rw [if_neg hi]
      have := h2 i
      unfold St.get at this
      rw [this]
      by_cases hl : i < n
      · rw [if_pos hl, if_pos (by omega)]
      · rw [if_neg hl, if_neg (by omega)]

theorem RelF.after [Syms] {φ φ' : Phi} {G : Nat → Option Blk} {w w' : World} (r : RelF φ G w.heap) {σ σ' : St} (hr : Rel φ' σ' w'.heap) (ht : Trans φ σ w φ' σ' w') :
    RelF φ' (fun i => if i < σ'.next then σ'.get i else G i) w'.heap := by
  refine ⟨fun i b hb => ?_, hr.inj, hr.bound⟩
  split at hb
  · exact hr.blocks i b hb
  · rename_i hn
    obtain ⟨x, o, h1, h2, h3⟩ := r.blocks i b hb
    have hi : σ'.next ≤ i := by omega
    refine ⟨x, o, by rw [ht.out i hi]; exact h1, ?_, h3.mono ht.le⟩
    rw [ht.frame _ (r.bound i x h1) fun k y hk hy e => ?_]
    · exact h2
    · have := r.inj k i y x hy h1 e
      have := ht.next
      omega

/-- A step of a run, seen from the run's beginning. -/
theorem Trans.widen [Syms] {φ0 φ φ' : Phi} {σ0 σ σ' σN : St} {w0 w w' : World} (T : Trans φ0 σ0 w0 φ σN w) (t : Trans φ σ w φ' σ' w') (h1 : σ0.next ≤ σ.next) (h2 : σ'.next ≤ σN.next) : Trans φ0 σ0 w0 φ' σN w' := by
  have h3 := t.next
  have key : ∀ i x, i < σN.next → φ i = .live x → (i < σ0.next ∧ φ0 i = .live x) ∨ w0.heap.size ≤ x.blk ∨ ∃ j y, j < σ0.next ∧ φ0 j = .live y ∧ y.blk = x.blk := fun i x hi hx => by
    by_cases hl : i < σ0.next
    · exact .inl ⟨hl, T.keep i x hl hx⟩
    · exact .inr (T.fresh i x (by omega) hi hx)
  refine ⟨T.next, T.le.trans t.le, fun i x hi hx => T.keep i x hi (t.keep i x (by omega) hx), fun i hi => (t.out i (by omega)).trans (T.out i hi), fun b hb hn => ?_, fun i x g1 g2 hx => ?_,
    Nat.le_trans T.size t.size, t.tape.trans T.tape, t.os.trans T.os, t.output.trans T.output, fun i hi hu => t.quiet i (by omega) (T.quiet i hi hu)⟩
  · rw [t.frame b (Nat.lt_of_lt_of_le hb T.size) fun i x hi hx e => ?_, T.frame b hb hn]
    rcases key i x (by omega) hx with ⟨k1, k2⟩ | k | ⟨j, y, k1, k2, k3⟩
    · exact hn i x k1 k2 e
    · omega
    · exact hn j y k1 k2 (k3.trans e)
  · have fin : ∀ i x, i < σN.next → φ i = .live x → w0.heap.size ≤ x.blk ∨ ∃ j y, j < σ0.next ∧ φ0 j = .live y ∧ y.blk = x.blk := fun i x hi hx => by
      rcases key i x hi hx with ⟨k1, k2⟩ | k
      · exact .inr ⟨i, x, k1, k2, rfl⟩
      · exact k
    by_cases hl : i < σ.next
    · exact fin i x (by omega) (t.keep i x hl hx)
    · by_cases hl2 : i < σ'.next
      · rcases t.fresh i x (by omega) hl2 hx with k | ⟨j, y, k1, k2, k3⟩
        · exact .inl (Nat.le_trans T.size k)
        · rcases fin j y (by omega) k2 with k | ⟨j', y', k4, k5, k6⟩
          · exact .inl (by omega)
          · exact .inr ⟨j', y', k4, k5, k6.trans k3⟩
      · rw [t.out i (by omega)] at hx
        exact fin i x g2 hx

end Go.Ab
