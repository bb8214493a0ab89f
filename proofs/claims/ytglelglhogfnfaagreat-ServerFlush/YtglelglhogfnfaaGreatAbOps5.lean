/- append, copy, clear; conversions; len, cap. -/
import Derived.Test.YtglelglhogfnfaaGreatAbOps4
namespace Go.Ab

variable {P : Program} {E : Env}

theorem storeN_sound' [Syms] (P : Program) {φ : Phi} {σ σ' : St} {w : World} (r : Rel φ σ w.heap) {a a' : Addr} {vs vs' : List Value} (h : storeN σ a vs = some σ') (ha : vs = [] ∨ ARel φ a a') (hv : VrelL φ vs vs') :
    ∃ w', (storeCells a' vs').run P w = .ok () w' ∧ Rel φ σ' w'.heap ∧ Trans φ σ w φ σ' w' := by
  rcases ha with rfl | ha
  · simp only [storeN, Option.some.injEq] at h
    subst h
    simp only [VrelL] at hv
    subst hv
    exact ⟨w, rfl, r, Trans.refl _ _ _⟩
  · exact storeN_sound P r h ha hv

theorem SRel.exactCap [Syms] {φ : Phi} {a a' : Addr} {l c c' : Nat} (h : SRel φ a l c a' c') (hc : ¬ openCap ≤ c) : c' = c ∧ (c = 0 ∨ ARel φ a a') := by
  unfold SRel at h
  cases hx : φ a.block with
  | unborn => simp [hx] at h
  | dead => simp only [hx, hc, false_or] at h; exact ⟨h.2, .inr (by simp [ARel, hx])⟩
  | live x => simp only [hx, hc, if_false] at h; exact h.2

theorem SRel.len [Syms] {φ : Phi} {a a' : Addr} {l c c' : Nat} (h : SRel φ a l c a' c') : l ≤ c' := by
  unfold SRel at h
  cases hx : φ a.block with
  | unborn => simp [hx] at h
  | dead => simp only [hx] at h; exact h.1
  | live x => simp only [hx] at h; exact h.1

/-- A header with another length, over the same cells. -/
theorem SRel.relen [Syms] {φ : Phi} {a a' : Addr} {l c c' m : Nat} (h : SRel φ a l c a' c') (hm : m ≤ c') : SRel φ a m c a' c' := by
  unfold SRel at *
  cases hx : φ a.block with
  | unborn => simp [hx] at h
  | dead => simp only [hx] at h ⊢; exact ⟨hm, h.2⟩
  | live x => simp only [hx] at h ⊢; exact ⟨hm, h.2⟩

theorem cellsAll_one [Syms] {φ : Phi} {vs vs' : List Value} (h : VrelL φ vs vs') (hc : cellsAll vs = true) : ∀ v ∈ vs', v.oneCell' = true := all_cells_one h hc

theorem live_of_get [Syms] {φ : Phi} {σ : St} {h : Array Obj} (r : Rel φ σ h) {i : Nat} {b : Blk} (hi : σ.get i = some b) : ∃ x, φ i = .live x := by
  obtain ⟨x, _, hx, _⟩ := r.blocks i b hi
  exact ⟨x, hx⟩

section append
variable {φ : Phi} {σ : St} {w : World} {argTypes : Array TypeId} {st xt e : TypeId} {xd : TypeDesc} {i : TypeInfo} {z : Value} {ty : TypeId}

theorem appendExact_sound [Syms] (r : Rel φ σ w.heap) (h0 : argTypes[0]? = some st) (h1 : argTypes[1]? = some xt) (hs : P.underlying st = some (.slice e)) (hx : P.underlying xt = some xd) (hi : P.info? e = some i) (hz : i.zero = some z) (hzs : z.cells.size = i.size)
    {base : Option Addr} {sLen sCap n : Nat} {s' x' : Value} {new new' : List Value} (hsv : Vrel φ (.slice base sLen sCap) s') (ha : AddRun P w xd i z x' n new') (hv : VrelL φ new new') (hb : (sLen + n) * i.bytes ≤ 70368744177664) (hn : sLen + n ≤ 70368744177664)
    (hnl : new.length = n * i.size) (hca : cellsAll new = true) (hoc : ¬ openCap ≤ sCap) (hf : ∀ v σ', appendExact σ i.size base sLen sCap n new = .val v σ' → Fresh φ σ.next σ'.next) :
    OpOk φ σ w (appendExact σ i.size base sLen sCap n new) ((do pure (.value (← Builtin.append_ argTypes ty #[s', x'])) : Sem Next).run P w) := by
  have hnl' : new'.length = n * i.size := by rw [hv.length, hnl]
  unfold appendExact at hf ⊢
  cases hle : Nat.ble (sLen + n) sCap with
  | true =>
    simp only [hle, cond_true] at hf ⊢
    have hfit := of_bleT hle
    cases base with
    | none =>
      simp only [Vrel] at hsv
      subst hsv
      cases hn0 : Nat.beq n 0 with
      | false => simp only [hn0, cond_false]; exact trivial
      | true =>
        simp only [hn0, cond_true]
        refine .pure (v' := .slice none (sLen + n) sCap) r ?_ (by simp [Vrel])
        simp only [Sem.run_bind, run_append_fits h0 h1 hs hx hi hz ha hfit hb, Result.andThen_ok, Sem.run_pure]
    | some a =>
      simp only [Vrel] at hsv
      obtain ⟨a', cap', rfl, hsr⟩ := hsv
      obtain ⟨rfl, hc⟩ := hsr.exactCap hoc
      simp only at hf ⊢
      cases hst : storeN σ (a.add (sLen * i.size)) new with
      | none => exact trivial
      | some σ' =>
        simp only [hst] at hf ⊢
        have hor : new = [] ∨ ARel φ (a.add (sLen * i.size)) (a'.add (sLen * i.size)) := by
          rcases hc with hc | hc
          · left
            apply List.eq_nil_of_length_eq_zero
            rw [hnl, show n = 0 by omega, Nat.zero_mul]
          · exact .inr (hc.add _)
        obtain ⟨w', q1, q2, q3⟩ := storeN_sound' P r hst hor hv
        refine ⟨φ, w', .slice (some a') (sLen + n) cap', .inl ?_, ?_, q2, q3⟩
        · simp only [Sem.run_bind, run_append_fits h0 h1 hs hx hi hz ha hfit hb, q1, Result.andThen_ok, Sem.run_pure]
        · simp only [Vrel]
          exact ⟨_, _, rfl, hsr.relen hfit⟩
  | false =>
    simp only [hle, cond_false] at hf ⊢
    have hfit : ¬ sLen + n ≤ sCap := by have := of_bleF hle; omega
    cases hfo : firstN σ i.size sLen (.slice base sLen sCap) with
    | none => exact trivial
    | some old =>
      simp only [hfo] at hf ⊢
      cases hsz : (Nat.beq i.size 0 || !Nat.beq old.length (sLen * i.size)) with
      | true => simp only [hsz, cond_true]; exact trivial
      | false =>
        simp only [hsz, cond_false] at hf ⊢
        have hf := hf _ _ rfl
        simp only [Bool.or_eq_false_iff, Bool.not_eq_false'] at hsz
        have hs0 : 0 < i.size := by
          rcases Nat.eq_zero_or_pos i.size with e0 | e0
          · rw [e0] at hsz; exact absurd hsz.1 (by simp)
          · exact e0
        have hol := of_beqT hsz.2
        obtain ⟨old', o1, o2⟩ := firstN_sound (P := P) r hfo hsv rfl (Nat.le_refl _)
        have hol' : old'.length = sLen * i.size := by rw [o2.length, hol]
        obtain ⟨base', hsv'⟩ : ∃ base', s' = .slice base' sLen sCap := by
          cases base with
          | none => simp only [Vrel] at hsv; exact ⟨none, hsv⟩
          | some a =>
            simp only [Vrel] at hsv
            obtain ⟨a', cap', rfl, hsr⟩ := hsv
            obtain ⟨rfl, _⟩ := hsr.exactCap hoc
            exact ⟨some a', rfl⟩
        subst hsv'
        obtain ⟨cap, c, c1, c2, c3, c4, c5⟩ := run_append_grows (ty := ty) h0 h1 hs hx hi hz hzs ha hfit hb hn o1 hol' hnl'
        have hlen : (old ++ new).length = (sLen + n) * i.size := by rw [List.length_append, hol, hnl, Nat.add_mul]
        obtain ⟨φ', p1, p2, p3⟩ := newRow_sound (w' := { w with heap := w.heap.push (.cells c e (0, 0)), drawn := w.drawn + 1 }) r hf (l := old ++ new) (c := c) (by rw [hlen, c4]; exact o2.append hv) (by rw [hlen, c3]; exact Nat.mul_le_mul_right _ c1) i.size e (0, 0) (.inl rfl) rfl rfl rfl rfl
        refine ⟨φ', _, .slice (some ⟨w.heap.size, 0, none⟩) (sLen + n) cap, .inl (by simp only [Sem.run_bind, c5, Result.andThen_ok, Sem.run_pure]), ?_, p2, p3⟩
        subst p1
        simp only [Vrel]
        refine ⟨_, _, rfl, ?_⟩
        unfold SRel
        simp only [Phi.upd_same, Nat.le_refl, if_true]
        exact ⟨c1, trivial, hs0, by rw [hlen]; simpa using Nat.mul_le_mul_right i.size c1, by rw [c3]; simp, c2, .inr (ARel.new φ σ.next _ rfl)⟩

theorem appendOpen_sound [Syms] (r : Rel φ σ w.heap) (h0 : argTypes[0]? = some st) (h1 : argTypes[1]? = some xt) (hs : P.underlying st = some (.slice e)) (hx : P.underlying xt = some xd) (hi : P.info? e = some i) (hz : i.zero = some z) (hzs : z.cells.size = i.size)
    {a : Addr} {sLen sCap n : Nat} {s' x' : Value} {new new' : List Value} (hsv : Vrel φ (.slice (some a) sLen sCap) s') (ha : AddRun P w xd i z x' n new') (hv : VrelL φ new new') (hb : (sLen + n) * i.bytes ≤ 70368744177664) (hn : sLen + n ≤ 70368744177664)
    (hnl : new.length = n * i.size) (hca : cellsAll new = true) (hoc : openCap ≤ sCap) (hf : ∀ v σ', appendOpen σ i.size a sLen sCap (sLen + n) new = .val v σ' → Fresh φ σ.next σ'.next) :
    OpOk φ σ w (appendOpen σ i.size a sLen sCap (sLen + n) new) ((do pure (.value (← Builtin.append_ argTypes ty #[s', x'])) : Sem Next).run P w) := by
  have hnl' : new'.length = n * i.size := by rw [hv.length, hnl]
  simp only [Vrel] at hsv
  obtain ⟨a', cap', rfl, hsr⟩ := hsv
  unfold appendOpen at hf ⊢
  split
  · rename_i old l esz hld hg
    simp only [hld, hg] at hf
    cases hq : (Nat.beq esz i.size && !Nat.beq i.size 0) with
    | false => simp only [cond_false]; exact trivial
    | true =>
      simp only [hq, cond_true] at hf ⊢
      have hq := andT hq
      have hez := of_beqT hq.1
      have hs0 : 0 < i.size := by
        rcases Nat.eq_zero_or_pos i.size with e0 | e0
        · rw [e0] at hq; exact absurd hq.2 (by simp)
        · exact e0
      obtain ⟨x, c, ty', fr, hx', ho, hbr⟩ := r.cells hg
      obtain ⟨_, _, _, heq, k2, k3, k4, k5, k6, k7⟩ := id hbr
      cases heq
      have hsr0 := hsr
      unfold SRel at hsr
      simp only [hx', hoc, if_true] at hsr
      obtain ⟨g2, g0, g1, g3, g4, g5, g6⟩ := hsr
      have hxe : x.esz = i.size := by omega
      rw [hxe] at g3 g4
      have hid := r.ids _ _ hg
      have hold : old.length = sLen * i.size := by
        unfold loadN at hld
        simp only [g0, hg] at hld
        cases hq2 : Nat.beq ((l.drop a.off).take (sLen * i.size)).length (sLen * i.size) with
        | false => rw [hq2] at hld; cases hld
        | true => rw [hq2] at hld; simp only [cond_true, Option.some.injEq] at hld; rw [← hld]; exact of_beqT hq2
      have hold2 : old = (l.drop a.off).take (sLen * i.size) := by
        unfold loadN at hld
        simp only [g0, hg] at hld
        cases hq2 : Nat.beq ((l.drop a.off).take (sLen * i.size)).length (sLen * i.size) with
        | false => rw [hq2] at hld; cases hld
        | true => rw [hq2] at hld; simp only [cond_true, Option.some.injEq] at hld; exact hld.symm
      have hArel : cap' = 0 ∨ ARel φ a a' := g6
      cases hle : Nat.ble (a.off + (sLen + n) * i.size) l.length with
      | true =>
        simp only [hle, cond_true] at hf ⊢
        have hle := of_bleT hle
        have hfit : sLen + n ≤ cap' := by
          have : (sLen + n) * i.size ≤ cap' * i.size := by omega
          exact Nat.le_of_mul_le_mul_right this hs0
        cases hst : storeN σ (a.add (sLen * i.size)) new with
        | none => exact trivial
        | some σ' =>
          have hor : new = [] ∨ ARel φ (a.add (sLen * i.size)) (a'.add (sLen * i.size)) := by
            rcases hArel with hc | hc
            · left
              apply List.eq_nil_of_length_eq_zero
              rw [hnl, show n = 0 by omega, Nat.zero_mul]
            · exact .inr (hc.add _)
          obtain ⟨w', q1, q2, q3⟩ := storeN_sound' P r hst hor hv
          refine ⟨φ, w', .slice (some a') (sLen + n) cap', .inl ?_, ?_, q2, q3⟩
          · simp only [Sem.run_bind, run_append_fits h0 h1 hs hx hi hz ha hfit hb, q1, Result.andThen_ok, Sem.run_pure]
          · simp only [Vrel]
            exact ⟨_, _, rfl, hsr0.relen hfit⟩
      | false =>
        simp only [hle, cond_false] at hf ⊢
        have hf := hf _ _ rfl
        have hlen : (old ++ new).length = (sLen + n) * i.size := by rw [List.length_append, hold, hnl, Nat.add_mul]
        have hun : φ σ.next = .unborn := hf σ.next (Nat.le_refl _) (by simp)
        have hne : σ.next ≠ a.block := by omega
        by_cases hfit : sLen + n ≤ cap'
        · -- it grows in place
          have hmul : (sLen + n) * i.size ≤ cap' * i.size := Nat.mul_le_mul_right _ hfit
          have hexp : (sLen + n) * i.size = sLen * i.size + n * i.size := Nat.add_mul _ _ _
          have hstore : ∃ w' c', (storeCells (a'.add (sLen * i.size)) new').run P w = .ok () w' ∧ w'.heap[x.blk]? = some (.cells c' ty' fr) ∧ c'.toList = over c.toList (x.base + a.off + sLen * i.size) new' ∧ w'.heap.size = w.heap.size ∧ (∀ k, k ≠ x.blk → w'.heap[k]? = w.heap[k]?) ∧
              w'.tape = w.tape ∧ w'.os = w.os ∧ w'.output = w.output := by
            rcases hArel with hc | hc
            · have hn0 : new' = [] := List.eq_nil_of_length_eq_zero (by rw [hnl', show n = 0 by omega, Nat.zero_mul])
              subst hn0
              refine ⟨w, c, rfl, ho, ?_, rfl, fun _ _ => rfl, rfl, rfl, rfl⟩
              rw [over_eq _ _ _ (by simp; omega)]
              simp
            · obtain ⟨_, he'⟩ := hc.live hx'
              have hadd : a'.add (sLen * i.size) = ⟨x.blk, x.base + a.off + sLen * i.size, none⟩ := by rw [he', addr_add]
              rw [hadd]
              obtain ⟨w', c', r1, r2, r3, r4, r5, r6, r7, r8⟩ := run_storeCells_over P x.blk (x.base + a.off + sLen * i.size) ty' fr new' 0 c w ho (frOk k6) (by rw [hnl']; omega) (cellsAll_one hv hca)
              exact ⟨w', c', r1, r2, r3, r4, r5, r6, r7, r8⟩
          obtain ⟨w', c', q1, q2, q3, q4, q5, q6, q7, q8⟩ := hstore
          have hcs : c'.size = c.size := by
            have := congrArg List.length q3
            rw [over_length _ _ _ (by simp [hnl']; omega)] at this
            simpa using this
          let y : Ext := ⟨x.blk, x.base + a.off, x.tot - a.off, (sLen + n) * i.size, i.size⟩
          have hcells : VrelL φ (old ++ new) ((c'.toList.drop (x.base + a.off)).take ((sLen + n) * i.size)) := by
            refine VrelL.of_get (by rw [hlen]; simp [hcs]; omega) fun k v hk => ?_
            have hkl : k < (sLen + n) * i.size := by rw [← hlen]; exact (List.getElem?_eq_some_iff.1 hk).1
            rw [List.getElem?_take, if_pos hkl, List.getElem?_drop, q3, over_get _ _ _ (by simp [hnl']; omega)]
            by_cases hko : k < sLen * i.size
            · rw [if_neg (by omega)]
              rw [List.getElem?_append_left (by omega), hold2, List.getElem?_take, if_pos hko, List.getElem?_drop] at hk
              obtain ⟨v', u1, u2⟩ := k7.get hk
              rw [List.getElem?_take] at u1
              split at u1
              · rw [List.getElem?_drop] at u1
                exact ⟨v', by rw [← u1]; congr 1; omega, u2⟩
              · cases u1
            · rw [if_pos (by rw [hnl']; omega)]
              rw [List.getElem?_append_right (by omega), hold] at hk
              obtain ⟨v', u1, u2⟩ := hv.get hk
              exact ⟨v', by rw [← u1]; congr 1; omega, u2⟩
          have hle' : PLe φ ((φ.upd a.block .dead).upd σ.next (.live y)) := (PLe.kill hx').trans (PLe.upd_unborn (by rw [Phi.upd_other _ _ hne]; exact hun))
          have hrel := r.regrow (y := y) (b := .cells (old ++ new) i.size) (o := .cells c' ty' fr) hx' hid hun rfl q4 q2 q5 ⟨c', ty', fr, rfl, by simp only [y]; omega, hlen, by simp only [y]; omega, ⟨rfl, fun h => absurd (show i.size = 0 from h) (by omega)⟩, by rw [hcs]; exact k6, hcells.mono hle'⟩
          have htr := Trans.regrow (y := y) (b := .cells (old ++ new) i.size) (w := w) (w' := w') hx' hid hun rfl q4 q5 q6 q7 q8
          refine ⟨_, w', .slice (some a') (sLen + n) cap', .inl ?_, ?_, hrel, htr⟩
          · simp only [Sem.run_bind, run_append_fits h0 h1 hs hx hi hz ha hfit hb, q1, Result.andThen_ok, Sem.run_pure]
          · simp only [Vrel]
            refine ⟨_, _, rfl, ?_⟩
            unfold SRel
            simp only [Phi.upd_same, Nat.le_refl, if_true]
            refine ⟨hfit, trivial, hs0, by simp only [y]; omega, by simp only [y]; omega, g5, ?_⟩
            rcases hArel with hc | hc
            · exact .inl hc
            · right
              obtain ⟨_, he'⟩ := hc.live hx'
              rw [he']
              unfold ARel
              simp [y]
        · -- it moves
          have hsv' : Vrel φ (.slice (some a) sLen sCap) (.slice (some a') sLen cap') := by simp only [Vrel]; exact ⟨_, _, rfl, hsr0⟩
          obtain ⟨old', o1, o2⟩ := firstN_sound (P := P) (w := w) (size := i.size) (n := sLen) (vs := old) r (by simp only [firstN]; exact hld) hsv' rfl (Nat.le_refl _)
          have hol' : old'.length = sLen * i.size := by rw [o2.length, hold]
          obtain ⟨cap, cc, c1, c2, c3, c4, c5⟩ := run_append_grows (ty := ty) h0 h1 hs hx hi hz hzs ha hfit hb hn o1 hol' hnl'
          have r1 := r.kill hx'
          have hle1 := PLe.kill hx'
          obtain ⟨φ', p1, p2, p3⟩ := newRow_sound (w' := { w with heap := w.heap.push (.cells cc e (0, 0)), drawn := w.drawn + 1 }) r1 (fun j j1 j2 => by
              have : j = σ.next := by simp at j1 j2; omega
              subst this
              rw [Phi.upd_other _ _ hne]
              exact hun) (l := old ++ new) (c := cc) (by rw [hlen, c4]; exact (o2.append hv).mono hle1) (by rw [hlen, c3]; exact Nat.mul_le_mul_right _ c1) i.size e (0, 0) (.inl rfl) rfl rfl rfl rfl
          refine ⟨φ', _, .slice (some ⟨w.heap.size, 0, none⟩) (sLen + n) cap, .inl (by simp only [Sem.run_bind, c5, Result.andThen_ok, Sem.run_pure]), ?_, p2, (Trans.kill hx' hid).trans p3⟩
          subst p1
          simp only [Vrel]
          refine ⟨_, _, rfl, ?_⟩
          unfold SRel
          simp only [St.next_kill, Phi.upd_same, Nat.le_refl, if_true]
          exact ⟨c1, trivial, hs0, by rw [hlen]; simpa using Nat.mul_le_mul_right i.size c1, by rw [c3]; simp, c2, .inr (ARel.new _ σ.next _ rfl)⟩
  · exact trivial

end append
end Go.Ab
