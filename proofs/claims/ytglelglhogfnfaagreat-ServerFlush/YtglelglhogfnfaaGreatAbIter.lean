/- Walks over maps of which at most one entry is left. -/
import Derived.Test.YtglelglhogfnfaaGreatAbOps9
namespace Go.Ab

variable {P : Program} {E : Env}

theorem aRange_sound [Syms] (hE : EnvOk P E) {φ : Phi} {σ : St} {w : World} (r : Rel φ σ w.heap) {t : Nat} {x x' : Value} (hx : Vrel φ x x') (hf : ∀ v σ', aRange E σ t x = .val v σ' → Fresh φ σ.next σ'.next) :
    OpOk φ σ w (aRange E σ t x) ((do Pure.pure (Next.value (← Instr.range t x')) : Sem Next).run P w) := by
  unfold aRange at hf ⊢
  split
  · rename_i k e hu
    simp only [hu] at hf
    simp only [Vrel] at hx
    subst hx
    obtain ⟨φ', p1, p2, p3⟩ := newObj_sound (o := .mapIter none 0 #[] 0) (b := .iter none 0 [] 0) r (hf _ _ rfl) fun φ' _ => ⟨none, rfl, rfl, by simp [Vrel]⟩
    refine ⟨φ', _, .pointer (some ⟨w.heap.size, 0, none⟩), .inl ?_, ?_, p2, p3⟩
    · simp [Instr.range, run_under hE hu, newObj, Sem.run]
    · subst p1; simp only [Vrel]; exact ⟨_, rfl, ARel.new φ σ.next _ rfl⟩
  · rename_i k e m hu
    simp only [hu] at hf
    have hx0 := hx
    simp only [Vrel] at hx
    obtain ⟨m', rfl, hm⟩ := hx
    split
    · rename_i es bs cl hg
      simp only [hg] at hf
      obtain ⟨y, o, hy, hoy, es', rfl, hb0, hent, hbs⟩ := r.blocks _ _ hg
      unfold ORel at hm
      rw [hy] at hm
      obtain ⟨rfl, _⟩ := hm
      obtain ⟨φ', p1, p2, p3⟩ := newObj_sound (o := .mapIter (some y.blk) cl #[] cl) (b := .iter (some m) cl [] cl) r (hf _ _ rfl) fun φ' hle => ⟨some y.blk, rfl, rfl, hx0.mono hle⟩
      refine ⟨φ', _, .pointer (some ⟨w.heap.size, 0, none⟩), .inl ?_, ?_, p2, p3⟩
      · simp only [Instr.range, Sem.run_bind, run_under hE hu, Result.andThen_ok, run_getObj hoy (by intro c t f e; cases e), Sem.run_pure]
        simp [newObj, Sem.run]
      · subst p1; simp only [Vrel]; exact ⟨_, rfl, ARel.new φ σ.next _ rfl⟩
    · exact trivial
  · exact trivial

/-- What is left, on both sides. -/
def LRel [Syms] (φ : Phi) : List (Value × Value × Nat) → List MapEntry → Prop
  | [], l => l = []
  | p :: ps, l => ∃ e es, l = e :: es ∧ e.key = den p.1 ∧ keyed p.1 = true ∧ Vrel φ p.2.1 e.val ∧ e.born = p.2.2 ∧ LRel φ ps es

theorem contains_any [Syms] (seen : List Nat) (b : Nat) : seen.any (Nat.beq b) = seen.toArray.contains b := by
  rw [List.contains_toArray, List.contains_eq_any_beq]
  congr 1
  funext x
  by_cases h : b = x
  · subst h; simp [Nat.beq_refl]
  · rw [beqF h]; simp [h]

theorem leftOf_rel [Syms] {φ : Phi} {seen : List Nat} : ∀ {es : List (Value × Value)} {es' : List MapEntry} {bs : List Nat}, EntRel φ es es' → es'.map (·.born) = bs →
    LRel φ (leftOf seen es bs) (es'.filter fun e => !seen.toArray.contains e.born)
  | [], es', bs, h, hb => by
    have : es' = [] := List.eq_nil_of_length_eq_zero (by simpa using h.1)
    subst this
    rfl
  | p :: es, es', bs, h, hb => by
    obtain ⟨e', fs, rfl, e1, e2, e3, e4⟩ := h.cons
    subst hb
    simp only [List.map_cons, List.filter_cons]
    have ih := leftOf_rel (seen := seen) e4 rfl
    obtain ⟨k, v⟩ := p
    rw [leftOf, contains_any]
    cases hc : seen.toArray.contains e'.born with
    | true => simpa using ih
    | false => simp only [cond_false, Bool.not_false, if_true]; exact ⟨e', _, rfl, e1, e2, e3, rfl, ih⟩

theorem aNext_sound [Syms] {φ : Phi} {σ : St} {w : World} (r : Rel φ σ w.heap) {x x' : Value} (hx : Vrel φ x x') (t : TypeId) : OpOk φ σ w (aNext σ x) ((do Pure.pure (Next.value (← Instr.next x' false t)) : Sem Next).run P w) := by
  unfold aNext
  split
  · rename_i i
    simp only [Vrel] at hx
    obtain ⟨a', rfl, ha⟩ := hx
    split
    · rename_i since seen last hg
      obtain ⟨y, o, hy, hoy, m', rfl, hb0, hm⟩ := r.blocks _ _ hg
      simp only [Vrel] at hm
      cases hm
      obtain ⟨_, he⟩ := ha.live hy
      simp only [hb0, Nat.add_zero] at he
      subst he
      refine .pure (v' := .tuple #[.bool false]) r ?_ (by simp [Vrel, VrelA, VrelL])
      simp only [Instr.next, Sem.run_bind, run_getObj hoy (by intro c t f e; cases e), Result.andThen_ok, Sem.run_pure]
    · rename_i m since seen last hg
      obtain ⟨y, o, hy, hoy, m', rfl, hb0, hm⟩ := r.blocks _ _ hg
      have hm0 := hm
      simp only [Vrel] at hm
      obtain ⟨mm, hme, hmo⟩ := hm
      cases hme
      obtain ⟨_, he⟩ := ha.live hy
      simp only [hb0, Nat.add_zero] at he
      subst he
      split
      · rename_i es bs cl hgm
        obtain ⟨z, oz, hz, hoz, es', rfl, hbz, hent, hbs⟩ := r.blocks _ _ hgm
        unfold ORel at hmo
        rw [hz] at hmo
        obtain ⟨rfl, _⟩ := hmo
        cases hstop : (!seen.isEmpty && !es.isEmpty && bs.all (Nat.ble last)) with
        | true => simp only [cond_true]; exact trivial
        | false =>
          simp only [cond_false]
          have hemp : es'.isEmpty = es.isEmpty := by
            have := hent.1
            cases es <;> simp_all [Array.isEmpty]
          have hall : es'.all (fun e => decide (e.born ≥ last)) = bs.all (Nat.ble last) := by
            rw [← hbs, ← Array.all_toList, List.all_map]
            congr 1
            funext e
            show decide (last ≤ e.born) = Nat.ble last e.born
            cases hq : Nat.ble last e.born with
            | true => simpa using Nat.le_of_ble_eq_true hq
            | false =>
              have : ¬ last ≤ e.born := fun h => by rw [Nat.ble_eq_true_of_le h] at hq; cases hq
              simpa using this
          have hstop' : ¬ ((!seen.toArray.isEmpty && !es'.isEmpty && es'.all (fun e => decide (e.born ≥ last))) = true) := by
            rw [hemp, hall]
            have : seen.toArray.isEmpty = seen.isEmpty := by cases seen <;> simp
            rw [this, hstop]; simp
          have hl := leftOf_rel (seen := seen) hent hbs
          have hleft : (es'.filter fun e => !seen.toArray.contains e.born).toList = es'.toList.filter fun e => !seen.toArray.contains e.born := by simp
          split
          · rename_i hn
            rw [hn] at hl
            simp only [LRel] at hl
            rw [hl] at hleft
            have hleft : (es'.filter fun e => !seen.toArray.contains e.born) = #[] := by apply Array.ext'; rw [hleft]
            refine .pure (v' := .tuple #[.bool false]) r ?_ (by simp [Vrel, VrelA, VrelL])
            simp only [Instr.next, Sem.run_bind, run_getObj hoy (by intro c t f e; cases e), Result.andThen_ok, run_getObj hoz (by intro c t f e; cases e)]
            rw [if_neg hstop']
            simp only [hleft]
            simp [choose, Sem.run, Question.forced]
          · rename_i k v b hn
            rw [hn] at hl
            obtain ⟨e, es1, hle, k1, k2, k3, k4, k5⟩ := hl
            simp only [LRel] at k5
            subst k5
            simp only at k1 k2 k3 k4
            rw [hle] at hleft
            have hleft : (es'.filter fun e => !seen.toArray.contains e.born) = #[e] := by apply Array.ext'; rw [hleft]
            cases hbl : Nat.blt b since with
            | false => simp only [cond_false]; exact trivial
            | true =>
              simp only [cond_true]
              have hbs' := of_bltT hbl
              obtain ⟨q1, q2⟩ := putObj_sound (b' := .iter (some m) since (seen ++ [b]) cl) (o' := .mapIter (some z.blk) since (seen.toArray.push e.born) cl) r hg hy hoy ⟨some z.blk, by rw [k4]; simp, hb0, hm0⟩
              refine ⟨φ, _, .tuple #[.bool true, e.key, e.val], .inl ?_, ?_, q1, q2⟩
              · simp only [Instr.next, Sem.run_bind, run_getObj hoy (by intro c t f e; cases e), Result.andThen_ok, run_getObj hoz (by intro c t f e; cases e)]
                rw [if_neg hstop']
                simp only [hleft]
                have h1 : (#[e] : Array MapEntry).filter (fun e => decide (e.born < since)) = #[e] := by simp [k4, hbs']
                have h2 : (#[e] : Array MapEntry).filter (fun e => decide (e.born ≥ since)) = #[] := by simp [k4]; omega
                simp only [h1, h2]
                have hs := run_setObj_map (P := P) (o' := .mapIter (some z.blk) since (seen.toArray.push e.born) cl) hoy (by intro c t f e; cases e)
                simp [choose, Sem.run, Question.forced]
                simp at hs
                simp [hs]
              · simp only [Vrel, VrelA, VrelL]
                exact ⟨_, rfl, _, _, rfl, rfl, _, _, rfl, k1 ▸ Vrel.keyed_refl φ k2, _, _, rfl, k3, rfl⟩
          · exact trivial
      · exact trivial
    · exact trivial
  · exact trivial

theorem lastOf_back : ∀ (l : List Nat), l.toArray.back? = lastOf l
  | [] => rfl
  | [b] => rfl
  | a :: b :: l => by
    rw [show lastOf (a :: b :: l) = lastOf (b :: l) from rfl, ← lastOf_back (b :: l)]
    simp

theorem findBorn_rel [Syms] {φ : Phi} {s : Nat} {k v : Value} : ∀ {es : List (Value × Value)} {es' : List MapEntry} {bs : List Nat}, EntRel φ es es'.toArray.toList → es'.map (·.born) = bs → findBorn s es bs = some (k, v) →
    ∃ e, es'.find? (fun e => e.born == s) = some e ∧ e.key = den k ∧ keyed k = true ∧ Vrel φ v e.val
  | [], es', bs, h, hb, hf => by unfold findBorn at hf; cases hf
  | p :: es, es', bs, h, hb, hf => by
    obtain ⟨e', fs, rfl, e1, e2, e3, e4⟩ := h.cons
    subst hb
    simp only [List.map_cons] at hf
    unfold findBorn at hf
    cases hq : Nat.beq e'.born s with
    | true =>
      rw [hq] at hf
      simp only [cond_true, Option.some.injEq] at hf
      subst hf
      have := of_beqT hq
      exact ⟨e', by simp [this], e1, e2, e3⟩
    | false =>
      rw [hq] at hf
      simp only [cond_false] at hf
      obtain ⟨e, h1, h2⟩ := findBorn_rel (es' := fs) e4 rfl hf
      have hne : e'.born ≠ s := fun h => by rw [h, Nat.beq_refl] at hq; cases hq
      exact ⟨e, by rw [List.find?_cons_of_neg (by simpa using hne)]; exact h1, h2⟩

theorem aEntry_sound [Syms] {φ : Phi} {σ : St} {w : World} (r : Rel φ σ w.heap) {x x' : Value} (hx : Vrel φ x x') : OpOk φ σ w (aEntry σ x) ((do Pure.pure (Next.value (← Instr.entry x')) : Sem Next).run P w) := by
  unfold aEntry
  split
  · rename_i i
    simp only [Vrel] at hx
    obtain ⟨a', rfl, ha⟩ := hx
    split
    · rename_i m since seen last hg
      obtain ⟨y, o, hy, hoy, m', rfl, hb0, hm⟩ := r.blocks _ _ hg
      simp only [Vrel] at hm
      obtain ⟨mm, hme, hmo⟩ := hm
      cases hme
      obtain ⟨_, he⟩ := ha.live hy
      simp only [hb0, Nat.add_zero] at he
      subst he
      split
      · rename_i es bs cl s hgm hl
        obtain ⟨z, oz, hz, hoz, es', rfl, hbz, hent, hbs⟩ := r.blocks _ _ hgm
        unfold ORel at hmo
        rw [hz] at hmo
        obtain ⟨rfl, _⟩ := hmo
        cases hcl : Nat.beq cl last with
        | false => exact trivial
        | true =>
          obtain rfl := of_beqT hcl
          simp only [cond_true]
          split
          · rename_i k v hf
            obtain ⟨e, h1, h2, h3, h4⟩ := findBorn_rel (es' := es'.toList) (by simpa using hent) hbs hf
            have h1' : es'.find? (fun e => e.born == s) = some e := by rw [← Array.find?_toList]; exact h1
            refine .pure (v' := .tuple #[e.key, e.val]) r ?_ ?_
            · simp only [Instr.entry, Sem.run_bind, run_getObj hoy (by intro c t f e; cases e), Result.andThen_ok, run_getObj hoz (by intro c t f e; cases e), lastOf_back, hl, h1', bne_self_eq_false, Sem.run_pure]
              rfl
            · simp only [Vrel, VrelA, VrelL]
              exact ⟨_, rfl, _, _, rfl, h2 ▸ Vrel.keyed_refl φ h3, _, _, rfl, h4, rfl⟩
          · exact trivial
      · exact trivial
    · exact trivial
  · exact trivial

end Go.Ab
