/- Maps. -/
import Derived.Test.YtglelglhogfnfaaGreatAbOps7
namespace Go.Ab

variable {P : Program} {E : Env}

theorem keyKind_closed [Syms] {kt : Nat} {k : Value} {kd : KeyKind} (h : keyKind E kt k = some kd) (empty : Bool) (ho : keyOk P empty kt kd k = true) : keyed k = true := by
  unfold keyKind at h
  split at h
  · split at h
    · rfl
    · rfl
    · cases h
  · split at h
    · rfl
    · rfl
    · cases h
  · split at h
    · cases h
      simp only [keyOk, Bool.and_eq_true] at ho
      exact keyed_of_closed ho.1
    · cases h
  · cases h

theorem checkKey_int [Syms] {d kt : Nat} {ik : IntKind} {v : Value} {empty : Bool} (h : P.underlying kt = some (.int ik)) (w : World) : (Instr.checkKey empty (d + 1) kt v).run P w = .ok () w := by
  simp [Instr.checkKey, underlying, h]
theorem checkKey_str [Syms] {d kt : Nat} {v : Value} {empty : Bool} (h : P.underlying kt = some .string) (w : World) : (Instr.checkKey empty (d + 1) kt v).run P w = .ok () w := by
  simp [Instr.checkKey, underlying, h]

theorem run_checkKey [Syms] (hE : EnvOk P E) {kt : Nat} {k : Value} {kd : KeyKind} (h : keyKind E kt k = some kd) {empty : Bool} (ho : keyOk P empty kt kd k = true) (w : World) : (Instr.checkKey empty 10000 kt (den k)).run P w = .ok () w := by
  unfold keyKind at h
  split at h
  · rename_i ik hu
    exact checkKey_int (d := 9999) (hE.under hu) w
  · rename_i hu
    exact checkKey_str (d := 9999) (hE.under hu) w
  · split at h
    · cases h
      simp only [keyOk, Bool.and_eq_true, Option.isSome_iff_exists] at ho
      obtain ⟨hc, u, hu⟩ := ho
      rw [den_closed hc]
      exact pureRun_sound P _ _ hu w
    · cases h
  · cases h

theorem ba_beq [Syms] (a b : ByteArray) : (a == b) = (a.data == b.data) := by cases a; cases b; rfl

/-- What a search in the machine's map finds. -/
def FindRel [Syms] (φ : Phi) : Option (Nat × Value) → Option (Nat × Value) → Prop
  | none, none => True
  | some (i, v), some (j, u) => i = j ∧ Vrel φ v u
  | _, _ => False

theorem EntRel.cons [Syms] {φ : Phi} {p : Value × Value} {es : List (Value × Value)} {es' : List MapEntry} (h : EntRel φ (p :: es) es') : ∃ e' fs, es' = e' :: fs ∧ e'.key = den p.1 ∧ keyed p.1 = true ∧ Vrel φ p.2 e'.val ∧ EntRel φ es fs := by
  obtain ⟨h1, h2⟩ := h
  cases es' with
  | nil => simp at h1
  | cons e' fs =>
    obtain ⟨q, e1, e2, e3, e4⟩ := h2 0 p (by simp)
    simp only [List.getElem?_cons_zero, Option.some.injEq] at e1
    subst e1
    exact ⟨_, _, rfl, e2, e3, e4, by simpa using h1, fun k p' hk => by simpa using h2 (k + 1) p' (by simpa using hk)⟩

theorem findNow_sound [Syms] (hE : EnvOk P E) {φ : Phi} {kt : Nat} {d : TypeDesc} {kd : KeyKind} {k : Value} (hd : (∃ ik, d = .int ik ∧ kd = .int) ∨ (d = .string ∧ kd = .str)) : ∀ {es : List (Value × Value)} {es' : List MapEntry} {i : Nat} {r : Option (Nat × Value)}, EntRel φ es es' → findKey P E kt kd k es i = some r →
    ∃ r', Instr.findNow d (den k) es' i = some r' ∧ FindRel φ r r'
  | [], es', i, r, he, h => by
    have : es' = [] := List.eq_nil_of_length_eq_zero (by simpa using he.1)
    subst this
    simp only [findKey, Option.some.injEq] at h
    subst h
    exact ⟨none, rfl, trivial⟩
  | (k', v) :: es, es', i, r, he, h => by
    obtain ⟨e', fs, rfl, e1, e2, e3, e4⟩ := he.cons
    simp only at e1 e2 e3
    have hs : ∀ b, keyEq P E kt kd k k' = some b → Instr.sameNow d (den k) e'.key = some b := by
      intro b hb
      rw [e1]
      unfold keyEq at hb
      rcases hd with ⟨ik, rfl, rfl⟩ | ⟨rfl, rfl⟩
      · simp only at hb
        split at hb
        · split at hb
          · rename_i hk; subst hk; simpa [Instr.sameNow, den] using hb
          · cases hb
        · obtain ⟨_, _, kk, m, n, q1, q2, q3⟩ := hE.keq _ _ _ _ hb
          rw [q1, q2, q3]; simp [Instr.sameNow]
      · simp only at hb
        split at hb
        · rename_i m n
          simp only [Option.some.injEq] at hb
          simp only [Instr.sameNow, den]
          rw [← hb, bytesEq_eq]
          congr 1
          cases hq : (m.data.toList == n.data.toList) with
          | true =>
            have : m = n := by apply ByteArray.ext; apply Array.ext'; simpa using hq
            rw [this, ba_beq]; exact beq_self_eq_true n.data
          | false =>
            have : m ≠ n := fun e => by subst e; simp at hq
            rw [ba_beq]; exact beq_false_of_ne fun e => this (by apply ByteArray.ext; exact e)
        · obtain ⟨_, _, m, n, q1, q2, q3⟩ := hE.keq _ _ _ _ hb
          rw [q1, q2, q3]; simp [Instr.sameNow]
    unfold findKey at h
    unfold Instr.findNow
    split at h
    · rename_i hk
      rw [hs true hk]
      simp only [Option.some.injEq] at h
      subst h
      exact ⟨_, rfl, rfl, e3⟩
    · rename_i hk
      rw [hs false hk]
      exact findNow_sound hE hd e4 h
    · cases h

theorem cond_someT [Syms] {α : Type} {b : Bool} {o : Option α} {a : α} (h : (bif b then o else none) = some a) : b = true ∧ o = some a := by cases b <;> simp_all

theorem findAsking_sound [Syms] {φ : Phi} {kt : Nat} {k : Value} (w : World) : ∀ {es : List (Value × Value)} {es' : List MapEntry} {i : Nat} {r : Option (Nat × Value)}, EntRel φ es es' → findKey P E kt .ask k es i = some r →
    ∃ r', (Instr.findAsking kt k es' i).run P w = .ok r' w ∧ FindRel φ r r'
  | [], es', i, r, he, h => by
    have : es' = [] := List.eq_nil_of_length_eq_zero (by simpa using he.1)
    subst this
    simp only [findKey, Option.some.injEq] at h
    subst h
    exact ⟨none, rfl, trivial⟩
  | (k', v) :: es, es', i, r, he, h => by
    obtain ⟨e', fs, rfl, e1, e2, e3, e4⟩ := he.cons
    simp only at e1 e2 e3
    unfold findKey at h
    split at h
    · rename_i hk
      simp only [Option.some.injEq] at h
      subst h
      obtain ⟨hcl, hk⟩ := cond_someT hk
      have := pureRun_sound P _ _ hk w
      rw [den_closed hcl] at e1
      rw [← e1] at this
      exact ⟨some (i, e'.val), by simp [Instr.findAsking, this], rfl, e3⟩
    · rename_i hk
      obtain ⟨hcl, hk⟩ := cond_someT hk
      have := pureRun_sound P _ _ hk w
      rw [den_closed hcl] at e1
      rw [← e1] at this
      obtain ⟨r', q1, q2⟩ := findAsking_sound w e4 h
      exact ⟨r', by simp [Instr.findAsking, this, q1], q2⟩
    · cases h

theorem aFind_sound [Syms] (hE : EnvOk P E) {φ : Phi} {kt : Nat} {k : Value} {es : List (Value × Value)} {es' : List MapEntry} {empty : Bool} {r : Option (Nat × Value)} (h : aFind P E kt k es empty = some r) (he : EntRel φ es es') (w : World) :
    (Instr.checkKey empty 10000 kt (den k)).run P w = .ok () w ∧ keyed k = true ∧ ∃ r', (Instr.findKey kt (den k) es').run P w = .ok r' w ∧ FindRel φ r r' := by
  unfold aFind at h
  cases hk : keyKind E kt k with
  | none => simp [hk] at h
  | some kd =>
    simp only [hk, Option.bind_some] at h
    cases ho : keyOk P empty kt kd k with
    | false => simp only [ho, cond_false] at h; cases h
    | true =>
      simp only [ho, cond_true] at h
      refine ⟨run_checkKey hE hk ho w, keyKind_closed hk empty ho, ?_⟩
      unfold keyKind at hk
      split at hk
      · rename_i ik hu
        have hkd : kd = .int := by split at hk <;> cases hk <;> rfl
        subst hkd
        obtain ⟨r', q1, q2⟩ := findNow_sound hE (d := .int ik) (.inl ⟨ik, rfl, rfl⟩) he h
        exact ⟨r', by simp [Instr.findKey, run_under hE hu, q1], q2⟩
      · rename_i hu
        have hkd : kd = .str := by split at hk <;> cases hk <;> rfl
        subst hkd
        obtain ⟨r', q1, q2⟩ := findNow_sound hE (d := .string) (.inr ⟨rfl, rfl⟩) he h
        exact ⟨r', by simp [Instr.findKey, run_under hE hu, q1], q2⟩
      · rename_i fs hu
        split at hk
        · rename_i cs
          cases hk
          have hck : closed (.agg cs) = true := by
            simp only [keyOk, Bool.and_eq_true] at ho; exact ho.1
          rw [den_closed hck]
          cases es' with
          | nil =>
            have : es = [] := List.eq_nil_of_length_eq_zero (by simpa using he.1.symm)
            subst this
            simp only [findKey, Option.some.injEq] at h
            subst h
            exact ⟨none, by simp [Instr.findKey, run_under hE hu, Instr.findNow], trivial⟩
          | cons e' fs' =>
            obtain ⟨r', q1, q2⟩ := findAsking_sound w he h
            exact ⟨r', by simp [Instr.findKey, run_under hE hu, Instr.findNow, Instr.sameNow, q1], q2⟩
        · cases hk
      · cases hk

theorem mapOf_sound [Syms] {φ : Phi} {σ : St} {w : World} (r : Rel φ σ w.heap) {m m' : Value} {es : List (Value × Value)} (h : mapOf σ m = some es) (hm : Vrel φ m m') :
    (m' = .map none ∧ es = []) ∨ ∃ b es' cl, m' = .map (some b) ∧ w.heap[b]? = some (.map es' cl) ∧ EntRel φ es es'.toList := by
  unfold mapOf at h
  split at h
  · simp only [Vrel] at hm; simp only [Option.some.injEq] at h; exact .inl ⟨hm, h.symm⟩
  · rename_i i
    simp only [Vrel] at hm
    obtain ⟨b, rfl, ho⟩ := hm
    split at h
    · rename_i es0 bs cl hg
      simp only [Option.some.injEq] at h
      subst h
      obtain ⟨y, o, hy, hoy, es', rfl, _, hent, _⟩ := r.blocks _ _ hg
      unfold ORel at ho
      rw [hy] at ho
      obtain ⟨rfl, _⟩ := ho
      exact .inr ⟨_, es', cl, rfl, hoy, hent⟩
    · cases h
  · cases h

theorem aLookup_sound [Syms] (hE : EnvOk P E) {φ : Phi} {σ : St} {w : World} (r : Rel φ σ w.heap) {t : Nat} {m m' k k' v : Value} {ok : Bool} (h : aLookup P E σ t m k ok = some v) (hm : Vrel φ m m') (hk : Vrel φ k k') :
    ∃ v', (Instr.lookup t m' k' ok).run P w = .ok v' w ∧ Vrel φ v v' := by
  unfold aLookup at h
  split at h
  · rename_i kt et hu
    split at h
    · rename_i es z hmo hz
      cases hf : aFind P E kt k es es.isEmpty with
      | none => simp [hf] at h
      | some q =>
        simp only [hf, Option.map_some, Option.some.injEq] at h
        have fin : ∀ {es' : List MapEntry}, EntRel φ es es' → ∀ emp, emp = es.isEmpty → (Instr.checkKey emp 10000 kt k').run P w = .ok () w ∧ ∃ q', (Instr.findKey kt k' es').run P w = .ok q' w ∧ FindRel φ q q' := by
          intro es' hent emp hemp
          subst hemp
          obtain ⟨f1, f2, q', f3, f4⟩ := aFind_sound hE hf hent w
          have hkk := Vrel.keyed_eq f2 hk
          subst hkk
          exact ⟨f1, q', f3, f4⟩
        have out : ∀ q', FindRel φ q q' → Vrel φ v (match q' with | some (_, u) => if ok then .tuple #[u, .bool true] else u | none => if ok then .tuple #[z, .bool false] else z) := by
          intro q' hq
          subst h
          cases q with
          | none =>
            cases q' with
            | some _ => simp [FindRel] at hq
            | none =>
              simp only
              split
              · simp only [Vrel, VrelA, VrelL]; exact ⟨_, rfl, _, _, rfl, Vrel.closed_refl φ z (hE.zclosed _ _ hz), _, _, rfl, rfl, rfl⟩
              · exact Vrel.closed_refl φ z (hE.zclosed _ _ hz)
          | some p =>
            obtain ⟨i, u⟩ := p
            cases q' with
            | none => simp [FindRel] at hq
            | some p' =>
              obtain ⟨j, u'⟩ := p'
              obtain ⟨_, f5⟩ := hq
              simp only
              split
              · simp only [Vrel, VrelA, VrelL]; exact ⟨_, rfl, _, _, rfl, f5, _, _, rfl, rfl, rfl⟩
              · exact f5
        rcases mapOf_sound r hmo hm with ⟨rfl, rfl⟩ | ⟨b, es', cl, rfl, hb, hent⟩
        · obtain ⟨g1, q', g2, g3⟩ := fin (es' := []) ⟨rfl, fun k p hk => by simp at hk⟩ true rfl
          refine ⟨_, ?_, out q' g3⟩
          cases q' with
          | none => cases ok <;> simp [Instr.lookup, run_under hE hu, g1, g2, run_zero hE hz]
          | some p => cases ok <;> simp [Instr.lookup, run_under hE hu, g1, g2]
        · have hemp : es'.isEmpty = es.isEmpty := by
            have := hent.1
            cases es <;> simp_all [Array.isEmpty]
          obtain ⟨g1, q', g2, g3⟩ := fin hent es'.isEmpty hemp
          refine ⟨_, ?_, out q' g3⟩
          cases q' with
          | none => cases ok <;> simp [Instr.lookup, run_under hE hu, run_getObj hb (by intro c t f e; cases e), g1, g2, run_zero hE hz]
          | some p => cases ok <;> simp [Instr.lookup, run_under hE hu, run_getObj hb (by intro c t f e; cases e), g1, g2]
    · cases h
  · cases h

end Go.Ab
