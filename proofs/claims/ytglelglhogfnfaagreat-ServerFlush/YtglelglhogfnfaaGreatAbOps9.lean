/- Writes to maps; calls; the whole of one operation. -/
import Derived.Test.YtglelglhogfnfaaGreatAbOps8
namespace Go.Ab

variable {P : Program} {E : Env}

theorem EntRel.set [Syms] {φ : Phi} {es : List (Value × Value)} {es' : Array MapEntry} (h : EntRel φ es es'.toList) {i : Nat} {k v v' : Value} (hk : keyed k = true) (hv : Vrel φ v v') : EntRel φ (es.set i (k, v)) (es'.modify i fun e => { e with key := den k, val := v' }).toList := by
  obtain ⟨h1, h2⟩ := h
  refine ⟨by simpa using h1, fun j p hj => ?_⟩
  rw [List.getElem?_set] at hj
  have hm : (es'.modify i fun e => { e with key := den k, val := v' }).toList[j]? = (es'.modify i fun e => { e with key := den k, val := v' })[j]? := by rw [Array.getElem?_toList]
  rw [hm, Array.getElem?_modify]
  split at hj
  · rename_i he
    subst he
    split at hj
    · rename_i hl
      simp only [Option.some.injEq] at hj
      subst hj
      obtain ⟨e', q1, _⟩ := h2 i es[i] (List.getElem?_eq_getElem hl)
      have q1' : es'[i]? = some e' := by simpa using q1
      exact ⟨{ e' with key := den k, val := v' }, by simp [q1'], rfl, hk, hv⟩
    · cases hj
  · rename_i he
    obtain ⟨e', q1, q2⟩ := h2 j p hj
    have q1' : es'[j]? = some e' := by simpa using q1
    exact ⟨e', by rw [if_neg he]; exact q1', q2⟩

theorem EntRel.push [Syms] {φ : Phi} {es : List (Value × Value)} {es' : Array MapEntry} (h : EntRel φ es es'.toList) {k v v' : Value} {b : Nat} (hk : keyed k = true) (hv : Vrel φ v v') : EntRel φ (es ++ [(k, v)]) (es'.push { key := den k, val := v', born := b }).toList := by
  obtain ⟨h1, h2⟩ := h
  refine ⟨by simpa using h1, fun j p hj => ?_⟩
  have h1' : es'.size = es.length := by simpa using h1
  simp only [Array.toList_push]
  rcases Nat.lt_or_ge j es.length with hl | hl
  · rw [List.getElem?_append_left hl] at hj
    obtain ⟨e', q1, q2⟩ := h2 j p hj
    exact ⟨e', by rw [List.getElem?_append_left (by omega)]; exact q1, q2⟩
  · rw [List.getElem?_append_right hl] at hj
    cases hd : j - es.length with
    | zero =>
      rw [hd] at hj
      simp only [List.getElem?_cons_zero, Option.some.injEq] at hj
      subst hj
      refine ⟨{ key := den k, val := v', born := b }, ?_, rfl, hk, hv⟩
      rw [List.getElem?_append_right (by omega), h1, hd]
      rfl
    | succ n => rw [hd] at hj; simp at hj

theorem erase_toList [Syms] {α : Type} (es' : Array α) (i : Nat) : (es'.eraseIdxIfInBounds i).toList = es'.toList.eraseIdx i := by
  unfold Array.eraseIdxIfInBounds
  split
  · simp
  · rename_i hi
    rw [List.eraseIdx_of_length_le (by simpa using hi)]
theorem born_erase [Syms] {es' : Array MapEntry} {bs : List Nat} (h : es'.toList.map (·.born) = bs) (i : Nat) : (es'.eraseIdxIfInBounds i).toList.map (·.born) = bs.eraseIdx i := by
  rw [erase_toList, ← h]
  generalize es'.toList = l
  induction l generalizing i with
  | nil => simp
  | cons x l ih => cases i <;> simp [ih]
theorem born_modify [Syms] {es' : Array MapEntry} {bs : List Nat} (h : es'.toList.map (·.born) = bs) (i : Nat) (k v : Value) : (es'.modify i fun e => { e with key := k, val := v }).toList.map (·.born) = bs := by
  rw [← h]
  apply List.ext_getElem?
  intro j
  rw [List.getElem?_map, List.getElem?_map, Array.getElem?_toList, Array.getElem?_toList, Array.getElem?_modify]
  split
  · rename_i he; subst he; cases es'[i]? <;> simp
  · rfl

theorem EntRel.erase [Syms] {φ : Phi} {es : List (Value × Value)} {es' : Array MapEntry} (h : EntRel φ es es'.toList) (i : Nat) : EntRel φ (es.eraseIdx i) (es'.eraseIdxIfInBounds i).toList := by
  obtain ⟨h1, h2⟩ := h
  have he : (es'.eraseIdxIfInBounds i).toList = es'.toList.eraseIdx i := by
    unfold Array.eraseIdxIfInBounds
    split
    · simp
    · rename_i hi
      rw [List.eraseIdx_of_length_le (by simpa using hi)]
  rw [he]
  refine ⟨by rw [List.length_eraseIdx, List.length_eraseIdx, h1], fun j p hj => ?_⟩
  rw [List.getElem?_eraseIdx] at hj ⊢
  split at hj
  · rename_i hl; simp only [hl, if_true]; exact h2 j p hj
  · rename_i hl; simp only [hl, if_false]; exact h2 (j + 1) p hj

theorem find_some [Syms] {φ : Phi} {i : Nat} {u : Value} {q : Option (Nat × Value)} (h : FindRel φ (some (i, u)) q) : ∃ u', q = some (i, u') ∧ Vrel φ u u' := by
  cases q with
  | none => simp [FindRel] at h
  | some p => obtain ⟨j, u'⟩ := p; obtain ⟨rfl, h2⟩ := h; exact ⟨u', rfl, h2⟩
theorem find_none [Syms] {φ : Phi} {q : Option (Nat × Value)} (h : FindRel φ none q) : q = none := by
  cases q with
  | none => rfl
  | some p => simp [FindRel] at h

theorem sameBits_plain [Syms] {v : Value} (h : plainOut v = true) (n : Nat) : Instr.sameBits n v v = true := by
  cases v with
  | string s => simp only [Instr.sameBits, ba_beq]; exact beq_self_eq_true s.data
  | _ => first | (simp [plainOut] at h; done) | simp [Instr.sameBits]

/-- Keys that are one to the bit: so is what they stand for. -/
theorem sameBits_den [Syms] {a b : Value} (h : Instr.sameBits 10000 a b = true) : Instr.sameBits 10000 (den a) (den b) = true := by
  have sym : ∀ i (v : Value), (Instr.sameBits 10000 (.complex .f64 i 0) v = true ∨ Instr.sameBits 10000 v (.complex .f64 i 0) = true) → v = .complex .f64 i 0 := by
    intro i v hv
    cases v <;> simp [Instr.sameBits] at hv
    rename_i k p q
    rcases hv with ⟨⟨rfl, rfl⟩, rfl⟩ | ⟨⟨rfl, rfl⟩, rfl⟩ <;> rfl
  cases ha : isSym a with
  | true =>
    obtain ⟨i, rfl⟩ := isSym_spec ha
    rw [sym i b (.inl h)]
    exact sameBits_plain (Syms.plain i) _
  | false =>
    cases hb : isSym b with
    | true =>
      obtain ⟨i, rfl⟩ := isSym_spec hb
      rw [sym i a (.inr h)]
      exact sameBits_plain (Syms.plain i) _
    | false =>
      have den_id : ∀ v : Value, isSym v = false → den v = v := by
        intro v hv
        unfold den
        split
        · simp [isSym] at hv
        · rfl
      rw [den_id a ha, den_id b hb]; exact h

theorem aMapUpdate_sound [Syms] (hE : EnvOk P E) {φ : Phi} {σ σ' : St} {w : World} (r : Rel φ σ w.heap) {t : Nat} {m m' k k' v v' : Value} (h : aMapUpdate P E σ t m k v = some σ') (hm : Vrel φ m m') (hk : Vrel φ k k') (hv : Vrel φ v v') :
    ∃ w', (Instr.mapUpdate t m' k' v').run P w = .ok () w' ∧ Rel φ σ' w'.heap ∧ Trans φ σ w φ σ' w' := by
  unfold aMapUpdate at h
  split at h
  · rename_i kt et i hu
    simp only [Vrel] at hm
    obtain ⟨b, rfl, ho⟩ := hm
    split at h
    · rename_i es bs cl hg
      obtain ⟨y, o, hy, hoy, es', rfl, hb0, hent, hbs⟩ := r.blocks _ _ hg
      unfold ORel at ho
      rw [hy] at ho
      obtain ⟨rfl, _⟩ := ho
      have hnc : ∀ c t f, Obj.map es' cl ≠ .cells c t f := by intro c t f e; cases e
      split at h
      · rename_i j u hf
        obtain ⟨f1, f2, q', f3, f4⟩ := aFind_sound hE hf hent w
        obtain ⟨u', rfl, _⟩ := find_some f4
        have hkk := Vrel.keyed_eq f2 hk
        subst hkk
        cases hsb : Instr.sameBits 10000 (((es[j]?).map (·.1)).getD k) k with
        | false => simp only [hsb, cond_false] at h; cases h
        | true =>
          simp only [hsb, cond_true, Option.some.injEq] at h
          subst h
          have hold : ((es'[j]?).map (·.key)).getD (den k) = den (((es[j]?).map (·.1)).getD k) := by
            cases hj : es[j]? with
            | none =>
              have : es'[j]? = none := by
                have h1 : es'.size = es.length := by simpa using hent.1
                rw [List.getElem?_eq_none_iff] at hj
                rw [Array.getElem?_eq_none_iff]; omega
              simp [this]
            | some p =>
              obtain ⟨e', q1, q2, _⟩ := hent.2 j p hj
              have q1' : es'[j]? = some e' := by simpa using q1
              simp [q1', q2]
          obtain ⟨p1, p2⟩ := putObj_sound (b' := .map (es.set j (k, v)) bs cl) (o' := .map (es'.modify j fun e => { e with key := den k, val := v' }) cl) r hg hy hoy ⟨_, rfl, hb0, hent.set f2 hv, born_modify hbs _ _ _⟩
          refine ⟨_, ?_, p1, p2⟩
          have hsb' : Instr.sameBits 10000 (((es'[j]?).map (·.key)).getD (den k)) (den k) = true := by rw [hold]; exact sameBits_den hsb
          simp only [Instr.mapUpdate, Sem.run_bind, run_under hE hu, Result.andThen_ok, run_getObj hoy hnc, f1, f3, Instr.keyThatStays, hsb', if_true, Sem.run_pure, run_setObj_map hoy hnc]
      · rename_i hf
        simp only [Option.some.injEq] at h
        subst h
        obtain ⟨f1, f2, q', f3, f4⟩ := aFind_sound hE hf hent w
        have := find_none f4
        subst this
        have hkk := Vrel.keyed_eq f2 hk
        subst hkk
        obtain ⟨p1, p2⟩ := putObj_sound (b' := .map (es ++ [(k, v)]) (bs ++ [cl]) (cl + 1)) (o' := .map (es'.push { key := den k, val := v', born := cl }) (cl + 1)) r hg hy hoy ⟨_, rfl, hb0, hent.push f2 hv, by simp [hbs]⟩
        refine ⟨_, ?_, p1, p2⟩
        simp only [Instr.mapUpdate, Sem.run_bind, run_under hE hu, Result.andThen_ok, run_getObj hoy hnc, f1, f3, run_setObj_map hoy hnc]
      · cases h
    · cases h
  · cases h

theorem aDelete_sound [Syms] (hE : EnvOk P E) {φ : Phi} {σ σ' : St} {w : World} (r : Rel φ σ w.heap) {argTypes : Array TypeId} {ty : TypeId} {m m' k k' : Value} (h : aDelete P E σ argTypes m k = some σ') (hm : Vrel φ m m') (hk : Vrel φ k k') :
    ∃ w', (Builtin.delete_ argTypes ty #[m', k']).run P w = .ok (.tuple #[]) w' ∧ Rel φ σ' w'.heap ∧ Trans φ σ w φ σ' w' := by
  unfold aDelete at h
  cases ht : argTypes[0]? with
  | none => simp [ht] at h
  | some t =>
    simp only [ht, Option.bind_some] at h
    split at h
    · rename_i kt et hu
      simp only [Vrel] at hm; subst hm
      cases hf : aFind P E kt k [] true with
      | none => simp [hf] at h
      | some q =>
        simp only [hf, Option.map_some, Option.some.injEq] at h
        subst h
        obtain ⟨f1, f2, q', f3, f4⟩ := aFind_sound (φ := φ) (es' := []) hE hf ⟨rfl, fun k p hk => by simp at hk⟩ w
        have hkk := Vrel.keyed_eq f2 hk
        subst hkk
        exact ⟨w, by simp [Builtin.delete_, ht, run_under hE hu, f1], r, Trans.refl _ _ _⟩
    · rename_i kt et i hu
      simp only [Vrel] at hm
      obtain ⟨b, rfl, ho⟩ := hm
      split at h
      · rename_i es bs cl hg
        obtain ⟨y, o, hy, hoy, es', rfl, hb0, hent, hbs⟩ := r.blocks _ _ hg
        unfold ORel at ho
        rw [hy] at ho
        obtain ⟨rfl, _⟩ := ho
        have hnc : ∀ c t f, Obj.map es' cl ≠ .cells c t f := by intro c t f e; cases e
        have hemp : es'.isEmpty = es.isEmpty := by
          have := hent.1
          cases es <;> simp_all [Array.isEmpty]
        split at h
        · rename_i j u hf
          simp only [Option.some.injEq] at h
          subst h
          obtain ⟨f1, f2, q', f3, f4⟩ := aFind_sound hE hf hent w
          obtain ⟨u', rfl, _⟩ := find_some f4
          have hkk := Vrel.keyed_eq f2 hk
          subst hkk
          obtain ⟨p1, p2⟩ := putObj_sound (b' := .map (es.eraseIdx j) (bs.eraseIdx j) cl) (o' := .map (es'.eraseIdxIfInBounds j) cl) r hg hy hoy ⟨_, rfl, hb0, hent.erase j, born_erase hbs j⟩
          refine ⟨_, ?_, p1, p2⟩
          simp [Builtin.delete_, ht, run_under hE hu, run_getObj hoy hnc, hemp, f1, f3, run_setObj_map hoy hnc]
        · rename_i hf
          simp only [Option.some.injEq] at h
          subst h
          obtain ⟨f1, f2, q', f3, f4⟩ := aFind_sound hE hf hent w
          have := find_none f4
          subst this
          have hkk := Vrel.keyed_eq f2 hk
          subst hkk
          have hlt : y.blk < w.heap.size := r.bound i y hy
          have hself : w.heap.setIfInBounds y.blk (.map es' cl) = w.heap := by
            apply Array.ext_getElem?
            intro j
            by_cases hj : j = y.blk
            · subst hj; simp [hlt]; simpa [hlt] using hoy.symm
            · rw [Array.getElem?_setIfInBounds_ne (by omega)]
          refine ⟨w, ?_, r, Trans.refl _ _ _⟩
          simp [Builtin.delete_, ht, run_under hE hu, run_getObj hoy hnc, hemp, f1, f3, run_setObj_map hoy hnc, hself]
        · cases h
      · cases h
    · cases h

theorem plainOnly_sound [Syms] {o : Option Value} {v : Value} (h : plainOnly o = some v) : o = some v ∧ closed v = true := by
  unfold plainOnly at h
  split at h
  · rename_i u
    cases hp : plainOut u with
    | false => simp [hp] at h
    | true => simp only [hp, cond_true, Option.some.injEq] at h; subst h; exact ⟨rfl, plainOut_closed hp⟩
  · cases h

theorem closed_all [Syms] {φ : Phi} : ∀ {l l' : List Value}, l.all closed = true → VrelL φ l l' → l' = l
  | [], _, _, h => by simpa [VrelL] using h
  | v :: vs, _, hc, h => by
    simp only [List.all_cons, Bool.and_eq_true] at hc
    simp only [VrelL] at h
    obtain ⟨v', vs', rfl, q, s⟩ := h
    rw [Vrel.closed_eq v v' hc.1 q, closed_all hc.2 s]

/-! ## Calls -/

theorem aCallFunc_sound [Syms] (hE : EnvOk P E) {φ : Phi} {σ : St} {w : World} (r : Rel φ σ w.heap) {f : Nat} {args : List Value} {args' : Array Value} (ha : VrelL φ args args'.toList) : OpOk φ σ w (aCallFunc E σ f args) ((callFunc f args').run P w) := by
  unfold aCallFunc
  split
  · exact trivial
  · rename_i fn hfn
    split
    · rename_i c hc
      refine ⟨rfl, args', ?_, ha⟩
      simp only [callFunc, Sem.run_bind, run_program, Result.andThen_ok, hE.func f fn hfn, hE.names f fn hfn, Bool.false_eq_true, if_false, hc, Option.isNone_some, Sem.run_pure]
    · refine OpOk.ofVal r fun v hv => ?_
      exact hE.ext f args v hv φ w args'.toList ha

theorem run_method [Syms] {n t : Nat} {v : Value} {name : String} {i : TypeInfo} {m : Method} {f : FuncId} {b : Bool} {w : World} (hi : (typeInfo t).run P w = .ok i w) (hm : i.methods.find? (·.name == name) = some m) (hpath : m.path.toList = []) (hfunc : m.func = some (f, b)) :
    (method (n + 1) t v name).run P w = ((receiverAt t (.val v) b (if m.path.isEmpty then some ((name.splitOn ".").getLastD name) else none)).run P w).andThen fun x w' => .ok (f, x) w' := by
  unfold method
  simp only [Sem.run_bind, hi, Result.andThen_ok, hm, hpath, follow, Sem.run_pure, hfunc]

theorem aInvoke_sound [Syms] (hE : EnvOk P E) {φ : Phi} {σ : St} {w : World} (r : Rel φ σ w.heap) {recv recv' : Value} {name : String} {args : List Value} {args' : Array Value} (hr : Vrel φ recv recv') (ha : VrelL φ args args'.toList) :
    OpOk φ σ w (aInvoke E σ recv name args) ((callMethod recv' name args').run P w) := by
  unfold aInvoke
  split
  · rename_i t v
    simp only [Vrel] at hr
    obtain ⟨v', rfl, hv⟩ := hr
    split
    · rename_i i d hi hu
      split
      · rename_i m hm
        have hm' : i.methods.find? (·.name == name) = some m := by rw [← Array.find?_toList]; exact hm
        have hfuel : P.types.size + Made.depth = (P.types.size + 99) + 1 := rfl
        split
        · rename_i f e hpath hfunc
          have : (method (P.types.size + Made.depth) t v' name).run P w = .ok (f, v') w := by
            rw [hfuel, run_method (run_info hE hi w) hm' hpath hfunc]
            unfold receiverAt
            simp only [Sem.run_bind, run_under hE hu, Result.andThen_ok, Place.get, Sem.run_pure]
          simp only [callMethod, Sem.run_bind, run_program, Result.andThen_ok, this]
          exact aCallFunc_sound hE r (by simpa using VrelL.cons hv ha)
        · rename_i f e hpath hfunc
          split
          · rename_i a
            simp only [Vrel] at hv
            obtain ⟨a', rfl, hra⟩ := hv
            split
            · rename_i x hx
              obtain ⟨x', l1, l2⟩ := loadVar_sound hE r hx hra
              have : (method (P.types.size + Made.depth) t (.pointer (some a')) name).run P w = .ok (f, x') w := by
                have hpe : m.path.isEmpty = true := by simpa using hpath
                rw [hfuel, run_method (run_info hE hi w) hm' hpath hfunc]
                unfold receiverAt
                simp only [Sem.run_bind, run_under hE hu, Result.andThen_ok, Place.get, Sem.run_pure, hpe, if_true]
                rw [show (Builtin.ssaWrapNilChk_ #[t] t #[.pointer (some a'), strVal "", strVal ((name.splitOn ".").getLastD name)]).run P w = .ok (.pointer (some a')) w from rfl]
                simp only [Sem.run_pure, Result.andThen_ok, asAddr, Sem.run_bind, l1]
              simp only [callMethod, Sem.run_bind, run_program, Result.andThen_ok, this]
              exact aCallFunc_sound hE r (by simpa using VrelL.cons l2 ha)
            · exact trivial
          · exact trivial
        · rename_i f hpath hfunc hne
          have : (method (P.types.size + Made.depth) t v' name).run P w = .ok (f, v') w := by
            rw [hfuel, run_method (run_info hE hi w) hm' hpath hfunc]
            unfold receiverAt
            simp only [Sem.run_bind, run_under hE hu, Result.andThen_ok]
            simp [Place.get]
          simp only [callMethod, Sem.run_bind, run_program, Result.andThen_ok, this]
          exact aCallFunc_sound hE r (by simpa using VrelL.cons hv ha)
        · exact trivial
      · exact trivial
    · exact trivial
  · exact trivial

end Go.Ab
