/- Loads and stores: the abstract ones against the machine's. -/
import Derived.Test.YtglelglhogfnfaaGreatAbSt
import Derived.Below
import Derived.Calls
import Derived.Laws.Cells
namespace Go.Ab

theorem addr_add [Syms] (b o n : Nat) : (⟨b, o, none⟩ : Addr).add n = ⟨b, o + n, none⟩ := by
  unfold Addr.add
  split
  · rename_i h; simp [h]
  · rfl

theorem ARel.live [Syms] {φ : Phi} {a a' : Addr} {x : Ext} (h : ARel φ a a') (hx : φ a.block = .live x) : a = ⟨a.block, a.off, none⟩ ∧ a' = ⟨x.blk, x.base + a.off, none⟩ := by
  unfold ARel at h
  rw [hx] at h
  obtain ⟨h1, h2, h3, h4⟩ := h
  cases a; cases a'; simp_all

theorem ARel.mk [Syms] {φ : Phi} {i o : Nat} {x : Ext} (hx : φ i = .live x) : ARel φ ⟨i, o, none⟩ ⟨x.blk, x.base + o, none⟩ := by
  unfold ARel; simp [hx]

theorem ARel.add [Syms] {φ : Phi} {a a' : Addr} (h : ARel φ a a') (n : Nat) : ARel φ (a.add n) (a'.add n) := by
  unfold ARel at *
  have : (a.add n).block = a.block := by unfold Addr.add; split <;> rfl
  rw [this]
  cases hx : φ a.block with
  | unborn => simp [hx] at h
  | dead => simp
  | live x =>
    simp only [hx] at h ⊢
    obtain ⟨h1, h2, h3, h4⟩ := h
    unfold Addr.add
    split
    · exact ⟨h1, h2, h3, h4⟩
    · exact ⟨rfl, rfl, h3, by simp only; omega⟩

/-- The cell of a related block. -/
theorem cell_at [Syms] {φ : Phi} {w : World} {x : Ext} {l : List Value} {esz : Nat} {o : Obj} (ho : w.heap[x.blk]? = some o) (hb : BRel φ x (.cells l esz) o) {k : Nat} {v : Value} (hk : l[k]? = some v) :
    ∃ v', w.cell? ⟨x.blk, x.base + k, none⟩ = some v' ∧ Vrel φ v v' := by
  obtain ⟨c, t, fr, rfl, h2, h3, h4, h5, h6, h7⟩ := hb
  obtain ⟨v', hv, hr⟩ := h7.get hk
  refine ⟨v', ?_, hr⟩
  have hkn : k < x.n := by
    rw [← h3]
    exact (List.getElem?_eq_some_iff.1 hk).1
  rw [List.getElem?_take, if_pos hkn, List.getElem?_drop] at hv
  simp only [World.cell?, ho]
  simpa using hv

theorem Rel.cells [Syms] {φ : Phi} {σ : St} {h : Array Obj} (r : Rel φ σ h) {i : Nat} {l : List Value} {e : Nat} (hi : σ.get i = some (.cells l e)) :
    ∃ x c t fr, φ i = .live x ∧ h[x.blk]? = some (.cells c t fr) ∧ BRel φ x (.cells l e) (.cells c t fr) := by
  obtain ⟨x, o, hx, ho, hb⟩ := r.blocks i _ hi
  obtain ⟨c, t, fr, rfl, _⟩ := id hb
  exact ⟨x, c, t, fr, hx, ho, hb⟩

theorem loadN_zero [Syms] {σ : St} (P : Program) {a a' : Addr} {vs : List Value} (h : loadN σ a 0 = some vs) : (∀ w : World, (loadCells a' 0).run P w = .ok #[] w) ∧ vs = [] := by
  refine ⟨fun _ => rfl, ?_⟩
  unfold loadN at h
  split at h
  · simp at h; exact h
  · cases h

theorem loadN_sound [Syms] {φ : Phi} {σ : St} {w : World} (P : Program) (r : Rel φ σ w.heap) {a a' : Addr} {n : Nat} {vs : List Value} (h : loadN σ a n = some vs) (ha : ARel φ a a') :
    ∃ vs', (∀ w' : World, w'.heap = w.heap → (loadCells a' n).run P w' = .ok vs'.toArray w') ∧ VrelL φ vs vs' ∧ vs.length = n := by
  unfold loadN at h
  split at h
  · rename_i l e hs hg
    obtain ⟨x, c, t, fr, hx, ho, hb⟩ := r.cells hg
    obtain ⟨he, he'⟩ := ha.live hx
    cases hlen : Nat.beq ((l.drop a.off).take n).length n with
    | false => simp only [hlen, cond_false] at h; cases h
    | true =>
      simp only [hlen, cond_true, Option.some.injEq] at h
      have hn := of_beqT hlen
      rw [h] at hn
      have key : ∀ j, j < n → ∃ v', w.cell? (a'.add j) = some v' ∧ ∃ v, vs[j]? = some v ∧ Vrel φ v v' := by
        intro j hj
        have hv : vs[j]? = some vs[j] := List.getElem?_eq_getElem (by omega)
        have hl : l[a.off + j]? = some vs[j] := by
          have h2 : ((l.drop a.off).take n)[j]? = some vs[j] := by rw [h]; exact hv
          rwa [List.getElem?_take, if_pos hj, List.getElem?_drop] at h2
        obtain ⟨v', hc, hr⟩ := cell_at ho hb hl
        refine ⟨v', ?_, vs[j], hv, hr⟩
        rw [he', addr_add, Nat.add_assoc]
        exact hc
      refine ⟨(List.range n).map fun j => (w.cell? (a'.add j)).getD undef, ?_, ?_, hn⟩
      · intro w' hw'
        have hcell : w'.cell? = w.cell? := by funext a; simp [World.cell?, hw']
        exact run_loadCells w' a' n _ fun j hj => by obtain ⟨v', h1, _⟩ := key j hj; simp [hcell, h1]
      · refine VrelL.of_get (by simp [hn]) fun i v hi => ?_
        have hin : i < n := by rw [← hn]; exact (List.getElem?_eq_some_iff.1 hi).1
        obtain ⟨v', h1, u, h2, h3⟩ := key i hin
        rw [hi] at h2
        cases h2
        exact ⟨v', by simp [hin, h1], h3⟩
  · cases h

theorem load1_sound [Syms] {φ : Phi} {σ : St} {w : World} (P : Program) (r : Rel φ σ w.heap) {a a' : Addr} {v : Value} (h : load1 σ a = some v) (ha : ARel φ a a') :
    ∃ v', (Go.load a').run P w = .ok v' w ∧ Vrel φ v v' := by
  unfold load1 at h
  split at h
  · rename_i l e hs hg
    obtain ⟨x, c, t, fr, hx, ho, hb⟩ := r.cells hg
    obtain ⟨he, he'⟩ := ha.live hx
    obtain ⟨v', hc, hr⟩ := cell_at ho hb h
    exact ⟨v', by rw [he', run_load, hc], hr⟩
  · cases h

/-! ## The types -/

structure EnvOk [Syms] (P : Program) (E : Env) : Prop where
  info : ∀ t i, E.info t = some i → P.info? t = some i
  shape : ∀ t b n, E.shape t = some (b, n) → E.agg t = some b ∧ E.size t = some n
  func : ∀ f fn, E.func f = some fn → P.funcs[f]? = some fn
  fields : ∀ t fs, E.under t = some (.struct fs) → ∀ f ∈ fs.toList, ∃ s, E.shape f.type = some s
  code : ∀ f fn c, E.func f = some fn → fn.body = some c → codeOk c = true
  mixed : P.follows .mixedOrders = true
  names : ∀ f fn, E.func f = some fn → (fn.name == "runtime.NumGoroutine") = false
  ext : ∀ f args v, E.ext f args = some v → ∀ (φ : Phi) (w : World) (args' : List Value), VrelL φ args args' → ∃ v', (callFunc f args'.toArray).run P w = .ok (.value v') w ∧ Vrel φ v v'
  zclosed : ∀ t z, E.zero t = some z → closed z = true
  sym : ∀ op vs v, E.sym op vs = some v → ∀ (φ : Phi) (ρ ρ' : Operand → Value) (o : Oper) (w : World), o.op = op → (∀ x, Vrel φ (ρ x) (ρ' x)) → op.operands.toList.map ρ = vs → ∃ v', (execOp ρ' o).run P w = .ok (.value v') w ∧ Vrel φ v v'
  keq : ∀ b x y r, E.keq b x y = some r → keyed x = true ∧ keyed y = true ∧ (match b with
    | true => ∃ k m n, den x = .int k m ∧ den y = .int k n ∧ r = (m == n)
    | false => ∃ m n, den x = .string m ∧ den y = .string n ∧ r = (m == n))
  lay : ∀ i l, E.lay i = some l → ∃ s : ByteArray, Syms.val i = .string s ∧ ∀ φ, VrelL φ l (ofBytes s.data.toList)
  str : ∀ l v, E.str l = some v → ∃ s : ByteArray, (∀ φ, Vrel φ v (.string s)) ∧ ∀ φ l', VrelL φ l l' → l' = ofBytes s.data.toList
  sum : ∀ f args σ v σ', E.sum f args σ = some (v, σ') → ∀ (φ : Phi) (w : World) (args' : Array Value), Rel φ σ w.heap → VrelL φ args args'.toList → Fresh φ σ.next σ'.next →
    Calls P f args' w fun e w' => ∃ φ' v', e = .returned v' ∧ Vrel φ' v v' ∧ Rel φ' σ' w'.heap ∧ Trans φ σ w φ' σ' w'

variable {P : Program} {E : Env}

theorem EnvOk.under [Syms] (h : EnvOk P E) {t : Nat} {d : TypeDesc} (e : E.under t = some d) : P.underlying t = some d := by
  unfold Env.under at e
  unfold Program.underlying
  cases hi : E.info t with
  | none => simp [hi] at e
  | some i =>
    rw [h.info t i hi]
    simp only [hi] at e
    obtain ⟨desc, s, sz, b, hp, al, fa, z, cm, ms⟩ := i
    cases desc with
    | named n u =>
      simp only at e ⊢
      cases hu : E.info u with
      | none => simp [hu] at e
      | some j => rw [h.info u j hu]; simpa [hu] using e
    | _ => simpa using e

theorem run_under [Syms] (h : EnvOk P E) {t : Nat} {d : TypeDesc} (e : E.under t = some d) (w : World) : (underlying t).run P w = .ok d w := by
  unfold underlying
  simp [h.under e]

theorem run_size [Syms] (h : EnvOk P E) {t n : Nat} (e : E.size t = some n) (w : World) : (sizeOf t).run P w = .ok n w := by
  unfold Env.size at e
  cases hi : E.info t with
  | none => simp [hi] at e
  | some i =>
    simp only [hi, Option.map_some, Option.some.injEq] at e
    unfold sizeOf typeInfo
    simp [h.info t i hi, e]

theorem run_info [Syms] (h : EnvOk P E) {t : Nat} {i : TypeInfo} (e : E.info t = some i) (w : World) : (typeInfo t).run P w = .ok i w := by
  unfold typeInfo
  simp [h.info t i e]

theorem run_zero [Syms] (h : EnvOk P E) {t : Nat} {z : Value} (e : E.zero t = some z) (w : World) : (zeroValue t).run P w = .ok z w := by
  unfold Env.zero at e
  cases hi : E.info t with
  | none => simp [hi] at e
  | some i =>
    simp only [hi, Option.bind_some] at e
    unfold zeroValue typeInfo
    simp [h.info t i hi, e]

theorem run_agg [Syms] (h : EnvOk P E) {t : Nat} {b : Bool} (e : E.agg t = some b) (w : World) : (isAgg t).run P w = .ok b w := by
  unfold Env.agg at e
  cases hu : E.under t with
  | none => simp [hu] at e
  | some d =>
    simp only [hu, Option.map_some, Option.some.injEq] at e
    unfold isAgg
    simp only [Sem.run_bind, run_under h hu, Result.andThen_ok]
    cases d <;> simp_all

theorem loadVar_sound [Syms] (hE : EnvOk P E) {φ : Phi} {σ : St} {w : World} (r : Rel φ σ w.heap) {t : Nat} {a a' : Addr} {v : Value} (h : loadVar E σ t a = some v) (ha : ARel φ a a') :
    ∃ v', (Go.loadVar t a').run P w = .ok v' w ∧ Vrel φ v v' := by
  unfold loadVar at h
  unfold Go.loadVar
  split at h
  · rename_i n hsh
    obtain ⟨hag, hs⟩ := hE.shape _ _ _ hsh
    cases hl : loadN σ a n with
    | none => simp [hl] at h
    | some l =>
      simp only [hl, Option.map_some, Option.some.injEq] at h
      obtain ⟨vs', h1, h2, _⟩ := loadN_sound P r hl ha
      refine ⟨.agg vs'.toArray, ?_, ?_⟩
      · simp [run_agg hE hag, run_size hE hs, h1 w rfl]
      · subst h
        simp only [Vrel]
        exact ⟨_, rfl, by simpa [VrelA] using h2⟩
  · rename_i hsh
    obtain ⟨hag, hs⟩ := hE.shape _ _ _ hsh
    obtain ⟨v', h1, h2⟩ := load1_sound P r h ha
    exact ⟨v', by simp only [Sem.run_bind, run_agg hE hag, Result.andThen_ok, Bool.false_eq_true, if_false]; exact h1, h2⟩
  · cases h

/-! ## Stores -/

theorem over_length [Syms] : ∀ (l : List Value) (i : Nat) (vs : List Value), i + vs.length ≤ l.length → (over l i vs).length = l.length
  | l, 0, vs, h => by simp [over]; omega
  | [], _ + 1, vs, h => by simp at h
  | x :: l, i + 1, vs, h => by simp [over, over_length l i vs (by simp at h; omega)]

theorem over_get [Syms] : ∀ (l : List Value) (i : Nat) (vs : List Value), i + vs.length ≤ l.length → ∀ (k : Nat), (over l i vs)[k]? = if i ≤ k ∧ k < i + vs.length then vs[k - i]? else l[k]?
  | l, 0, vs, h, k => by
    simp only [over, Nat.zero_le, true_and, Nat.zero_add, Nat.sub_zero]
    split
    · rename_i hk; rw [List.getElem?_append_left hk]
    · rename_i hk
      rw [List.getElem?_append_right (by omega), List.getElem?_drop]
      congr 1
      omega
  | [], _ + 1, vs, h, k => by simp at h
  | x :: l, i + 1, vs, h, k => by
    cases k with
    | zero => simp [over]
    | succ k =>
      simp only [over, List.getElem?_cons_succ]
      rw [over_get l i vs (by simp at h; omega) k]
      by_cases hk : i ≤ k ∧ k < i + vs.length
      · rw [if_pos hk, if_pos (by omega)]
        congr 1
        omega
      · rw [if_neg hk, if_neg (by omega)]

theorem over_eq [Syms] (l : List Value) (i : Nat) (vs : List Value) (h : i + vs.length ≤ l.length) : over l i vs = l.take i ++ vs ++ l.drop (i + vs.length) := by
  apply List.ext_getElem?
  intro k
  rw [over_get l i vs h]
  by_cases h1 : k < i
  · rw [if_neg (by omega), List.append_assoc, List.getElem?_append_left (by simp; omega), List.getElem?_take, if_pos h1]
  · by_cases h2 : k < i + vs.length
    · rw [if_pos (by omega), List.append_assoc, List.getElem?_append_right (by simp; omega), List.getElem?_append_left (by simp; omega)]
      congr 1; simp; omega
    · rw [if_neg (by omega), List.getElem?_append_right (by simp; omega), List.getElem?_drop]
      congr 1; simp; omega

/-- The machine's storeCells, at a block of which no cell is frozen. -/
theorem run_storeCells_over [Syms] (P : Program) (b o : Nat) (t : TypeId) (fr : Nat × Nat) : ∀ (vs : List Value) (i : Nat) (c : Array Value) (w : World), w.heap[b]? = some (.cells c t fr) →
    (∀ k, k < c.size → ¬ (fr.1 ≤ k ∧ k < fr.2)) → o + i + vs.length ≤ c.size → (∀ v ∈ vs, v.oneCell' = true) →
    ∃ w' c', (storeCells ⟨b, o, none⟩ vs i).run P w = .ok () w' ∧ w'.heap[b]? = some (.cells c' t fr) ∧ c'.toList = over c.toList (o + i) vs ∧ w'.heap.size = w.heap.size ∧ (∀ k, k ≠ b → w'.heap[k]? = w.heap[k]?) ∧
      w'.tape = w.tape ∧ w'.os = w.os ∧ w'.output = w.output
  | [], i, c, w, hb, _, hl, _ => by
    refine ⟨w, c, rfl, hb, ?_, rfl, fun _ _ => rfl, rfl, rfl, rfl⟩
    rw [over_eq _ _ _ (by simpa using hl)]
    simp
  | v :: vs, i, c, w, hb, hfr, hl, h1 => by
    have hlt : o + i < c.size := by simp at hl; omega
    have hcell : w.cell? ⟨b, o + i, none⟩ = some c[o + i] := by simp [World.cell?, hb, Array.getElem?_eq_getElem hlt]
    have hfz : w.frozen? ⟨b, o + i, none⟩ = false := by
      obtain ⟨f1, f2⟩ := fr
      have := hfr (o + i) hlt
      simp only [World.frozen?, hb]
      simp at this ⊢
      exact this
    have hst : (store ((⟨b, o, none⟩ : Addr).add i) v).run P w = .ok () (w.setCell ⟨b, o + i, none⟩ v) := by
      rw [addr_add]
      rw [run_store P w _ v .plain (h1 v (by simp)), hcell, hfz]
      simp
    let w1 := w.setCell ⟨b, o + i, none⟩ v
    have hb1 : w1.heap[b]? = some (.cells (c.setIfInBounds (o + i) v) t fr) := by
      simp [w1, World.setCell, Array.getElem?_modify, hb]
    obtain ⟨w', c', r1, r2, r3, r4, r5, r6, r7, r8⟩ := run_storeCells_over P b o t fr vs (i + 1) (c.setIfInBounds (o + i) v) w1 hb1 (by simpa using hfr) (by simp at hl ⊢; omega) (fun u hu => h1 u (by simp [hu]))
    refine ⟨w', c', ?_, r2, ?_, ?_, ?_, r6, r7, r8⟩
    · simp only [storeCells, Sem.run_bind]
      have hst' : (store ((⟨b, o, none⟩ : Addr).add i) v).run P w = .ok () w1 := hst
      rw [hst']
      exact r1
    · rw [r3]
      have e1 : o + (i + 1) + vs.length ≤ (c.setIfInBounds (o + i) v).toList.length := by simp at hl ⊢; omega
      have e2 : o + i + (v :: vs).length ≤ c.toList.length := by simpa using hl
      apply List.ext_getElem?
      intro k
      rw [over_get _ _ _ e1, over_get _ _ _ e2]
      simp only [List.length_cons, Array.toList_setIfInBounds]
      by_cases h2 : k = o + i
      · subst h2
        rw [if_neg (by omega), if_pos (by omega), List.getElem?_set]
        simp [hlt]
      · by_cases h3 : o + (i + 1) ≤ k ∧ k < o + (i + 1) + vs.length
        · rw [if_pos h3, if_pos (by omega), show k - (o + i) = (k - (o + (i + 1))) + 1 by omega]
          simp
        · rw [if_neg h3, if_neg (by omega), List.getElem?_set, if_neg (by omega)]
    · rw [r4]; simp [w1, World.setCell]
    · intro k hk
      rw [r5 k hk]
      simp only [w1, World.setCell, Array.getElem?_modify]
      rw [if_neg (by omega)]

theorem all_cells_one [Syms] {φ : Phi} {vs vs' : List Value} (h : VrelL φ vs vs') (hc : vs.all isCell = true) : ∀ v ∈ vs', v.oneCell' = true := by
  intro v' hv
  obtain ⟨i, hi, rfl⟩ := List.mem_iff_getElem.1 hv
  have hl := h.length
  have hg : vs[i]? = some vs[i] := List.getElem?_eq_getElem (by omega)
  obtain ⟨u, hu, hr⟩ := h.get hg
  rw [List.getElem?_eq_getElem hi] at hu
  cases hu
  exact hr.oneCell (List.all_eq_true.1 hc _ (List.getElem_mem _))

theorem storeN_sound [Syms] (P : Program) {φ : Phi} {σ σ' : St} {w : World} (r : Rel φ σ w.heap) {a a' : Addr} {vs vs' : List Value} (h : storeN σ a vs = some σ') (ha : ARel φ a a') (hv : VrelL φ vs vs') :
    ∃ w', (storeCells a' vs').run P w = .ok () w' ∧ Rel φ σ' w'.heap ∧ Trans φ σ w φ σ' w' := by
  unfold storeN at h
  split at h
  · simp only [Option.some.injEq] at h
    subst h
    simp only [VrelL] at hv
    subst hv
    exact ⟨w, rfl, r, Trans.refl _ _ _⟩
  · split at h
    · rename_i hs hg
      rename_i l e
      obtain ⟨x, c, t, fr, hx, ho, hb⟩ := r.cells hg
      obtain ⟨he, he'⟩ := ha.live hx
      cases hc : (Nat.ble (a.off + vs.length) l.length && vs.all isCell) with
      | false => simp [hc] at h
      | true =>
        simp only [hc, cond_true, Option.some.injEq] at h
        simp only [Bool.and_eq_true] at hc
        have hle := of_bleT hc.1
        obtain ⟨c', t', fr', heq, h2, h3, h4, h5, h6, h7⟩ := id hb
        cases heq
        have hlen := hv.length
        obtain ⟨w', c', r1, r2, r3, r4, r5, r6, r7, r8⟩ := run_storeCells_over P x.blk (x.base + a.off) t fr vs' 0 c w ho (frOk h6) (by omega) (all_cells_one hv hc.2)
        have hsz : c'.size = c.size := by
          have := congrArg List.length r3
          rw [over_length _ _ _ (by simp; omega)] at this
          simpa using this
        refine ⟨w', by rw [he']; exact r1, ?_, ?_⟩
        · subst h
          refine r.put hg hx r4 r2 ⟨c', t, fr, rfl, by omega, by rw [over_length _ _ _ hle]; exact h3, h4, h5, by rw [hsz]; exact h6, ?_⟩ r5
          refine VrelL.of_get (by rw [over_length _ _ _ hle]; simp; omega) fun k v hk => ?_
          have hkl : k < l.length := by
            have := (List.getElem?_eq_some_iff.1 hk).1
            rwa [over_length _ _ _ hle] at this
          rw [over_get _ _ _ hle] at hk
          rw [List.getElem?_take, if_pos (by omega), List.getElem?_drop, r3, over_get _ _ _ (by simp; omega)]
          by_cases hin : a.off ≤ k ∧ k < a.off + vs.length
          · rw [if_pos hin] at hk
            rw [if_pos (by omega), show x.base + k - (x.base + a.off + 0) = k - a.off by omega]
            exact hv.get hk
          · rw [if_neg hin] at hk
            rw [if_neg (by omega)]
            obtain ⟨v', q1, q2⟩ := h7.get hk
            rw [List.getElem?_take, if_pos (by omega), List.getElem?_drop] at q1
            exact ⟨v', q1, q2⟩
        · subst h
          exact Trans.put r hg hx r4 r5 r6 r7 r8
    · cases h

theorem storeVar_sound [Syms] (hE : EnvOk P E) {φ : Phi} {σ σ' : St} {w : World} (r : Rel φ σ w.heap) {t : Nat} {a a' : Addr} {v v' : Value} (h : storeVar E σ t a v = some σ') (ha : ARel φ a a') (hv : Vrel φ v v') :
    ∃ w', (Go.storeVar t a' v').run P w = .ok () w' ∧ Rel φ σ' w'.heap ∧ Trans φ σ w φ σ' w' := by
  unfold storeVar at h
  unfold Go.storeVar
  split at h
  · rename_i n hsh
    obtain ⟨_, hn⟩ := hE.shape _ _ _ hsh
    cases hb : Nat.beq v.cells.size n with
    | false => simp [hb] at h
    | true =>
      simp only [hb, cond_true] at h
      have hk : known v = true := by
        cases v with
        | complex k i j =>
          cases hs : isSym (.complex k i j) with
          | true => exact hs
          | false => unfold storeN at h; simp [Value.cells, isCell, hs] at h; split at h <;> simp at h
        | _ => rfl
      have hc := hv.cells hk
      have hsz : v'.cells.size = n := by
        have := hc.length
        have := of_beqT hb
        simp at *
        omega
      obtain ⟨w', h1, h2, h3⟩ := storeN_sound P r h ha hc
      refine ⟨w', ?_, h2, h3⟩
      simp only [Sem.run_bind, run_size hE hn, Result.andThen_ok, hsz]
      simp only [ne_eq, not_true, if_false]
      simpa using h1
  · cases h

end Go.Ab
