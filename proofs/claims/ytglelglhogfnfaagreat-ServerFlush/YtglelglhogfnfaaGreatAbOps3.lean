/- Operations that make values out of parts, and new blocks. -/
import Derived.Test.YtglelglhogfnfaaGreatAbOps2
namespace Go.Ab

variable {P : Program} {E : Env}

theorem run_newRow [Syms] (e : TypeId) (c : Array Value) (w : World) : (newRow e c).run P w = .ok ⟨w.heap.size, 0, none⟩ { w with heap := w.heap.push (.cells c e (0, 0)) } := rfl

theorem newRow_sound [Syms] {φ : Phi} {σ : St} {w w' : World} (r : Rel φ σ w.heap) (hf : Fresh φ σ.next (σ.next + 1)) {l : List Value} {c : Array Value} (hl : VrelL φ l (c.toList.take l.length)) (hlen : l.length ≤ c.size) (esz : Nat) (e : TypeId) (fr : Nat × Nat)
    (hfr : fr.1 = fr.2 ∨ c.size ≤ fr.1) (hw : w'.heap = w.heap.push (.cells c e fr)) (ht : w'.tape = w.tape) (hos : w'.os = w.os) (hout : w'.output = w.output) :
    ∃ φ', φ' = φ.upd σ.next (.live ⟨w.heap.size, 0, c.size, l.length, esz⟩) ∧ Rel φ' (σ.new (.cells l esz)) w'.heap ∧ Trans φ σ w φ' (σ.new (.cells l esz)) w' := by
  have hu := hf σ.next (Nat.le_refl _) (Nat.lt_succ_self _)
  refine ⟨_, rfl, ?_, Trans.new hu rfl hw ht hos hout⟩
  rw [hw]
  refine r.new hu rfl ⟨c, e, fr, rfl, by simp, rfl, hlen, ⟨rfl, fun _ => rfl⟩, hfr, ?_⟩
  exact (hl.mono (PLe.upd_unborn hu))

theorem newObj_sound [Syms] {φ : Phi} {σ : St} {w : World} (r : Rel φ σ w.heap) (hf : Fresh φ σ.next (σ.next + 1)) {b : Blk} {o : Obj} (hb : ∀ φ', PLe φ φ' → BRel φ' ⟨w.heap.size, 0, 0, 0, 0⟩ b o) :
    ∃ φ', φ' = φ.upd σ.next (.live ⟨w.heap.size, 0, 0, 0, 0⟩) ∧ Rel φ' (σ.new b) (w.heap.push o) ∧ Trans φ σ w φ' (σ.new b) { w with heap := w.heap.push o } := by
  have hu := hf σ.next (Nat.le_refl _) (Nat.lt_succ_self _)
  exact ⟨_, rfl, r.new hu rfl (hb _ (PLe.upd_unborn hu)), Trans.new hu rfl rfl rfl rfl rfl⟩

theorem ARel.new [Syms] (φ : Phi) (i : Nat) (x : Ext) (hb : x.base = 0) : ARel (φ.upd i (.live x)) ⟨i, 0, none⟩ ⟨x.blk, 0, none⟩ := by unfold ARel; simp [hb]

/-- A pointer to a new variable. -/
theorem newCells_sound [Syms] {φ : Phi} {σ : St} {w : World} (r : Rel φ σ w.heap) (hf : Fresh φ σ.next (σ.next + 1)) {l l' : List Value} (hl : VrelL φ l l') (e : TypeId) {res : Result Next}
    (hres : res = .ok (.value (.pointer (some ⟨w.heap.size, 0, none⟩))) { w with heap := w.heap.push (.cells l'.toArray e (0, 0)) }) : OpOk φ σ w (newCells σ l 0) res := by
  have hlen := hl.length
  obtain ⟨φ', h1, h2, h3⟩ := newRow_sound (w' := { w with heap := w.heap.push (.cells l'.toArray e (0, 0)) }) r hf (c := l'.toArray) (l := l) (by simpa [List.take_of_length_le (Nat.le_of_eq hlen)] using hl) (by simp [hlen]) 0 e (0, 0) (.inl rfl) rfl rfl rfl rfl
  refine ⟨φ', _, _, .inl hres, ?_, h2, h3⟩
  subst h1
  simp only [Vrel]
  exact ⟨_, rfl, ARel.new φ σ.next _ rfl⟩

/-! ## Literals -/

theorem foldl_set_over [Syms] (off : Nat) : ∀ (l : List Value) (k : Nat) (cs : Array Value), off + k + l.length ≤ cs.size →
    ((l.zipIdx k).foldl (fun cs (p : Value × Nat) => cs.setIfInBounds (off + p.2) p.1) cs).toList = over cs.toList (off + k) l
  | [], k, cs, h => by rw [over_eq _ _ _ (by simpa using h)]; simp
  | v :: vs, k, cs, h => by
    simp only [List.length_cons] at h
    simp only [List.zipIdx_cons, List.foldl_cons]
    rw [foldl_set_over off vs (k + 1) _ (by simp; omega)]
    apply List.ext_getElem?
    intro j
    rw [over_get _ _ _ (by simp; omega), over_get _ _ _ (by simp; omega)]
    simp only [List.length_cons, Array.toList_setIfInBounds]
    by_cases h2 : j = off + k
    · subst h2
      rw [if_neg (by omega), if_pos (by omega), List.getElem?_set]
      simp [show off + k < cs.size by omega]
    · by_cases h3 : off + (k + 1) ≤ j ∧ j < off + (k + 1) + vs.length
      · rw [if_pos h3, if_pos (by omega), show j - (off + k) = (j - (off + (k + 1))) + 1 by omega]
        simp
      · rw [if_neg h3, if_neg (by omega), List.getElem?_set, if_neg (by omega)]

theorem VrelL.over [Syms] {φ : Phi} {l l' vs vs' : List Value} (h : VrelL φ l l') (k : VrelL φ vs vs') {i : Nat} (hle : i + vs.length ≤ l.length) : VrelL φ (over l i vs) (Ab.over l' i vs') := by
  have h1 := h.length
  have h2 := k.length
  rw [over_eq _ _ _ hle, over_eq _ _ _ (by omega), h2]
  exact ((h.take i).append k).append (h.drop _)

def PartsRel [Syms] (φ : Phi) (ps ps' : List (Nat × Value)) : Prop := ps'.length = ps.length ∧ ∀ (k : Nat) (p : Nat × Value), ps[k]? = some p → ∃ p' : Nat × Value, ps'[k]? = some p' ∧ p'.1 = p.1 ∧ Vrel φ p.2 p'.2

theorem PartsRel.cons [Syms] {φ : Phi} {p : Nat × Value} {ps ps' : List (Nat × Value)} (h : PartsRel φ (p :: ps) ps') : ∃ p' qs, ps' = p' :: qs ∧ p'.1 = p.1 ∧ Vrel φ p.2 p'.2 ∧ PartsRel φ ps qs := by
  obtain ⟨h1, h2⟩ := h
  cases ps' with
  | nil => simp at h1
  | cons p' qs =>
    obtain ⟨q, e1, e2, e3⟩ := h2 0 p (by simp)
    simp only [List.getElem?_cons_zero, Option.some.injEq] at e1
    subst e1
    exact ⟨_, _, rfl, e2, e3, by simpa using h1, fun k p' hk => by simpa using h2 (k + 1) p' (by simpa using hk)⟩

theorem fill_rel [Syms] {φ : Phi} {place place' : Nat → Option (Nat × Nat)} (hp : ∀ i q, place i = some q → place' i = some q) : ∀ {ps ps' : List (Nat × Value)}, PartsRel φ ps ps' → ps.all (fun p => known p.2) = true → ∀ {cs out : List Value} {cs' : Array Value}, VrelL φ cs cs'.toList →
    fillL place cs ps = some out → ∃ out', Instr.fill place' cs' ps' = some out' ∧ VrelL φ out out'.toList
  | [], ps', hps, _, cs, out, cs', hc, h => by
    obtain ⟨h1, _⟩ := hps
    have : ps' = [] := List.eq_nil_of_length_eq_zero (by simpa using h1)
    subst this
    simp only [fillL, Option.some.injEq] at h
    subst h
    exact ⟨cs', rfl, hc⟩
  | (i, v) :: ps, ps', hps, hk, cs, out, cs', hc, h => by
    obtain ⟨⟨i', v'⟩, qs, rfl, e1, e2, e3⟩ := hps.cons
    simp only at e1 e2
    subst e1
    simp only [List.all_cons, Bool.and_eq_true] at hk
    have hcells := e2.cells hk.1
    have hsz : v'.cells.size = v.cells.size := by have := hcells.length; simpa using this
    have hcs : cs'.size = cs.length := by have := hc.length; simpa using this
    unfold fillL at h
    unfold Instr.fill
    cases hpl : place i' with
    | none => simp [hpl] at h
    | some q =>
      obtain ⟨off, size⟩ := q
      simp only [hpl] at h
      simp only [hp i' _ hpl, hsz, hcs]
      cases hcond : (Nat.beq v.cells.toList.length size && Nat.ble (off + size) cs.length) with
      | false => simp only [hcond, cond_false] at h; cases h
      | true =>
        simp only [hcond, cond_true] at h
        have hcond := andT hcond
        have q1 := of_beqT hcond.1
        have q2 := of_bleT hcond.2
        have q1' : v.cells.size = size := by simpa using q1
        have hno : ((v.cells.size ≠ size || decide (off + v.cells.size > cs.length)) = true) = False := by
          simp [q1']; omega
        rw [if_neg (by rw [hno]; exact not_false)]
        refine fill_rel hp e3 hk.2 ?_ h
        rw [← Array.foldl_toList, Array.toList_zipIdx, foldl_set_over off v'.cells.toList 0 cs' (by simp; omega)]
        exact hc.over hcells (by rw [q1]; exact q2)

theorem run_mapM_places [Syms] (hE : EnvOk P E) (w : World) : ∀ (fs : List Field), (∀ f ∈ fs, ∃ s, E.shape f.type = some s) →
    ∃ qs : List (Nat × Nat), (fs.mapM (fun (f : Field) => do pure (f.offset, ← Go.sizeOf f.type)) : Sem (List (Nat × Nat))).run P w = .ok qs w ∧ ∀ i : Nat, qs[i]? = (fs[i]?).bind fun (f : Field) => (E.shape f.type).map fun s => (f.offset, s.2)
  | [], _ => ⟨[], rfl, fun i => by simp⟩
  | f :: fs, h => by
    obtain ⟨⟨b, n⟩, hsh⟩ := h f (by simp)
    obtain ⟨_, hn⟩ := hE.shape _ _ _ hsh
    obtain ⟨qs, h1, h2⟩ := run_mapM_places hE w fs fun g hg => h g (by simp [hg])
    refine ⟨(f.offset, n) :: qs, ?_, fun i => ?_⟩
    · simp only [List.mapM_cons, Sem.run_bind, run_size hE hn, Result.andThen_ok, Sem.run_pure, h1]
    · cases i with
      | zero => simp [hsh]
      | succ i => simpa using h2 i

theorem zclosed_cells [Syms] {φ : Phi} {z : Value} (h : closed z = true) : VrelL φ z.cells.toList z.cells.toList := by
  have hkz : known z = true := by cases z <;> simp_all [closed, known]
  exact (Vrel.closed_refl φ z h).cells hkz

theorem aBuild_sound [Syms] (hE : EnvOk P E) {φ : Phi} {t : Nat} {ps ps' : List (Nat × Value)} {v : Value} (h : aBuild E t ps = some v) (hps : PartsRel φ ps ps') (w : World) : ∃ v', (Instr.build t ps'.toArray).run P w = .ok v' w ∧ Vrel φ v v' := by
  unfold aBuild at h
  cases hk : ps.all (fun p => known p.2) with
  | false => simp only [hk, Bool.not_false, cond_true] at h; cases h
  | true =>
    simp only [hk, Bool.not_true, cond_false] at h
    cases hz : E.zero t with
    | none => simp [hz] at h
    | some z =>
      simp only [hz, Option.bind_some] at h
      have hzL := zclosed_cells (φ := φ) (hE.zclosed t z hz)
      split at h
      · rename_i fs hu
        cases hfill : fillL (fun i => (fs.toList[i]?).bind fun f => (E.shape f.type).map fun s => (f.offset, s.2)) z.cells.toList ps with
        | none => rw [hfill] at h; cases h
        | some out =>
          simp only [hfill, Option.map_some, Option.some.injEq] at h
          obtain ⟨qs, q1, q2⟩ := run_mapM_places hE w fs.toList (hE.fields t fs hu)
          obtain ⟨out', o1, o2⟩ := fill_rel (place' := (qs.toArray[·]?)) (fun i q hq => by
            simp only [List.getElem?_toArray]
            rw [q2 i]
            exact hq) hps hk hzL hfill
          refine ⟨.agg out', ?_, by subst h; simp only [Vrel]; exact ⟨_, rfl, by simpa [VrelA] using o2⟩⟩
          have hm : (fs.mapM (fun (f : Field) => do pure (f.offset, ← Go.sizeOf f.type)) : Sem (Array (Nat × Nat))).run P w = .ok qs.toArray w := by
            rw [Array.mapM_eq_mapM_toList, Sem.run_map, q1]
            rfl
          simp only [Instr.build, Sem.run_bind, run_zero hE hz, Result.andThen_ok, run_under hE hu, hm, o1, Sem.run_pure]
      · rename_i n e hu
        cases hs : E.shape e with
        | none => simp [hs] at h
        | some bs =>
          obtain ⟨b, size⟩ := bs
          obtain ⟨_, hsz⟩ := hE.shape _ _ _ hs
          simp only [hs, Option.bind_some] at h
          cases hfill : fillL (fun i => some (i * size, size)) z.cells.toList ps with
          | none => simp [hfill] at h
          | some out =>
            simp only [hfill, Option.map_some, Option.some.injEq] at h
            obtain ⟨out', o1, o2⟩ := fill_rel (place' := fun i => some (i * size, size)) (fun i q hq => hq) hps hk hzL hfill
            refine ⟨.agg out', ?_, by subst h; simp only [Vrel]; exact ⟨_, rfl, by simpa [VrelA] using o2⟩⟩
            simp only [Instr.build, Sem.run_bind, run_zero hE hz, Result.andThen_ok, run_under hE hu, run_size hE hsz, o1, Sem.run_pure]
      · cases h

theorem zerosOf_length [Syms] (n : Nat) (z : List Value) : (zerosOf n z).length = n * z.length := by simp [zerosOf]

theorem zerosOf_get [Syms] : ∀ (n : Nat) (z : List Value) (k : Nat), k < n * z.length → (zerosOf n z)[k]? = z[k % z.length]?
  | 0, z, k, h => by simp at h
  | n + 1, z, k, h => by
    have hz : 0 < z.length := by
      rcases Nat.eq_zero_or_pos z.length with h0 | h0
      · rw [h0] at h; simp at h
      · exact h0
    have : zerosOf (n + 1) z = z ++ zerosOf n z := by simp [zerosOf, List.replicate_succ]
    rw [this]
    rcases Nat.lt_or_ge k z.length with hl | hl
    · rw [List.getElem?_append_left hl, Nat.mod_eq_of_lt hl]
    · rw [List.getElem?_append_right hl, zerosOf_get n z (k - z.length) (by rw [Nat.add_mul] at h; omega)]
      congr 1
      exact (Nat.mod_eq_sub_mod hl).symm

theorem zeros_eq [Syms] (n : Nat) (z : Array Value) : ((Array.range (n * z.size)).map (z[· % z.size]!)).toList = zerosOf n z.toList := by
  apply List.ext_getElem?
  intro k
  by_cases hk : k < n * z.size
  · rw [zerosOf_get n z.toList k (by simpa using hk)]
    have hz : 0 < z.size := by
      rcases Nat.eq_zero_or_pos z.size with h0 | h0
      · rw [h0] at hk; simp at hk
      · exact h0
    have hm : k % z.size < z.size := Nat.mod_lt _ hz
    simp [hk, hm]
  · have : (zerosOf n z.toList).length ≤ k := by rw [zerosOf_length]; simpa using hk
    rw [List.getElem?_eq_none this]
    simp [hk]

theorem zeros_closed [Syms] {φ : Phi} {z : Value} (hz : closed z = true) (n : Nat) : VrelL φ (zerosOf n z.cells.toList) (zerosOf n z.cells.toList) := by
  have hkz : known z = true := by cases z <;> simp_all [closed, known]
  have h1 := (Vrel.closed_refl φ z hz).cells hkz
  induction n with
  | zero => simp [zerosOf, VrelL]
  | succ n ih =>
    have : zerosOf (n + 1) z.cells.toList = z.cells.toList ++ zerosOf n z.cells.toList := by simp [zerosOf, List.replicate_succ]
    rw [this]
    exact h1.append ih

/-- The header of a slice over a whole new block. -/
theorem newSlice_sound [Syms] {φ : Phi} {σ : St} {w w' : World} (r : Rel φ σ w.heap) (hf : Fresh φ σ.next (σ.next + 1)) {l l' : List Value} (hl : VrelL φ l l') (e : TypeId) {len cap : Nat} (hlc : len ≤ cap) (hc : cap < openCap) {res : Result Next}
    (hw : w'.heap = w.heap.push (.cells l'.toArray e (0, 0))) (ht : w'.tape = w.tape) (hos : w'.os = w.os) (hout : w'.output = w.output)
    (hres : res = .ok (.value (.slice (some ⟨w.heap.size, 0, none⟩) len cap)) w') : OpOk φ σ w (.val (.slice (some ⟨σ.next, 0, none⟩) len cap) (σ.new (.cells l 0))) res := by
  have hlen := hl.length
  obtain ⟨φ', h1, h2, h3⟩ := newRow_sound (w' := w') r hf (c := l'.toArray) (l := l) (by simpa [List.take_of_length_le (Nat.le_of_eq hlen)] using hl) (by simp [hlen]) 0 e (0, 0) (.inl rfl) hw ht hos hout
  refine ⟨φ', w', _, .inl hres, ?_, h2, h3⟩
  subst h1
  simp only [Vrel]
  refine ⟨_, _, rfl, ?_⟩
  unfold SRel
  simp only [Phi.upd_same, show ¬ openCap ≤ cap by omega, if_false]
  exact ⟨hlc, trivial, .inr (ARel.new φ σ.next _ rfl)⟩

theorem aBuildSlice_sound [Syms] (hE : EnvOk P E) {φ : Phi} {σ : St} {w : World} (r : Rel φ σ w.heap) {t len : Nat} {ps ps' : List (Nat × Value)} (hps : PartsRel φ ps ps')
    (hf : ∀ v σ', aBuildSlice E σ t len ps = .val v σ' → Fresh φ σ.next σ'.next) : OpOk φ σ w (aBuildSlice E σ t len ps) ((do pure (.value (← Instr.buildSlice t len ps'.toArray)) : Sem Next).run P w) := by
  unfold aBuildSlice at hf ⊢
  split
  · rename_i e hu
    simp only [hu] at hf
    split
    · rename_i size z hs hz
      simp only [hs, hz] at hf
      cases hc : (Nat.ble (len * size) 16777216 && Nat.beq z.cells.size size && Nat.ble len 16777216 && ps.all (fun p => known p.2)) with
      | false => simp only [hc, cond_false]; exact trivial
      | true =>
        simp only [hc, cond_true] at hf ⊢
        have hc1 := andT hc
        have hc3 := andT hc1.1
        have hc2 := andT hc3.1
        have hlen24 := of_bleT hc3.2
        have hle := of_bleT hc2.1
        have hzs := of_beqT hc2.2
        cases hfill : fillL (fun i => some (i * size, size)) (zerosOf len z.cells.toList) ps with
        | none => exact trivial
        | some out =>
          simp only [hfill] at hf ⊢
          cases hcell : cellsAll out with
          | false => simp only [cond_false]; exact trivial
          | true =>
            simp only [hcell, cond_true] at hf ⊢
            have hf := hf _ _ rfl
            have hz0 : VrelL φ (zerosOf len z.cells.toList) (zerosOf len z.cells.toList).toArray.toList := by
              simpa using zeros_closed (hE.zclosed e z hz) len
            obtain ⟨out', o1, o2⟩ := fill_rel (place' := fun i => some (i * size, size)) (fun i q hq => hq) hps hc1.2 hz0 hfill
            refine newSlice_sound (l' := out'.toList) (w' := { w with heap := w.heap.push (.cells out' e (0, 0)) }) r hf o2 e (Nat.le_refl _) ?_ (by simp) rfl rfl rfl ?_
            · unfold openCap; omega
            · have hnot : ¬ len * size > 2 ^ 24 := by omega
              by_cases h0 : len * size = 0
              · have he : (zerosOf len z.cells.toList) = [] := List.eq_nil_of_length_eq_zero (by rw [zerosOf_length]; simp [hzs, h0])
                rw [he] at o1
                have h00 : ¬ (0 : Nat) > 2 ^ 24 := by omega
                have hr0 : ∀ f : Nat → Value, (Array.range 0).map f = #[] := fun _ => by simp
                simp only [Instr.buildSlice, Sem.run_bind, run_under hE hu, Result.andThen_ok, run_size hE hs, h0, h00, if_true, if_false, Sem.run_pure, hr0]
                have o1' : Instr.fill (fun i => some (i * size, size)) #[] ps' = some out' := o1
                simp only [o1', Sem.run_bind, run_newRow, Sem.run_pure, Result.andThen_ok]
              · have hrow : (Array.range (len * size)).map (z.cells[· % z.cells.size]!) = (zerosOf len z.cells.toList).toArray := by
                  apply Array.ext'
                  rw [← hzs, zeros_eq]
                simp only [Instr.buildSlice, Sem.run_bind, run_under hE hu, Result.andThen_ok, run_size hE hs, h0, hnot, if_false, Sem.run_pure, run_zero hE hz, hrow, o1, run_newRow]
    · exact trivial
  · exact trivial

end Go.Ab
