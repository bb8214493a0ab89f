/- Slices that are made, grown, copied; conversions; len, cap, clear. -/
import Derived.Test.YtglelglhogfnfaaGreatAbOps3
import Derived.Laws.Append
namespace Go.Ab

variable {P : Program} {E : Env}

theorem wrap_i64 [Syms] {n : Int} (h : 0 ≤ n) (h' : n < 9223372036854775808) : IntKind.i64.wrap n = n := by
  have h64 : n % (2 ^ IntKind.i64.bits : Int) = n := Int.emod_eq_of_lt h (by show n < (2 : Int) ^ 64; omega)
  unfold IntKind.wrap
  simp only [h64]
  have hn : ¬ n ≥ (2 ^ (IntKind.i64.bits - 1) : Int) := by show ¬ n ≥ (2 : Int) ^ 63; omega
  simp [hn]

theorem run_bytes [Syms] (hE : EnvOk P E) {t n : Nat} (e : E.bytes t = some n) (w : World) : ∃ i, (typeInfo t).run P w = .ok i w ∧ i.bytes = n := by
  unfold Env.bytes at e
  cases hi : E.info t with
  | none => simp [hi] at e
  | some i =>
    simp only [hi, Option.map_some, Option.some.injEq] at e
    exact ⟨i, run_info hE hi w, e⟩

theorem aMakeSlice_sound [Syms] (hE : EnvOk P E) {φ : Phi} {σ : St} {w : World} (r : Rel φ σ w.heap) {t : Nat} {l c l' c' : Value} (hl : Vrel φ l l') (hc : Vrel φ c c')
    (hf : ∀ v σ', aMakeSlice E σ t l c = .val v σ' → Fresh φ σ.next σ'.next) : OpOk φ σ w (aMakeSlice E σ t l c) ((do pure (.value (← Instr.makeSlice t l' c')) : Sem Next).run P w) := by
  unfold aMakeSlice at hf ⊢
  split
  · rename_i e k n k' m hu
    simp only [hu] at hf
    simp only [Vrel] at hl hc
    subst hl; subst hc
    split
    · rename_i size bytes z hs hb hz
      simp only [hs, hb, hz] at hf
      cases hcond : (decide (0 ≤ n) && decide (n ≤ m) && decide ((bytes : Int) * m ≤ 281474976710656) && decide (m < 9223372036854775808) && Nat.beq z.cells.size size) with
      | false => simp only [cond_false]; exact trivial
      | true =>
        simp only [hcond, cond_true] at hf ⊢
        have hf := hf _ _ rfl
        simp only [Bool.and_eq_true, decide_eq_true_eq] at hcond
        obtain ⟨⟨⟨⟨c1, c2⟩, c3⟩, c4⟩, c5⟩ := hcond
        have hzs := of_beqT c5
        obtain ⟨i, hi1, hi2⟩ := run_bytes hE hb w
        have w1 := wrap_i64 c1 (by omega : n < 9223372036854775808)
        have w2 := wrap_i64 (by omega : 0 ≤ m) c4
        refine newSlice_sound (w' := { w with heap := w.heap.push (.cells (zerosOf m.toNat z.cells.toList).toArray e (0, 0)) }) r hf (zeros_closed (hE.zclosed e z hz) m.toNat) e (by omega) (by unfold openCap; omega) (by simp) rfl rfl rfl ?_
        have t1 : ((m < 0 || (i.bytes : Int) * m > 2 ^ 48) || n < 0 || n > m) = false := by
          rw [hi2]; simp; omega
        simp only [Instr.makeSlice, Sem.run_bind, run_under hE hu, Result.andThen_ok, asInt, asIntOf, Sem.run_pure, hi1, w1, w2]
        simp only [t1, Bool.false_eq_true, if_false, Sem.run_bind, run_askRoom, Result.andThen_ok, run_size hE hs]
        by_cases h0 : m.toNat * size = 0
        · have he : (zerosOf m.toNat z.cells.toList) = [] := List.eq_nil_of_length_eq_zero (by rw [zerosOf_length]; simp [hzs, h0])
          have hr0 : ∀ f : Nat → Value, (Array.range 0).map f = #[] := fun _ => by simp
          simp only [h0, if_true, Sem.run_bind, Sem.run_pure, Result.andThen_ok, hr0, run_newRow, he]
        · have hrow : (Array.range (m.toNat * size)).map (z.cells[· % z.cells.size]!) = (zerosOf m.toNat z.cells.toList).toArray := by
            apply Array.ext'
            rw [← hzs, zeros_eq]
          simp only [h0, if_false, Sem.run_bind, Sem.run_pure, Result.andThen_ok, run_zero hE hz, hrow, run_newRow]
    · exact trivial
  · exact trivial

/-! ## What append and copy take -/

theorem ofBytes_closed [Syms] {φ : Phi} (l : List UInt8) : VrelL φ (ofBytes l) (ofBytes l) := VrelL.map_of l fun _ _ => by simp [Vrel]

theorem firstN_sound [Syms] {φ : Phi} {σ : St} {w : World} (r : Rel φ σ w.heap) {size n m : Nat} {x x' : Value} {vs : List Value} (h : firstN σ size n x = some vs) (hx : Vrel φ x x') (hl : lenOf? x = some m) (hn : n ≤ m) :
    ∃ vs', (∀ w' : World, w'.heap = w.heap → (Builtin.firstCells size n x').run P w' = .ok vs'.toArray w') ∧ VrelL φ vs vs' := by
  unfold firstN at h
  split at h
  · rename_i a len cap
    simp only [Vrel] at hx
    obtain ⟨a', cap', rfl, hs⟩ := hx
    simp only [lenOf?, Option.some.injEq] at hl
    subst hl
    rcases Nat.eq_zero_or_pos n with h0 | h0
    · subst h0
      rw [Nat.zero_mul] at h
      obtain ⟨q1, q2⟩ := loadN_zero P (a' := a') h
      exact ⟨[], fun w' _ => by simp only [Builtin.firstCells, Nat.zero_mul, q1], by subst q2; exact VrelL.nil⟩
    · obtain ⟨vs', q1, q2, _⟩ := loadN_sound P r h (hs.addr (by omega))
      exact ⟨vs', fun w' hw' => by simp only [Builtin.firstCells, q1 w' hw'], q2⟩
  · simp only [Option.some.injEq] at h
    subst h
    simp only [Vrel] at hx
    subst hx
    exact ⟨[], fun _ _ => rfl, VrelL.nil⟩
  · rename_i s
    simp only [Option.some.injEq] at h
    subst h
    simp only [Vrel] at hx
    subst hx
    refine ⟨_, fun w' _ => ?_, ofBytes_closed _⟩
    simp only [Builtin.firstCells, Sem.run_pure]
    congr 1
    apply Array.ext'
    simp [ofBytes, List.extract_eq_take_drop, ByteArray.data_extract]
  · cases h

theorem lenOf_sound [Syms] {φ : Phi} {x x' : Value} {n : Nat} (h : lenOf? x = some n) (hx : Vrel φ x x') (w : World) : (Builtin.lenOf x').run P w = .ok n w := by
  unfold lenOf? at h
  split at h
  · rename_i a l c
    simp only [Option.some.injEq] at h
    subst h
    cases a with
    | none => simp only [Vrel] at hx; subst hx; rfl
    | some a => simp only [Vrel] at hx; obtain ⟨_, _, rfl, _⟩ := hx; rfl
  · simp only [Option.some.injEq] at h
    subst h
    simp only [Vrel] at hx
    subst hx
    rfl
  · cases h

/-- What the machine's append finds to add. -/
def AddRun [Syms] (P : Program) (w : World) (xd : TypeDesc) (i : TypeInfo) (z x : Value) (n : Nat) (new : List Value) : Prop :=
  match xd with
  | .int _ => ∃ k l, x = .int k l ∧ 0 ≤ l ∧ l < 70368744177664 ∧ n = l.toNat ∧ new = zerosOf n z.cells.toList ∧ z.cells.size = i.size
  | _ => (∀ w' : World, (Builtin.lenOf x).run P w' = .ok n w') ∧ (∀ w' : World, w'.heap = w.heap → (Builtin.firstCells i.size n x).run P w' = .ok new.toArray w')

theorem addArg_sound [Syms] {φ : Phi} {σ : St} {w : World} (r : Rel φ σ w.heap) {xd : TypeDesc} {i : TypeInfo} {z x x' : Value} {n : Nat} {new : List Value} (hz : closed z = true) (h : addArg σ xd z i.size x = some (n, new)) (hx : Vrel φ x x') :
    ∃ new', AddRun P w xd i z x' n new' ∧ VrelL φ new new' := by
  unfold addArg at h
  split at h
  · split at h
    · rename_i k l
      cases hc : (decide (0 ≤ l) && decide (l < 70368744177664) && Nat.beq z.cells.size i.size) with
      | false => simp only [hc, cond_false] at h; cases h
      | true =>
        simp only [hc, cond_true, Option.some.injEq, Prod.mk.injEq] at h
        simp only [Bool.and_eq_true, decide_eq_true_eq] at hc
        obtain ⟨rfl, rfl⟩ := h
        simp only [Vrel] at hx
        subst hx
        exact ⟨_, ⟨k, l, rfl, hc.1.1, hc.1.2, rfl, rfl, of_beqT hc.2⟩, zeros_closed hz _⟩
    · cases h
  · rename_i hni
    cases hl : lenOf? x with
    | none => simp [hl] at h
    | some m =>
      simp only [hl, Option.bind_some] at h
      cases hf : firstN σ i.size m x with
      | none => simp [hf] at h
      | some vs =>
        simp only [hf, Option.map_some, Option.some.injEq, Prod.mk.injEq] at h
        obtain ⟨rfl, rfl⟩ := h
        obtain ⟨vs', q1, q2⟩ := firstN_sound (P := P) r hf hx hl (Nat.le_refl _)
        refine ⟨vs', ?_, q2⟩
        unfold AddRun
        split
        · rename_i k; exact absurd rfl (hni k)
        · exact ⟨lenOf_sound hl hx, q1⟩

theorem zeroCells_eq [Syms] (z : Array Value) (n : Nat) : (Builtin.zeroCells z n).toList = zerosOf n z.toList := by
  unfold Builtin.zeroCells
  exact zeros_eq n z

theorem notInt [Syms] {xd : TypeDesc} (h : ∀ k, xd = .int k → False) : (match xd with | .int _ => true | _ => false) = false := by
  cases xd with
  | int k => exact absurd rfl (h k)
  | _ => rfl

/-- The machine's append: there is room. -/
theorem run_append_fits [Syms] {w : World} {argTypes : Array TypeId} {st xt e : TypeId} {xd : TypeDesc} {i : TypeInfo} {z : Value} (h0 : argTypes[0]? = some st) (h1 : argTypes[1]? = some xt) (hs : P.underlying st = some (.slice e)) (hx : P.underlying xt = some xd)
    (hi : P.info? e = some i) (hz : i.zero = some z) {ty : TypeId} {base : Option Addr} {sLen sCap n : Nat} {x : Value} {new : List Value} (ha : AddRun P w xd i z x n new) (hfit : sLen + n ≤ sCap) (hb : (sLen + n) * i.bytes ≤ 70368744177664) :
    (Builtin.append_ argTypes ty #[.slice base sLen sCap, x]).run P w =
      (match base with | some a => (storeCells (a.add (sLen * i.size)) new).run P w | none => .ok () w).andThen fun _ w' => .ok (.slice base (sLen + n) sCap) w' := by
  have hnb : n * i.bytes ≤ 70368744177664 := Nat.le_trans (Nat.mul_le_mul_right _ (Nat.le_add_left _ _)) hb
  have hzr : (zeroValue e).run P w = .ok z w := by unfold zeroValue typeInfo; simp [hi, hz]
  have hsz : (sizeOf e).run P w = .ok i.size w := by unfold sizeOf typeInfo; simp [hi]
  have hti : (typeInfo e).run P w = .ok i w := by unfold typeInfo; simp [hi]
  have hus : (underlying st).run P w = .ok (.slice e) w := by unfold underlying; simp [hs]
  have hux : (underlying xt).run P w = .ok xd w := by unfold underlying; simp [hx]
  unfold AddRun at ha
  split at ha
  · obtain ⟨k, l, rfl, l0, l1, rfl, rfl, hzs⟩ := ha
    have hw := wrap_i64 l0 (by omega : l < 9223372036854775808)
    have hnl : ¬ l < 0 := by omega
    have hlb : ¬ l * (i.bytes : Int) > 2 ^ 48 := by
      have : ((l.toNat * i.bytes : Nat) : Int) = l * i.bytes := by rw [Int.natCast_mul]; congr 1; omega
      omega
    have happ : ((if l.toNat * i.size = 0 then pure #[] else do pure (Builtin.zeroCells (← zeroValue e).cells l.toNat)) : Sem (Array Value)).run P w = .ok (zerosOf l.toNat z.cells.toList).toArray w := by
      by_cases h0' : l.toNat * i.size = 0
      · have he : (zerosOf l.toNat z.cells.toList) = [] := List.eq_nil_of_length_eq_zero (by rw [zerosOf_length]; simp [hzs, h0'])
        simp [h0', he]
      · simp only [h0', if_false, Sem.run_bind, hzr, Result.andThen_ok, Sem.run_pure]
        congr 1
        apply Array.ext'
        rw [zeroCells_eq]
    simp only [Builtin.append_, h0, h1, Sem.run_bind, hus, hux, Result.andThen_ok, hsz, Sem.run_pure, asInt, asIntOf, hw, hnl, hlb, hti, hfit, if_true, if_false, Bool.not_true, Bool.false_eq_true, List.getElem?_toArray, List.getElem?_cons_zero, List.getElem?_cons_succ]
    rw [happ]
    cases base <;> simp
  · rename_i hno
    obtain ⟨a1, a2⟩ := ha
    have hni := notInt hno
    have a1 := a1 w
    have a2 := a2 w rfl
    simp only [Builtin.append_, h0, h1, Sem.run_bind, hus, hux, Result.andThen_ok, hsz, Sem.run_pure, hni, Bool.false_eq_true, if_false, a1, hfit, if_true, Bool.not_false, a2, List.getElem?_toArray, List.getElem?_cons_zero, List.getElem?_cons_succ]
    cases base <;> simp [a2]

/-- The machine's append: there is no room: a new array. -/
theorem run_append_grows [Syms] {w : World} {argTypes : Array TypeId} {st xt e : TypeId} {xd : TypeDesc} {i : TypeInfo} {z : Value} (h0 : argTypes[0]? = some st) (h1 : argTypes[1]? = some xt) (hs : P.underlying st = some (.slice e)) (hx : P.underlying xt = some xd)
    (hi : P.info? e = some i) (hz : i.zero = some z) (hzs : z.cells.size = i.size) {ty : TypeId} {base : Option Addr} {sLen sCap n : Nat} {x : Value} {new old : List Value} (ha : AddRun P w xd i z x n new) (hfit : ¬ sLen + n ≤ sCap) (hb : (sLen + n) * i.bytes ≤ 70368744177664)
    (hn : sLen + n ≤ 70368744177664) (ho : ∀ w' : World, w'.heap = w.heap → (Builtin.firstCells i.size sLen (.slice base sLen sCap)).run P w' = .ok old.toArray w') (hol : old.length = sLen * i.size) (hnl : new.length = n * i.size) :
    ∃ cap c, sLen + n ≤ cap ∧ cap < openCap ∧ c.size = cap * i.size ∧ c.toList.take ((sLen + n) * i.size) = old ++ new ∧
      (Builtin.append_ argTypes ty #[.slice base sLen sCap, x]).run P w = .ok (.slice (some ⟨w.heap.size, 0, none⟩) (sLen + n) cap) { w with heap := w.heap.push (.cells c e (0, 0)), drawn := w.drawn + 1 } := by
  have hnb : n * i.bytes ≤ 70368744177664 := Nat.le_trans (Nat.mul_le_mul_right _ (Nat.le_add_left _ _)) hb
  let w1 : World := { w with drawn := w.drawn + 1 }
  have hzr : ∀ w, (zeroValue e).run P w = .ok z w := fun w => by unfold zeroValue typeInfo; simp [hi, hz]
  have hsz : ∀ w, (sizeOf e).run P w = .ok i.size w := fun w => by unfold sizeOf typeInfo; simp [hi]
  have hti : ∀ w, (typeInfo e).run P w = .ok i w := fun w => by unfold typeInfo; simp [hi]
  have hus : (underlying st).run P w = .ok (.slice e) w := by unfold underlying; simp [hs]
  have hux : (underlying xt).run P w = .ok xd w := by unfold underlying; simp [hx]
  have hmax : ¬ (((sLen + n : Nat) : Int) > IntKind.i64.max) := by show ¬ ((sLen + n : Nat) : Int) > (2 ^ 63 - 1 : Int); omega
  have hnext : ¬ Builtin.nextslicecap (sLen + n) sCap * i.bytes > 2 ^ 48 := by
    have := growslice_fits (bytes := i.bytes) (by omega : sCap < sLen + n) (by omega)
    omega
  let cap := Question.cut (.appendCap (sLen + n) sCap e) (w.tape w.drawn (.appendCap (sLen + n) sCap e))
  have hcap : sLen + n ≤ cap ∧ cap < openCap := by
    have hlt := Nat.mod_lt (w.tape w.drawn (.appendCap (sLen + n) sCap e)) (show 0 < 2 ^ 63 - (sLen + n) by omega)
    simp only [cap, Question.cut]
    unfold openCap
    omega
  have hch : (choose (.appendCap (sLen + n) sCap e)).run P w = .ok cap w1 := rfl
  have hoL := ho w1 rfl
  have hcz : (Builtin.zeroCells z.cells (cap - (sLen + n))).size = (cap - (sLen + n)) * i.size := by
    have := congrArg List.length (zeroCells_eq z.cells (cap - (sLen + n)))
    rw [zerosOf_length] at this
    simpa [hzs] using this
  refine ⟨cap, old.toArray ++ new.toArray ++ Builtin.zeroCells z.cells (cap - (sLen + n)), hcap.1, hcap.2, ?_, ?_, ?_⟩
  · simp only [Array.size_append, List.size_toArray, hcz, hol, hnl, ← Nat.add_mul]
    congr 1
    omega
  · simp only [Array.toList_append, List.append_assoc]
    rw [← List.append_assoc, show (sLen + n) * i.size = (old ++ new).length by rw [List.length_append, hol, hnl, Nat.add_mul]]
    exact List.take_left
  · unfold AddRun at ha
    split at ha
    · obtain ⟨k, l, rfl, l0, l1, rfl, rfl, hzs'⟩ := ha
      have hw := wrap_i64 l0 (by omega : l < 9223372036854775808)
      have hnl' : ¬ l < 0 := by omega
      have hlb : ¬ l * (i.bytes : Int) > 2 ^ 48 := by
        have : ((l.toNat * i.bytes : Nat) : Int) = l * i.bytes := by rw [Int.natCast_mul]; congr 1; omega
        omega
      have happ : ((if l.toNat * i.size = 0 then pure #[] else do pure (Builtin.zeroCells (← zeroValue e).cells l.toNat)) : Sem (Array Value)).run P w1 = .ok (zerosOf l.toNat z.cells.toList).toArray w1 := by
        by_cases h0' : l.toNat * i.size = 0
        · have he : (zerosOf l.toNat z.cells.toList) = [] := List.eq_nil_of_length_eq_zero (by rw [zerosOf_length]; simp [hzs, h0'])
          simp [h0', he]
        · simp only [h0', if_false, Sem.run_bind, hzr, Result.andThen_ok, Sem.run_pure]
          congr 1
          apply Array.ext'
          rw [zeroCells_eq]
      simp only [Builtin.append_, h0, h1, Sem.run_bind, hus, hux, Result.andThen_ok, hsz, Sem.run_pure, asInt, asIntOf, hw, hnl', hlb, hti, hfit, hmax, hnext, false_and, if_true, if_false, Bool.not_true, Bool.false_eq_true, List.getElem?_toArray, List.getElem?_cons_zero, List.getElem?_cons_succ, hch, run_askRoom, hoL]
      rw [happ]
      simp only [Result.andThen_ok, hzr, Sem.run_bind, run_newRow, Sem.run_pure]
      rfl
    · rename_i hno
      obtain ⟨a1, a2⟩ := ha
      have hni := notInt hno
      have a1 := a1 w
      have a2 := a2 w1 rfl
      simp only [Builtin.append_, h0, h1, Sem.run_bind, hus, hux, Result.andThen_ok, hsz, Sem.run_pure, hni, hti, hfit, hmax, hnext, false_and, if_true, if_false, Bool.not_false, Bool.false_eq_true, List.getElem?_toArray, List.getElem?_cons_zero, List.getElem?_cons_succ, a1, hch, run_askRoom, hoL, a2, hzr, run_newRow]
      rfl

end Go.Ab
