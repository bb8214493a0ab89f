/- The operations that ask memory nothing. -/
import Derived.Test.YtglelglhogfnfaaGreatAbMem
import Derived.Calls
import Derived.Laws.Strings
namespace Go.Ab

variable {P : Program} {E : Env}

/-- A deferred call. -/
def DRel [Syms] (φ : Phi) (d d' : Deferred) : Prop :=
  (∃ f c c', d.target = .fn (.func f) c ∧ d'.target = .fn (.func f) c' ∧ VrelA φ c c' ∧ VrelA φ d.args d'.args) ∨
  (∃ i i', d.target = .collected i ∧ d'.target = .collected i' ∧ ORel φ i i')

def CRel [Syms] (φ : Phi) (c c' : CommCase) : Prop :=
  Vrel φ c.chan c'.chan ∧ Vrel φ c.zero c'.zero ∧ (match c.send, c'.send with | none, none => True | some v, some v' => Vrel φ v v' | _, _ => False)

/-- What the abstract operation says of the machine's. -/
def OpOk [Syms] (φ : Phi) (σ : St) (w : World) : OR → Result Next → Prop
  | .val v σ', r => ∃ φ' w' v', (r = .ok (.value v') w' ∨ (r = .ok .skip w' ∧ v' = undef)) ∧ Vrel φ' v v' ∧ Rel φ' σ' w'.heap ∧ Trans φ σ w φ' σ' w'
  | .enter f args σ', r => σ' = σ ∧ ∃ args', r = .ok (.enter f args') w ∧ VrelL φ args args'.toList
  | .round l args, r => ∃ (l' : Nat) (args' : Array Value), ORel φ l l' ∧ VrelL φ args args'.toList ∧ ∀ L', w.heap[l']? = some (.loop L') → args'.size = L'.params.size →
      r = .ok (.round l' L'.fn ((L'.params.zip args').foldl (fun tmps (t, a) => tmps.setIfInBounds t a) L'.tmps) L'.assign L'.body) w
  | .defer d σ', r => σ' = σ ∧ ∃ d', r = .ok (.defer d') w ∧ DRel φ d d'
  | .recover σ', r => σ' = σ ∧ r = .ok .recover w
  | .comm cases bl sh, r => ∃ cases' : Array CommCase, r = .ok (.comm cases' bl sh) w ∧ cases'.size = cases.length ∧ ∀ (k : Nat) (c : CommCase), cases[k]? = some c → ∃ c' : CommCase, cases'[k]? = some c' ∧ CRel φ c c'
  | .panic v σ', r => σ' = σ ∧ ∃ v', r = .halt (.panic v') w ∧ Vrel φ v v'
  | .fail, _ => True

theorem OpOk.pure [Syms] {φ : Phi} {σ : St} {w : World} (r : Rel φ σ w.heap) {v v' : Value} {res : Result Next} (h : res = .ok (.value v') w) (hv : Vrel φ v v') : OpOk φ σ w (.val v σ) res :=
  ⟨φ, w, v', .inl h, hv, r, Trans.refl _ _ _⟩

theorem OpOk.ofVal [Syms] {φ : Phi} {σ : St} {w : World} (r : Rel φ σ w.heap) {o : Option Value} {res : Result Next} (h : ∀ v, o = some v → ∃ v', res = .ok (.value v') w ∧ Vrel φ v v') : OpOk φ σ w (OR.ofVal σ o) res := by
  cases o with
  | none => exact trivial
  | some v => obtain ⟨v', h1, h2⟩ := h v rfl; exact .pure r h1 h2

/-! ## Runs that ask nothing -/

theorem pureRun_sound [Syms] {α : Type} (P : Program) : ∀ (s : Sem α) (a : α), pureRun P s = some a → ∀ w, s.run P w = .ok a w
  | .pure a, b, h, w => by simp only [pureRun, Option.some.injEq] at h; subst h; rfl
  | .program k, b, h, w => by
    simp only [pureRun] at h
    simp only [Sem.run]
    exact pureRun_sound P (k P) b h w
  | .load .., _, h, _ => by simp [pureRun] at h
  | .store .., _, h, _ => by simp [pureRun] at h
  | .new .., _, h, _ => by simp [pureRun] at h
  | .shape .., _, h, _ => by simp [pureRun] at h
  | .freeze .., _, h, _ => by simp [pureRun] at h
  | .frozen .., _, h, _ => by simp [pureRun] at h
  | .getObj .., _, h, _ => by simp [pureRun] at h
  | .setObj .., _, h, _ => by simp [pureRun] at h
  | .choose .., _, h, _ => by simp [pureRun] at h
  | .sys .., _, h, _ => by simp [pureRun] at h
  | .mark .., _, h, _ => by simp [pureRun] at h
  | .halt .., _, h, _ => by simp [pureRun] at h

theorem plainOut_closed [Syms] {v : Value} (h : plainOut v = true) : closed v = true := by cases v <;> simp_all [plainOut, closed]

/-! ## Integers -/

theorem run_eqGuard_plain [Syms] (op : BinOp) (t : TypeId) (xo yo : Operand) (x y : Value) (w : World) (hx : ∀ cs, x ≠ .agg cs) (hn : x ≠ .nilIface ∨ y ≠ .nilIface) : (eqGuard op t xo yo x y).run P w = .ok () w := by
  unfold eqGuard
  cases op <;> simp <;> (try rfl) <;> (split <;> simp_all)

theorem intBin_sound [Syms] {op : BinOp} {k k' : IntKind} {a b : Int} {v : Value} (h : intBin op k a k' b = some v) (t : TypeId) (w : World) : (binOp op t (.int k a) (.int k' b)).run P w = .ok v w ∧ plainOut v = true := by
  unfold intBin at h
  split at h
  · cases hb : decide (b < 0) <;> simp [hb] at h
    subst h
    simp at hb
    simp [binOp, Op.shift, plainOut, show ¬ b < 0 by omega]
  · cases hb : decide (b < 0) <;> simp [hb] at h
    subst h
    simp at hb
    simp [binOp, Op.shift, plainOut, show ¬ b < 0 by omega]
  · rename_i o _ _
    split at h
    · rename_i hk
      subst hk
      split at h
      all_goals (try (split at h))
      all_goals first
        | (simp only [Option.some.injEq] at h; subst h; simp_all [binOp, Op.intArith, Op.intDiv, Op.intBits, Op.intCmp, plainOut]; done)
        | (cases h)
    · cases h

theorem bytesEq_eq [Syms] : ∀ (x y : List UInt8), bytesEq x y = (x == y)
  | [], [] => rfl
  | [], _ :: _ => rfl
  | _ :: _, [] => rfl
  | a :: x, b :: y => by
    rw [bytesEq, bytesEq_eq x y]
    have : Nat.beq a.toNat b.toNat = (a == b) := by
      cases h : Nat.beq a.toNat b.toNat with
      | true => have := of_beqT h; simp [UInt8.toNat_inj.1 this]
      | false =>
        have hne : a ≠ b := fun e => by rw [e, Nat.beq_refl] at h; cases h
        simp [hne]
    rw [this]
    simp [List.cons_beq_cons]

theorem bytesLt_eq [Syms] : ∀ (x y : List UInt8), bytesLt x y = Op.bytesLess x y
  | [], [] => rfl
  | [], _ :: _ => rfl
  | _ :: _, [] => rfl
  | a :: x, b :: y => by
    rw [bytesLt, Op.bytesLess, bytesLt_eq x y]
    have h1 : Nat.beq a.toNat b.toNat = (a == b) := by
      cases h : Nat.beq a.toNat b.toNat with
      | true => have := of_beqT h; simp [UInt8.toNat_inj.1 this]
      | false =>
        have hne : a ≠ b := fun e => by rw [e, Nat.beq_refl] at h; cases h
        simp [hne]
    have h2 : Nat.blt a.toNat b.toNat = decide (a < b) := by
      cases h : Nat.blt a.toNat b.toNat with
      | true => have := of_bltT h; simp [UInt8.lt_iff_toNat_lt, this]
      | false =>
        have : b.toNat < a.toNat + 1 := of_bleF h
        have : ¬ a < b := by rw [UInt8.lt_iff_toNat_lt]; omega
        simp [this]
    rw [h1, h2]

theorem strBin_sound [Syms] {op : BinOp} {a b : ByteArray} {v : Value} (h : strBin op a.data.toList b.data.toList = some v) (t : TypeId) (w : World) : (binOp op t (.string a) (.string b)).run P w = .ok v w ∧ plainOut v = true := by
  have hs : ∀ s : ByteArray, s.size = s.data.toList.length := fun s => by simp
  unfold strBin at h
  split at h
  · cases hb : Nat.ble (a.data.toList.length + b.data.toList.length) 9223372036854775807 with
    | false => simp only [hb, cond_false] at h; cases h
    | true =>
      simp only [hb, cond_true, Option.some.injEq] at h
      have hle := of_bleT hb
      subst h
      refine ⟨?_, rfl⟩
      have hn : ¬ ((a.size + b.size : Nat) : Int) > IntKind.i64.max := by
        rw [hs, hs]
        show ¬ _ > (2 ^ 63 - 1 : Int)
        omega
      have hcat : a ++ b = ⟨(a.data.toList ++ b.data.toList).toArray⟩ := by
        apply ByteArray.ext
        rw [ByteArray.data_append]
        apply Array.ext'
        simp
      simp only [binOp, Op.stringOp, hn, if_false, Sem.run_pure, hcat]
  all_goals first
    | (cases h; done)
    | (simp only [Option.some.injEq] at h; subst h; refine ⟨?_, rfl⟩; simp only [binOp, Op.stringOp, ByteArray.toList_eq, bytesEq_eq, bytesLt_eq, Sem.run_pure]; done)

/-! ## Comparisons -/

theorem run_equal [Syms] (t : TypeId) (x y : Value) : Op.equal t x y = Op.equalIn (9999 + 1) t x y := rfl

section
variable {d : Nat} {t : TypeId} {w : World}
theorem eq_ptr_nn [Syms] {e : TypeId} (h : P.underlying t = some (.pointer e)) : (Op.equalIn (d + 1) t (.pointer none) (.pointer none)).run P w = .ok true w := by
  simp [Op.equalIn, underlying, h]
theorem eq_ptr_ns [Syms] {e : TypeId} {a : Addr} (h : P.underlying t = some (.pointer e)) : (Op.equalIn (d + 1) t (.pointer none) (.pointer (some a))).run P w = .ok false w := by
  simp [Op.equalIn, underlying, h]
theorem eq_ptr_sn [Syms] {e : TypeId} {a : Addr} (h : P.underlying t = some (.pointer e)) : (Op.equalIn (d + 1) t (.pointer (some a)) (.pointer none)).run P w = .ok false w := by
  simp [Op.equalIn, underlying, h]
theorem eq_ptr_ss [Syms] {e n : TypeId} {a b : Addr} (h : P.underlying t = some (.pointer e)) (hs : (sizeOf e).run P w = .ok (n + 1) w) (hb : a.block = b.block) :
    (Op.equalIn (d + 1) t (.pointer (some a)) (.pointer (some b))).run P w = .ok (a == b) w := by
  simp [Op.equalIn, underlying, h, hs, sameAddr, hb]
theorem eq_slice_nn [Syms] {e l c l' c' : TypeId} (h : P.underlying t = some (.slice e)) : (Op.equalIn (d + 1) t (.slice none l c) (.slice none l' c')).run P w = .ok true w := by
  simp [Op.equalIn, underlying, h]
theorem eq_slice_ns [Syms] {e l c l' c' : TypeId} {a : Addr} (h : P.underlying t = some (.slice e)) : (Op.equalIn (d + 1) t (.slice none l c) (.slice (some a) l' c')).run P w = .ok false w := by
  simp [Op.equalIn, underlying, h]
theorem eq_slice_sn [Syms] {e l c l' c' : TypeId} {a : Addr} (h : P.underlying t = some (.slice e)) : (Op.equalIn (d + 1) t (.slice (some a) l c) (.slice none l' c')).run P w = .ok false w := by
  simp [Op.equalIn, underlying, h]
theorem eq_map_nn [Syms] {k e : TypeId} (h : P.underlying t = some (.map k e)) : (Op.equalIn (d + 1) t (.map none) (.map none)).run P w = .ok true w := by
  simp [Op.equalIn, underlying, h]
theorem eq_map_ns [Syms] {k e : TypeId} {a : Nat} (h : P.underlying t = some (.map k e)) : (Op.equalIn (d + 1) t (.map none) (.map (some a))).run P w = .ok false w := by
  simp [Op.equalIn, underlying, h]
theorem eq_map_sn [Syms] {k e : TypeId} {a : Nat} (h : P.underlying t = some (.map k e)) : (Op.equalIn (d + 1) t (.map (some a)) (.map none)).run P w = .ok false w := by
  simp [Op.equalIn, underlying, h]
theorem eq_func_ns [Syms] {p q : Array TypeId} {b : Bool} {f : Fn} {x y : Array Value} (h : P.underlying t = some (.func p q b)) : (Op.equalIn (d + 1) t .nilFunc (.func f x y)).run P w = .ok false w := by
  simp [Op.equalIn, underlying, h]
theorem eq_func_sn [Syms] {p q : Array TypeId} {b : Bool} {f : Fn} {x y : Array Value} (h : P.underlying t = some (.func p q b)) : (Op.equalIn (d + 1) t (.func f x y) .nilFunc).run P w = .ok false w := by
  simp [Op.equalIn, underlying, h]
theorem eq_iface_ns [Syms] {m : Array (String × TypeId)} {u : TypeId} {x : Value} (h : P.underlying t = some (.interface m)) : (Op.equalIn (d + 1) t .nilIface (.iface u x)).run P w = .ok false w := by
  simp [Op.equalIn, underlying, h]
theorem eq_iface_sn [Syms] {m : Array (String × TypeId)} {u : TypeId} {x : Value} (h : P.underlying t = some (.interface m)) : (Op.equalIn (d + 1) t (.iface u x) .nilIface).run P w = .ok false w := by
  simp [Op.equalIn, underlying, h]
theorem eq_iface_ss [Syms] {m : Array (String × TypeId)} {u v : TypeId} {x y : Value} (h : P.underlying t = some (.interface m)) (hne : u ≠ v) : (Op.equalIn (d + 1) t (.iface u x) (.iface v y)).run P w = .ok false w := by
  simp [Op.equalIn, underlying, h, hne]
end

theorem sameRef_sound [Syms] (hE : EnvOk P E) {φ : Phi} {σ : St} {w : World} (r : Rel φ σ w.heap) {t : Nat} {x y x' y' : Value} {b : Bool} (h : sameRef E t x y = some b) (hx : Vrel φ x x') (hy : Vrel φ y y')
    (ax : aliveRef σ x = true) (ay : aliveRef σ y = true) : (Op.equal t x' y').run P w = .ok b w := by
  rw [run_equal]
  have alive : ∀ (a a' : Addr), aliveRef σ (.pointer (some a)) = true → ARel φ a a' → ∃ z, φ a.block = .live z ∧ a = ⟨a.block, a.off, none⟩ ∧ a' = ⟨z.blk, z.base + a.off, none⟩ := by
    intro a a' ha hr
    simp only [aliveRef, Bool.and_eq_true, Option.isSome_iff_exists] at ha
    obtain ⟨_, blk, hb⟩ := ha
    obtain ⟨z, o, hz, _⟩ := r.blocks _ _ hb
    obtain ⟨e1, e2⟩ := hr.live hz
    exact ⟨z, hz, e1, e2⟩
  unfold sameRef at h
  split at h
  · rename_i e hu
    have hu := hE.under hu
    split at h
    · simp only [Vrel] at hx hy; subst hx; subst hy; cases h; exact eq_ptr_nn hu
    · simp only [Vrel] at hx hy; subst hx; obtain ⟨_, rfl, _⟩ := hy; cases h; exact eq_ptr_ns hu
    · simp only [Vrel] at hx hy; subst hy; obtain ⟨_, rfl, _⟩ := hx; cases h; exact eq_ptr_sn hu
    · rename_i a c
      simp only [Vrel] at hx hy
      obtain ⟨a', rfl, ra⟩ := hx
      obtain ⟨c', rfl, rc⟩ := hy
      split at h
      · rename_i n hn
        cases hb : Nat.beq a.block c.block with
        | false => simp only [hb, cond_false] at h; cases h
        | true =>
          simp only [hb, cond_true, Option.some.injEq] at h
          have hbb := of_beqT hb
          obtain ⟨z, hz, e1, e2⟩ := alive a a' ax ra
          obtain ⟨z', hz', e3, e4⟩ := alive c c' ay rc
          rw [← hbb, hz] at hz'
          cases hz'
          rw [eq_ptr_ss hu (run_size hE hn w) (by rw [e2, e4])]
          subst h
          congr 1
          rw [e2, e4]
          cases ho : Nat.beq a.off c.off with
          | true => have := of_beqT ho; simp [this]
          | false =>
            have : a.off ≠ c.off := fun e => by rw [e, Nat.beq_refl] at ho; cases ho
            simp only [beq_eq_false_iff_ne, ne_eq, Addr.mk.injEq, not_and]
            intro _ hh
            omega
      · cases h
    · cases h
  · rename_i e hu
    have hu := hE.under hu
    split at h
    · simp only [Vrel] at hx hy; subst hx; subst hy; cases h; exact eq_slice_nn hu
    · simp only [Vrel] at hx hy; subst hx; obtain ⟨_, _, rfl, _⟩ := hy; cases h; exact eq_slice_ns hu
    · simp only [Vrel] at hx hy; subst hy; obtain ⟨_, _, rfl, _⟩ := hx; cases h; exact eq_slice_sn hu
    · cases h
  · rename_i e hu
    have hu := hE.under hu
    split at h
    · simp only [Vrel] at hx hy; subst hx; subst hy; cases h; exact eq_map_nn hu
    · simp only [Vrel] at hx hy; subst hx; obtain ⟨_, rfl, _⟩ := hy; cases h; exact eq_map_ns hu
    · simp only [Vrel] at hx hy; subst hy; obtain ⟨_, rfl, _⟩ := hx; cases h; exact eq_map_sn hu
    · cases h
  · rename_i e hu
    have hu := hE.under hu
    split at h
    · simp only [Vrel] at hx hy; subst hx; obtain ⟨_, _, rfl, _⟩ := hy; cases h; exact eq_func_ns hu
    · simp only [Vrel] at hx hy; subst hy; obtain ⟨_, _, rfl, _⟩ := hx; cases h; exact eq_func_sn hu
    · cases h
  · rename_i e hu
    have hu := hE.under hu
    split at h
    · simp only [Vrel] at hx hy; subst hx; obtain ⟨_, rfl, _⟩ := hy; cases h; exact eq_iface_ns hu
    · simp only [Vrel] at hx hy; subst hy; obtain ⟨_, rfl, _⟩ := hx; cases h; exact eq_iface_sn hu
    · rename_i tx _ ty _
      cases hb : Nat.beq tx ty with
      | true => simp only [hb, cond_true] at h; cases h
      | false =>
        simp only [hb, cond_false, Option.some.injEq] at h
        subst h
        simp only [Vrel] at hx hy
        obtain ⟨_, rfl, _⟩ := hx
        obtain ⟨_, rfl, _⟩ := hy
        exact eq_iface_ss hu fun e => by rw [e, Nat.beq_refl] at hb; cases hb
    · cases h
  · cases h

def refLike [Syms] : Value → Bool
  | .pointer _ | .slice .. | .map _ | .func .. | .nilFunc | .iface .. | .nilIface => true
  | _ => false

theorem sameRef_shape [Syms] {t : Nat} {x y : Value} {b : Bool} (h : sameRef E t x y = some b) : refLike x = true ∧ (x ≠ .nilIface ∨ y ≠ .nilIface) := by
  unfold sameRef at h
  (repeat' split at h) <;> first | (cases h; done) | (refine ⟨rfl, ?_⟩; first | (left; intro e; cases e; done) | (right; intro e; cases e; done))

theorem refLike_rel [Syms] {φ : Phi} {x x' : Value} (h : refLike x = true) (hx : Vrel φ x x') : refLike x' = true ∧ (x = .nilIface ↔ x' = .nilIface) := by
  cases x with
  | pointer a => cases a <;> simp only [Vrel] at hx <;> (first | subst hx | obtain ⟨_, rfl, _⟩ := hx) <;> simp [refLike]
  | slice a => cases a <;> simp only [Vrel] at hx <;> (first | subst hx | obtain ⟨_, _, rfl, _⟩ := hx) <;> simp [refLike]
  | map a => cases a <;> simp only [Vrel] at hx <;> (first | subst hx | obtain ⟨_, rfl, _⟩ := hx) <;> simp [refLike]
  | func => simp only [Vrel] at hx; obtain ⟨_, _, rfl, _⟩ := hx; simp [refLike]
  | nilFunc => simp only [Vrel] at hx; subst hx; simp [refLike]
  | iface => simp only [Vrel] at hx; obtain ⟨_, rfl, _⟩ := hx; simp [refLike]
  | nilIface => simp only [Vrel] at hx; subst hx; simp [refLike]
  | _ => simp [refLike] at h

theorem binOp_eql [Syms] {t : TypeId} {x y : Value} (h : refLike x = true) : binOp .eql t x y = (do pure (.bool (← Op.equal t x y))) := by
  cases x <;> simp [refLike] at h <;> simp [binOp]
theorem binOp_neq [Syms] {t : TypeId} {x y : Value} (h : refLike x = true) : binOp .neq t x y = (do pure (.bool (!(← Op.equal t x y)))) := by
  cases x <;> simp [refLike] at h <;> simp [binOp]

theorem aBin_sound [Syms] (hE : EnvOk P E) {φ : Phi} {σ : St} {w : World} (r : Rel φ σ w.heap) {op : BinOp} {t : Nat} {xo yo : Operand} {x y x' y' v : Value} (h : aBin P E σ op t xo yo x y = some v) (hx : Vrel φ x x') (hy : Vrel φ y y') :
    (do eqGuard op t xo yo x' y'; binOp op t x' y').run P w = .ok v w ∧ closed v = true := by
  unfold aBin at h
  split at h
  · rename_i k a k' b
    simp only [Vrel] at hx hy
    subst hx; subst hy
    obtain ⟨h1, h2⟩ := intBin_sound (P := P) h t w
    refine ⟨?_, plainOut_closed h2⟩
    rw [Sem.run_bind, run_eqGuard_plain op t xo yo _ _ w (by intro cs e; cases e) (.inl (by intro e; cases e))]
    exact h1
  · rename_i a b
    simp only [Vrel] at hx hy
    subst hx; subst hy
    obtain ⟨h1, h2⟩ := strBin_sound (P := P) h t w
    refine ⟨?_, plainOut_closed h2⟩
    rw [Sem.run_bind, run_eqGuard_plain op t xo yo _ _ w (by intro cs e; cases e) (.inl (by intro e; cases e))]
    exact h1
  · cases hc : closed x && closed y with
    | true =>
      simp only [hc, cond_true] at h
      simp only [Bool.and_eq_true] at hc
      rw [Vrel.closed_eq x x' hc.1 hx, Vrel.closed_eq y y' hc.2 hy]
      unfold plainOnly at h
      split at h
      · rename_i u hu
        cases hp : plainOut u with
        | false => simp [hp] at h
        | true =>
          simp only [hp, cond_true, Option.some.injEq] at h
          subst h
          exact ⟨pureRun_sound P _ _ hu w, plainOut_closed hp⟩
      · cases h
    | false =>
      simp only [hc, cond_false] at h
      cases ha : aliveRef σ x && aliveRef σ y with
      | false => simp [ha] at h
      | true =>
        simp only [ha, cond_true] at h
        simp only [Bool.and_eq_true] at ha
        split at h
        · cases hs : sameRef E t x y with
          | none => simp [hs] at h
          | some b =>
            simp only [hs, Option.map_some, Option.some.injEq] at h
            subst h
            obtain ⟨s1, s2⟩ := sameRef_shape hs
            obtain ⟨s3, s4⟩ := refLike_rel s1 hx
            refine ⟨?_, rfl⟩
            rw [Sem.run_bind, run_eqGuard_plain _ t xo yo _ _ w (by intro cs e; subst e; simp [refLike] at s3) ?_, Result.andThen_ok, binOp_eql s3, Sem.run_bind, sameRef_sound hE r hs hx hy ha.1 ha.2]
            · rfl
            · rcases s2 with s2 | s2
              · exact .inl fun e => s2 (s4.2 e)
              · refine .inr fun e => ?_
                subst e
                cases y with
                | nilIface => exact s2 rfl
                | pointer a => cases a <;> simp [Vrel] at hy
                | slice a => cases a <;> simp [Vrel] at hy
                | map a => cases a <;> simp [Vrel] at hy
                | chan a => cases a <;> simp [Vrel] at hy
                | complex => simp only [aliveRef, closed] at *; unfold sameRef at hs; (repeat' split at hs) <;> simp_all
                | _ => simp [Vrel] at hy
        · cases hs : sameRef E t x y with
          | none => simp [hs] at h
          | some b =>
            simp only [hs, Option.map_some, Option.some.injEq] at h
            subst h
            obtain ⟨s1, s2⟩ := sameRef_shape hs
            obtain ⟨s3, s4⟩ := refLike_rel s1 hx
            refine ⟨?_, rfl⟩
            rw [Sem.run_bind, run_eqGuard_plain _ t xo yo _ _ w (by intro cs e; subst e; simp [refLike] at s3) ?_, Result.andThen_ok, binOp_neq s3, Sem.run_bind, sameRef_sound hE r hs hx hy ha.1 ha.2]
            · rfl
            · rcases s2 with s2 | s2
              · exact .inl fun e => s2 (s4.2 e)
              · refine .inr fun e => ?_
                subst e
                cases y with
                | nilIface => exact s2 rfl
                | pointer a => cases a <;> simp [Vrel] at hy
                | slice a => cases a <;> simp [Vrel] at hy
                | map a => cases a <;> simp [Vrel] at hy
                | chan a => cases a <;> simp [Vrel] at hy
                | complex => simp only [aliveRef, closed] at *; unfold sameRef at hs; (repeat' split at hs) <;> simp_all
                | _ => simp [Vrel] at hy
        · cases h

end Go.Ab
