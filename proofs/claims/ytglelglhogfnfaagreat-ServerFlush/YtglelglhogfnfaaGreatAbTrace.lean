/- Drawn regions: what was written down of the run in the order of the text; masks and pairs. -/
import Derived.Test.YtglelglhogfnfaaGreatAbCls
namespace Go.Ab

variable {P : Program} {E : Env}

/-- Where the run in the order of the text stands. -/
structure Cu where
  τ : Tr Value
  ds : List Deferred
  par : Option FrameMode
  σ : St
  base : St

noncomputable def putT (τ : Tr Value) (dst : Option Nat) (v : Value) : Tr Value :=
  match dst with
  | some d => τ.set d (some v)
  | none => τ

def Rec.at (r : Rec) : Cu := ⟨r.tmps, r.ds, r.par, r.σ, r.base⟩
noncomputable def Rec.aft (r : Rec) : Cu := ⟨putT r.tmps r.o.dst r.v, r.ds', r.par', r.out, if r.k = .eff then r.out else r.base⟩

noncomputable def cur (c0 : Cu) : List Rec → Nat → Cu
  | _, 0 => c0
  | [], _ + 1 => c0
  | r :: rs, j + 1 => cur r.aft rs j

theorem cur_succ [Syms] : ∀ {c0 : Cu} {rs : List Rec} {j : Nat} {r : Rec}, rs[j]? = some r → cur c0 rs (j + 1) = r.aft
  | _, [], j, r, h => by simp at h
  | c0, x :: rs, 0, r, h => by simp only [List.getElem?_cons_zero, Option.some.injEq] at h; subst h; simp [cur]
  | c0, x :: rs, j + 1, r, h => by
    simp only [List.getElem?_cons_succ] at h
    rw [cur, cur_succ h]

/-- One line of what was written down. -/
structure RecOk [Syms] (P : Program) (E : Env) (ops : Array Oper) (n nn : Nat) (r : Rec) : Prop where
  k : r.k = cls r.o.op
  want : aWanted ops r.tmps r.o = some r.wanted
  run : r.wanted = true → ∃ m, m < n ∧ stepOp P E m (evalO r.tmps) r.o r.ds r.par r.σ = .val r.v r.ds' r.par' r.out
  skip : r.wanted = false → r.v = undef ∧ r.ds' = r.ds ∧ r.par' = r.par ∧ r.out = r.σ
  dst : ∀ d, r.o.dst = some d → d < nn

theorem RecOk.up [Syms] {ops : Array Oper} {n m nn : Nat} {r : Rec} (h : RecOk P E ops n nn r) (hm : n ≤ m) : RecOk P E ops m nn r :=
  ⟨h.k, h.want, fun hw => let ⟨k, h1, h2⟩ := h.run hw; ⟨k, by omega, h2⟩, h.skip, h.dst⟩

/-- What was written down, as a whole. -/
structure Traced [Syms] (P : Program) (E : Env) (ops : Array Oper) (n nn : Nat) (l : List Oper) (rs : List Rec) (c0 : Cu) : Prop where
  at' : ∀ (j : Nat) (r : Rec), rs[j]? = some r → r.at = cur c0 rs j
  ok : ∀ (j : Nat) (r : Rec), rs[j]? = some r → RecOk P E ops n nn r
  op : ∀ (j : Nat) (r : Rec), rs[j]? = some r → l[j]? = some r.o

theorem Traced.cons [Syms] {ops : Array Oper} {n nn : Nat} {l : List Oper} {rs : List Rec} {c0 : Cu} {r : Rec} (h : Traced P E ops n nn l rs r.aft) (hr : RecOk P E ops (n + 1) nn r) (h0 : r.at = c0) : Traced P E ops (n + 1) nn (r.o :: l) (r :: rs) c0 := by
  refine ⟨fun j x hx => ?_, fun j x hx => ?_, fun j x hx => ?_⟩ <;> cases j with
  | zero => simp only [List.getElem?_cons_zero, Option.some.injEq] at hx; subst hx; first | exact h0 | exact hr | rfl
  | succ j =>
    simp only [List.getElem?_cons_succ] at hx ⊢
    first | exact h.at' j x hx | exact (h.ok j x hx).up (Nat.le_succ n) | exact h.op j x hx

theorem Fr.put_some [Syms] {fr fr' : Fr} {dst : Option Nat} {v : Value} (h : fr.put dst v = some fr') : fr' = { fr with tmps := putT fr.tmps dst v } ∧ ∀ d, dst = some d → d < fr.n := by
  unfold Fr.put at h
  cases dst with
  | none => simp only [Option.some.injEq] at h; subst h; exact ⟨rfl, fun _ h => by cases h⟩
  | some d =>
    cases hb : Nat.blt d fr.n with
    | false => simp only [hb, cond_false] at h; cases h
    | true =>
      simp only [hb, cond_true, Option.some.injEq] at h
      subst h
      exact ⟨rfl, fun e he => by cases he; exact of_bltT hb⟩

/-- What the run in the order of the text comes to. -/
def DOk [Syms] (P : Program) (E : Env) (ops : Array Oper) (n : Nat) (l : List Oper) (fr : Fr) (σ base : St) : DRes → Prop
  | .all rs fr' σ' => Traced P E ops n fr.n l rs ⟨fr.tmps, fr.defers, fr.par, σ, base⟩ ∧ rs.length = l.length ∧
      ∃ c, c = cur ⟨fr.tmps, fr.defers, fr.par, σ, base⟩ rs rs.length ∧ fr' = ⟨fr.n, c.τ, c.ds, c.par⟩ ∧ σ' = c.σ
  | .panic rs ch fr' σ' left => Traced P E ops n fr.n l rs ⟨fr.tmps, fr.defers, fr.par, σ, base⟩ ∧ ∃ o, l = rs.map (·.o) ++ o :: left ∧ cls o.op = .eff ∧
      ∃ c, c = cur ⟨fr.tmps, fr.defers, fr.par, σ, base⟩ rs rs.length ∧ fr' = ⟨fr.n, c.τ, c.ds, c.par⟩ ∧ aWanted ops c.τ o = some true ∧ ∃ m, m < n ∧ stepOp P E m (evalO c.τ) o c.ds c.par c.σ = .panic ch σ'
  | .fail _ => True

theorem runD_ok [Syms] (ops : Array Oper) : ∀ (n : Nat) (l : List Oper) (fr : Fr) (σ base : St), DOk P E ops n l fr σ base (runD P E n ops l fr σ base)
  | 0, l, fr, σ, base => by unfold runD; exact trivial
  | n + 1, [], fr, σ, base => by
    unfold runD
    exact ⟨⟨fun j r h => by simp at h, fun j r h => by simp at h, fun j r h => by simp at h⟩, rfl, _, rfl, rfl, rfl⟩
  | n + 1, o :: l, fr, σ, base => by
    have ih := fun fr σ base => runD_ok ops n l fr σ base
    unfold runD
    have tail : ∀ (fr1 : Fr) (r : Rec), RecOk P E ops (n + 1) fr.n r → r.o = o → r.at = ⟨fr.tmps, fr.defers, fr.par, σ, base⟩ → fr1 = ⟨fr.n, r.aft.τ, r.aft.ds, r.aft.par⟩ → ∀ (b1 : St), b1 = r.aft.base →
        DOk P E ops (n + 1) (o :: l) fr σ base (match runD P E n ops l fr1 r.out b1 with
          | .all rs fr'' σ'' => .all (r :: rs) fr'' σ''
          | .panic rs ch fr'' σ'' left => .panic (r :: rs) ch fr'' σ'' left
          | .fail w => .fail w) := by
      intro fr1 r hr hro hat hfr b1 hb1
      subst hfr
      subst hb1
      have h := ih ⟨fr.n, r.aft.τ, r.aft.ds, r.aft.par⟩ r.out r.aft.base
      cases hd : runD P E n ops l ⟨fr.n, r.aft.τ, r.aft.ds, r.aft.par⟩ r.out r.aft.base with
      | all rs fr'' σ'' =>
        rw [hd] at h
        obtain ⟨h1, h2, c, h3, h4, h5⟩ := h
        refine ⟨hro ▸ h1.cons hr hat, by simp [h2], c, ?_, h4, h5⟩
        rw [h3]
        rfl
      | panic rs ch fr'' σ'' left =>
        rw [hd] at h
        obtain ⟨h1, o', h2, h2', c, h3, h4, h5, m, h6, h7⟩ := h
        refine ⟨hro ▸ h1.cons hr hat, o', by simp [h2, hro], h2', c, ?_, h4, h5, m, by omega, h7⟩
        rw [h3]
        rfl
      | fail w => exact trivial
    split
    · rename_i hw
      split
      · rename_i v ds p σ1 hs
        split
        · rename_i fr1 hput
          obtain ⟨p1, p2⟩ := Fr.put_some hput
          refine tail fr1 { o, k := cls o.op, wanted := true, v, tmps := fr.tmps, σ, base, ds := fr.defers, par := fr.par, out := σ1, ds' := ds, par' := p } ⟨rfl, hw, fun _ => ⟨n, Nat.lt_succ_self n, hs⟩, fun h => (by cases h), p2⟩ rfl rfl p1 _ ?_
          simp only [Rec.aft]
          cases cls o.op <;> rfl
        · exact trivial
      · rename_i ch σ1 hs
        dsimp only
        split
        · rename_i hk
          refine ⟨⟨fun j r h => by simp at h, fun j r h => by simp at h, fun j r h => by simp at h⟩, o, rfl, hk, _, rfl, rfl, hw, n, Nat.lt_succ_self n, hs⟩
        · exact trivial
      · exact trivial
    · exact trivial
    · rename_i hw
      split
      · rename_i fr1 hput
        obtain ⟨p1, p2⟩ := Fr.put_some hput
        refine tail fr1 { o, k := cls o.op, wanted := false, v := undef, tmps := fr.tmps, σ, base, ds := fr.defers, par := fr.par, out := σ, ds' := fr.defers, par' := fr.par } ⟨rfl, hw, fun h => (by cases h), fun _ => ⟨rfl, rfl, rfl, rfl⟩, p2⟩ rfl rfl p1 _ ?_
        simp only [Rec.aft]
        cases cls o.op <;> rfl
      · exact trivial

/-! ## Masks, pairs -/

/-- The operations that are done: with each all that is ahead of it. -/
def Closed [Syms] (ops : Array Oper) (S : Nat → Bool) : Prop := ∀ (j : Nat) (o : Oper), ops[j]? = some o → S j = true → ∀ e ∈ o.after.toList, Region.binds .any e = true → S e.on = true
def Ready [Syms] (ops : Array Oper) (S : Nat → Bool) (j : Nat) : Prop := ∀ (o : Oper), ops[j]? = some o → ∀ e ∈ o.after.toList, Region.binds .any e = true → S e.on = true

theorem maskOf_bit [Syms] {done : List Nat} : ∀ {es : List Edge} {i : Nat}, Nat.testBit (maskOf done es) i = true → ∃ e ∈ es, Region.binds .any e = true ∧ (e.on = i ∨ Nat.testBit (done.getD e.on 0) i = true)
  | [], i, h => by simp [maskOf] at h
  | e :: es, i, h => by
    rw [maskOf] at h
    have rest : Nat.testBit (maskOf done es) i = true → ∃ e' ∈ e :: es, Region.binds .any e' = true ∧ (e'.on = i ∨ Nat.testBit (done.getD e'.on 0) i = true) := fun h => by
      obtain ⟨e', h1, h2⟩ := maskOf_bit h
      exact ⟨e', by simp [h1], h2⟩
    cases hb : Region.binds .any e with
    | false => rw [hb] at h; exact rest h
    | true =>
      rw [hb] at h
      simp only [cond_true, Nat.testBit_or, Bool.or_eq_true] at h
      rcases h with (h | h) | h
      · refine ⟨e, by simp, hb, .inl ?_⟩
        rw [Nat.testBit_two_pow] at h
        simpa using h
      · exact ⟨e, by simp, hb, .inr h⟩
      · exact rest h

/-- What the masks say of the operations that are done. -/
def MaskOk [Syms] (ops : Array Oper) (S : Nat → Bool) (done : List Nat) : Prop := ∀ (k i : Nat), Nat.testBit (done.getD k 0) i = true → Ready ops S k → S i = true

theorem bfGo_ok [Syms] {ops : Array Oper} {S : Nat → Bool} (hc : Closed ops S) : ∀ (l : List Oper) (done : List Nat), (∀ k, l[k]? = ops[done.length + k]?) → done.length ≤ ops.size → MaskOk ops S done → MaskOk ops S (bfGo done l)
  | [], done, _, _, h => h
  | o :: l, done, hl, hle, h => by
    rw [bfGo]
    have ho : ops[done.length]? = some o := by have := hl 0; simpa using this.symm
    have hlt : done.length < ops.size := (Array.getElem?_eq_some_iff.1 ho).1
    refine bfGo_ok hc l _ (fun k => ?_) (by simp; omega) fun k i hk hr => ?_
    · have := hl (k + 1)
      simp only [List.getElem?_cons_succ] at this
      rw [this]
      simp only [List.length_append, List.length_cons, List.length_nil]
      congr 1
      omega
    · rw [List.getD_eq_getElem?_getD] at hk
      rcases Nat.lt_trichotomy k done.length with hlt' | heq | hgt
      · rw [List.getElem?_append_left hlt'] at hk
        exact h k i (by rw [List.getD_eq_getElem?_getD]; exact hk) hr
      · subst heq
        rw [List.getElem?_append_right (Nat.le_refl _)] at hk
        simp only [Nat.sub_self, List.getElem?_cons_zero, Option.getD_some] at hk
        obtain ⟨e, he, hb, h1⟩ := maskOf_bit hk
        have hs := hr o ho e he hb
        rcases h1 with h1 | h1
        · exact h1 ▸ hs
        · exact h _ _ h1 fun o' ho' => hc _ o' ho' hs
      · rw [List.getElem?_eq_none (by simp; omega)] at hk
        simp at hk

theorem ahead [Syms] {ops : Array Oper} {S : Nat → Bool} (hc : Closed ops S) {j i : Nat} (hb : Nat.testBit ((bfGo [] ops.toList).getD j 0) i = true) (hr : Ready ops S j) : S i = true :=
  bfGo_ok hc ops.toList [] (fun k => by simp) (by simp) (fun k i h => by simp at h) j i hb hr

theorem Closed.ready [Syms] {ops : Array Oper} {S : Nat → Bool} (hc : Closed ops S) {j : Nat} (h : S j = true) : Ready ops S j := fun o ho => hc j o ho h

theorem pairsOk_spec [Syms] {ops : List Oper} {bf : List Nat} {a : Oper} {i : Nat} : ∀ {l : List Oper} {j0 : Nat}, pairsOk ops bf a i l j0 = true → ∀ (k : Nat) (b : Oper), l[k]? = some b → clashes ops a b = true → Nat.testBit (bf.getD (j0 + k) 0) i = true
  | [], _, _, k, b, hb, _ => by simp at hb
  | c :: l, j0, h, k, b, hb, hcl => by
    simp only [pairsOk, Bool.and_eq_true, Bool.or_eq_true, Bool.not_eq_true'] at h
    cases k with
    | zero =>
      simp only [List.getElem?_cons_zero, Option.some.injEq] at hb
      subst hb
      rcases h.1 with h1 | h1
      · rw [hcl] at h1; cases h1
      · exact h1
    | succ k =>
      simp only [List.getElem?_cons_succ] at hb
      have := pairsOk_spec h.2 k b hb hcl
      rwa [show j0 + 1 + k = j0 + (k + 1) by omega] at this

theorem regionGo_spec [Syms] {ops : List Oper} {bf : List Nat} : ∀ {l : List Oper} {i0 : Nat}, regionGo ops bf l i0 = true →
    (∀ (k : Nat) (a : Oper), l[k]? = some a → ∀ e ∈ a.after.toList, Region.binds .any e = true → e.on < i0 + k) ∧
    (∀ (k m : Nat) (a b : Oper), k < m → l[k]? = some a → l[m]? = some b → clashes ops a b = true → Nat.testBit (bf.getD (i0 + m) 0) (i0 + k) = true)
  | [], _, _ => ⟨fun k a h => by simp at h, fun k m a b _ h => by simp at h⟩
  | c :: l, i0, h => by
    simp only [regionGo, Bool.and_eq_true] at h
    obtain ⟨⟨h1, h2⟩, h3⟩ := h
    obtain ⟨r1, r2⟩ := regionGo_spec h3
    refine ⟨fun k a ha e he hb => ?_, fun k m a b hkm ha hb hcl => ?_⟩
    · cases k with
      | zero =>
        simp only [List.getElem?_cons_zero, Option.some.injEq] at ha
        subst ha
        rw [List.all_eq_true] at h1
        have := h1 e he
        simp only [Bool.or_eq_true, Bool.not_eq_true'] at this
        rcases this with h | h
        · rw [hb] at h; cases h
        · have := of_bltT h; omega
      | succ k =>
        simp only [List.getElem?_cons_succ] at ha
        have := r1 k a ha e he hb
        omega
    · cases m with
      | zero => omega
      | succ m =>
        simp only [List.getElem?_cons_succ] at hb
        cases k with
        | zero =>
          simp only [List.getElem?_cons_zero, Option.some.injEq] at ha
          subst ha
          have := pairsOk_spec h2 m b hb hcl
          rwa [show i0 + 1 + m = i0 + (m + 1) by omega] at this
        | succ k =>
          simp only [List.getElem?_cons_succ] at ha
          have := r2 k m a b (by omega) ha hb hcl
          rwa [show i0 + 1 + m = i0 + (m + 1) by omega, show i0 + 1 + k = i0 + (k + 1) by omega] at this

theorem regionOk_spec [Syms] {ops : Array Oper} (h : regionOk ops.toList = true) :
    (∀ (k : Nat) (a : Oper), ops[k]? = some a → ∀ e ∈ a.after.toList, Region.binds .any e = true → e.on < k) ∧
    (∀ (k m : Nat) (a b : Oper), k < m → ops[k]? = some a → ops[m]? = some b → clashes ops.toList a b = true → Nat.testBit ((bfGo [] ops.toList).getD m 0) k = true) := by
  obtain ⟨h1, h2⟩ := regionGo_spec h
  simp only [Nat.zero_add, Array.getElem?_toList] at h1 h2
  exact ⟨h1, h2⟩

theorem readOk_spec [Syms] {bf : List Nat} {r : Rec} {j : Nat} : ∀ {l : List Rec} {i0 : Nat}, readOk P E bf r j l i0 = true → ∀ (k : Nat) (e : Rec), l[k]? = some e → e.k = .eff →
    (i0 + k < j → Nat.testBit (bf.getD j 0) (i0 + k) = true ∨ sameVal (aop P E (evalO r.tmps) r.o e.base) r.v e.base.next = true) ∧
    (¬ i0 + k < j → Nat.testBit (bf.getD (i0 + k) 0) j = true ∨ sameVal (aop P E (evalO r.tmps) r.o e.out) r.v e.out.next = true)
  | [], _, _, k, e, he, _ => by simp at he
  | x :: l, i0, h, k, e, he, hk => by
    simp only [readOk, Bool.and_eq_true] at h
    cases k with
    | zero =>
      simp only [List.getElem?_cons_zero, Option.some.injEq] at he
      subst he
      have h1 := h.1
      rw [hk] at h1
      simp only [Nat.add_zero]
      cases hb : Nat.blt i0 j with
      | true =>
        rw [hb] at h1
        simp only [cond_true, Bool.or_eq_true] at h1
        exact ⟨fun _ => h1, fun hn => absurd (of_bltT hb) hn⟩
      | false =>
        rw [hb] at h1
        simp only [cond_false, Bool.or_eq_true] at h1
        refine ⟨fun hl => ?_, fun _ => h1⟩
        have : Nat.blt i0 j = true := Nat.ble_eq_true_of_le hl
        rw [hb] at this; cases this
    | succ k =>
      simp only [List.getElem?_cons_succ] at he
      have := readOk_spec h.2 k e he hk
      rwa [show i0 + 1 + k = i0 + (k + 1) by omega] at this

theorem readsOk_spec [Syms] {bf : List Nat} {all : List Rec} : ∀ {l : List Rec} {j0 : Nat}, readsOk P E bf all l j0 = true → ∀ (j : Nat) (r : Rec), l[j]? = some r → r.k = .read → r.wanted = true →
    r.out.next = r.σ.next ∧ sameVal (aop P E (evalO r.tmps) r.o r.base) r.v r.base.next = true ∧ ∀ (k : Nat) (e : Rec), all[k]? = some e → e.k = .eff →
      (k < j0 + j → Nat.testBit (bf.getD (j0 + j) 0) k = true ∨ sameVal (aop P E (evalO r.tmps) r.o e.base) r.v e.base.next = true) ∧
      (¬ k < j0 + j → Nat.testBit (bf.getD k 0) (j0 + j) = true ∨ sameVal (aop P E (evalO r.tmps) r.o e.out) r.v e.out.next = true)
  | [], _, _, j, r, hr, _, _ => by simp at hr
  | x :: l, j0, h, j, r, hr, hk, hw => by
    simp only [readsOk, Bool.and_eq_true] at h
    cases j with
    | zero =>
      simp only [List.getElem?_cons_zero, Option.some.injEq] at hr
      subst hr
      have h1 := h.1
      rw [hk] at h1
      simp only [hw, Bool.not_true, Bool.false_or, Bool.and_eq_true] at h1
      obtain ⟨h1, h2, h3⟩ := h1
      refine ⟨of_beqT h1, h2, fun k e he hke => ?_⟩
      have := readOk_spec h3 k e he hke
      simpa using this
    | succ j =>
      simp only [List.getElem?_cons_succ] at hr
      have := readsOk_spec h.2 j r hr hk hw
      rwa [show j0 + 1 + j = j0 + (j + 1) by omega] at this

theorem leftOk_spec [Syms] {bf : List Nat} {e : Nat} : ∀ {l : List Oper} {i0 : Nat}, leftOk bf e l i0 = true → ∀ k, k < l.length → Nat.testBit (bf.getD (i0 + k) 0) e = true
  | [], _, _, k, hk => by simp at hk
  | x :: l, i0, h, k, hk => by
    simp only [leftOk, Bool.and_eq_true] at h
    cases k with
    | zero => simpa using h.1
    | succ k =>
      have := leftOk_spec h.2 k (by simpa using hk)
      rwa [show i0 + 1 + k = i0 + (k + 1) by omega] at this

end Go.Ab
