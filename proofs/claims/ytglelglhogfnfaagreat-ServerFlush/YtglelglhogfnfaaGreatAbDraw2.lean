/- Drawn regions: what holds while the operations go in any order. -/
import Derived.Test.YtglelglhogfnfaaGreatAbDraw
namespace Go.Ab

variable {P : Program} {E : Env}

def ins [Syms] (S : Nat → Bool) (j : Nat) : Nat → Bool := fun i => decide (i = j) || S i

theorem ins_same [Syms] (S : Nat → Bool) (j : Nat) : ins S j j = true := by simp [ins]
theorem ins_other [Syms] (S : Nat → Bool) {i j : Nat} (h : i ≠ j) : ins S j i = S i := by simp [ins, h]
theorem ins_old [Syms] {S : Nat → Bool} {i j : Nat} (h : S i = true) : ins S j i = true := by simp [ins, h]

def Slots [Syms] (rs : List Rec) (init : Tr Value) (S : Nat → Bool) (φ : Phi) (tmps : Array Value) : Prop := ∀ t,
  (∀ (k : Nat) (r : Rec), rs[k]? = some r → S k = true → r.o.dst = some t → (∀ (k' : Nat) (r' : Rec), k < k' → rs[k']? = some r' → S k' = true → r'.o.dst ≠ some t) → Vrel φ r.v (tmps.getD t undef)) ∧
  ((∀ (k : Nat) (r : Rec), rs[k]? = some r → S k = true → r.o.dst ≠ some t) → Vrel φ ((init.get t).getD undef) (tmps.getD t undef))

/-- What holds while the operations of a drawn region go. -/
structure Inv [Syms] (P : Program) (E : Env) (n nn N : Nat) (ops : Array Oper) (rs : List Rec) (c0 : Cu) (φ0 : Phi) (w0 : World) (kind : KR) (cs0 : List Frame)
    (S : Nat → Bool) (φ : Phi) (w : World) (a : Act) (cs : List Frame) (p : Nat) (G : Nat → Option Blk) : Prop where
  closed : Closed ops S
  low : ∀ k, S k = true → k < rs.length
  pl : p ≤ rs.length
  plast : p = 0 ∨ ∃ e r, p = e + 1 ∧ rs[e]? = some r ∧ r.k = .eff ∧ S e = true
  effs : ∀ (k : Nat) (r : Rec), rs[k]? = some r → r.k = .eff → (S k = true ↔ k < p)
  rel : RelF φ G w.heap
  ids : ∀ i, (cur c0 rs p).σ.next ≤ i → (cur c0 rs p).σ.get i = none
  ga : ∀ i, i < (cur c0 rs p).σ.next → G i = (cur c0 rs p).σ.get i
  gb : ∀ (k : Nat) (r : Rec) (b : Blk), rs[k]? = some r → r.k = .fresh → r.wanted = true → S k = true → (cur c0 rs p).σ.next ≤ r.σ.next → r.out.get r.σ.next = some b → G r.σ.next = some b
  gc : ∀ i, (cur c0 rs p).σ.next ≤ i → (∀ (k : Nat) (r : Rec), rs[k]? = some r → r.k = .fresh → r.wanted = true → S k = true → r.σ.next ≠ i) → G i = none ∧ (i < N → φ i = .unborn)
  ds : DsRel φ (cur c0 rs p).ds a.defers
  par : CsRel φ kind (cur c0 rs p).par cs0 cs
  slots : Slots rs c0.τ S φ a.tmps
  size : a.tmps.size = nn
  trans : Trans φ0 c0.σ w0 φ ⟨N, .leaf, []⟩ w

section
variable {n nn N : Nat} {ops : Array Oper} {rs : List Rec} {c0 : Cu} {φ0 : Phi} {w0 : World} {kind : KR} {cs0 : List Frame}
  {S : Nat → Bool} {φ : Phi} {w : World} {a : Act} {cs : List Frame} {p : Nat} {G : Nat → Option Blk}

theorem Closed.ins [Syms] (h : Closed ops S) {j : Nat} (hr : Ready ops S j) : Closed ops (ins S j) := fun k o ho hk e he hb => by
  by_cases hkj : k = j
  · subst hkj; exact ins_old (hr o ho e he hb)
  · rw [ins_other S hkj] at hk; exact ins_old (h k o ho hk e he hb)

theorem Inv.before' [Syms] (D : Drawn P E n nn N ops rs c0) (I : Inv P E n nn N ops rs c0 φ0 w0 kind cs0 S φ w a cs p G) {j : Nat} {o : Oper} (hj : ops[j]? = some o) (hr : Ready ops S j)
    {i : Nat} {e : Rec} (he : rs[i]? = some e) (hl : i < j) (hc : clashes ops.toList e.o o = true) : S i = true :=
  ahead I.closed ((regionOk_spec D.ord).2 i j e.o o hl (D.op he) hj hc) hr

theorem Inv.behind' [Syms] (D : Drawn P E n nn N ops rs c0) (I : Inv P E n nn N ops rs c0 φ0 w0 kind cs0 S φ w a cs p G) {j : Nat} {o : Oper} (hj : ops[j]? = some o) (hS : S j = false)
    {i : Nat} {e : Rec} (he : rs[i]? = some e) (hl : j < i) (hc : clashes ops.toList o e.o = true) : S i = false := by
  cases hi : S i with
  | false => rfl
  | true =>
    have := ahead I.closed ((regionOk_spec D.ord).2 j i o e.o hl hj (D.op he) hc) (I.closed.ready hi)
    rw [hS] at this; cases this

theorem Inv.before [Syms] (D : Drawn P E n nn N ops rs c0) (I : Inv P E n nn N ops rs c0 φ0 w0 kind cs0 S φ w a cs p G) {j : Nat} {r : Rec} (hj : rs[j]? = some r) (hr : Ready ops S j)
    {i : Nat} {e : Rec} (he : rs[i]? = some e) (hl : i < j) (hc : clashes ops.toList e.o r.o = true) : S i = true := I.before' D (D.op hj) hr he hl hc

theorem Inv.behind [Syms] (D : Drawn P E n nn N ops rs c0) (I : Inv P E n nn N ops rs c0 φ0 w0 kind cs0 S φ w a cs p G) {j : Nat} {r : Rec} (hj : rs[j]? = some r) (hS : S j = false)
    {i : Nat} {e : Rec} (he : rs[i]? = some e) (hl : j < i) (hc : clashes ops.toList r.o e.o = true) : S i = false := I.behind' D (D.op hj) hS he hl hc

theorem clash_eff [Syms] {ops : List Oper} {a b : Oper} (ha : cls a.op = .eff ∨ cls a.op = .fresh) (hb : cls b.op = .eff) : clashes ops a b = true := by
  unfold clashes
  rcases ha with ha | ha <;> simp [ha, hb]

theorem clash_read [Syms] {ops : List Oper} {a b : Oper} {t : Nat} (ha : a.dst = some t) (hb : t ∈ readsOf ops b) : clashes ops a b = true := by
  unfold clashes
  simp [ha, hb]
theorem clash_read' [Syms] {ops : List Oper} {a b : Oper} {t : Nat} (hb : b.dst = some t) (ha : t ∈ readsOf ops a) : clashes ops a b = true := by
  unfold clashes
  simp [hb, ha]
theorem clash_dst [Syms] {ops : List Oper} {a b : Oper} {t : Nat} (ha : a.dst = some t) (hb : b.dst = some t) : clashes ops a b = true := by
  unfold clashes
  simp [ha, hb]

theorem Inv.slot [Syms] (D : Drawn P E n nn N ops rs c0) (I : Inv P E n nn N ops rs c0 φ0 w0 kind cs0 S φ w a cs p G) {j : Nat} {o : Oper} (hlt : j ≤ rs.length) (hj : ops[j]? = some o) (hS : S j = false) (hr : Ready ops S j)
    {t : Nat} (ht : t ∈ readsOf ops.toList o) : Vrel φ (((cur c0 rs j).τ.get t).getD undef) (a.tmps.getD t undef) := by
  obtain ⟨s1, s2⟩ := I.slots t
  have behind : ∀ (k : Nat) (r' : Rec), rs[k]? = some r' → S k = true → r'.o.dst = some t → k < j := fun k r' hk hSk hd => by
    rcases Nat.lt_trichotomy k j with h | h | h
    · exact h
    · subst h; rw [hS] at hSk; cases hSk
    · have := I.behind' D hj hS hk h (clash_read' hd ht); rw [hSk] at this; cases this
  rcases D.slot t (j := j) hlt with ⟨k, r', k1, k2, k3, k4, k5⟩ | ⟨k1, k2⟩
  · rw [k5]
    refine s1 k r' k2 (I.before' D hj hr k2 k1 (clash_read k3 ht)) k3 fun k' r'' h1 h2 h3 h4 => ?_
    exact k4 k' r'' h1 (behind k' r'' h2 h3 h4) h2 h4
  · rw [k2]
    exact s2 fun k r' h1 h2 h3 => k1 k r' (behind k r' h1 h2 h3) h1 h3

theorem tmpsOf_mem [Syms] : ∀ {l : List Operand} {t : Nat}, Operand.tmp t ∈ l → t ∈ tmpsOf l
  | [], _, h => by simp at h
  | x :: l, t, h => by
    cases x with
    | tmp u =>
      simp only [tmpsOf, List.mem_cons, Operand.tmp.injEq] at h ⊢
      exact h.imp id tmpsOf_mem
    | const v => simp only [tmpsOf]; exact tmpsOf_mem (by simpa using h)
    | global v => simp only [tmpsOf]; exact tmpsOf_mem (by simpa using h)
    | func v => simp only [tmpsOf]; exact tmpsOf_mem (by simpa using h)

open Classical in
/-- The operands of an operation, the others unknown. -/
noncomputable def only [Syms] (o : Oper) (ρ : Operand → Value) : Operand → Value := fun x => if x ∈ o.op.operands then ρ x else poison

theorem only_at [Syms] {o : Oper} {ρ : Operand → Value} (x : Operand) (h : x ∈ o.op.operands) : ρ x = only o ρ x := by simp [only, h]

theorem Inv.operands' [Syms] (D : Drawn P E n nn N ops rs c0) (I : Inv P E n nn N ops rs c0 φ0 w0 kind cs0 S φ w a cs p G) {j : Nat} {o : Oper} (hlt : j ≤ rs.length) (hj : ops[j]? = some o) (hS : S j = false) (hr : Ready ops S j)
    (x : Operand) : Vrel φ (only o (evalO (cur c0 rs j).τ) x) (a.eval x) := by
  unfold only
  split
  · rename_i hx
    cases x with
    | tmp t =>
      refine I.slot D hlt hj hS hr ?_
      unfold readsOf
      exact List.mem_append_right _ (tmpsOf_mem (Array.mem_toList_iff.2 hx))
    | const v => exact evalO_rel (τ := .leaf) (a := { tmps := #[], defers := [] }) (fun t => by simp only [Tr.get_leaf]; exact undef_rel φ) (.const v)
    | global g => exact evalO_rel (τ := .leaf) (a := { tmps := #[], defers := [] }) (fun t => by simp only [Tr.get_leaf]; exact undef_rel φ) (.global g)
    | func f => exact evalO_rel (τ := .leaf) (a := { tmps := #[], defers := [] }) (fun t => by simp only [Tr.get_leaf]; exact undef_rel φ) (.func f)
  · simp [poison, Vrel]

theorem Inv.operands [Syms] (D : Drawn P E n nn N ops rs c0) (I : Inv P E n nn N ops rs c0 φ0 w0 kind cs0 S φ w a cs p G) {j : Nat} {r : Rec} (hj : rs[j]? = some r) (hS : S j = false) (hr : Ready ops S j)
    (x : Operand) : Vrel φ (only r.o (evalO r.tmps) x) (a.eval x) := by
  have hτ : r.tmps = (cur c0 rs j).τ := by rw [← D.tr.at' j r hj]; rfl
  rw [hτ]
  exact I.operands' D (Nat.le_of_lt (lt_of_get hj)) (D.op hj) hS hr x

theorem Inv.wanted' [Syms] (D : Drawn P E n nn N ops rs c0) (I : Inv P E n nn N ops rs c0 φ0 w0 kind cs0 S φ w a cs p G) {j : Nat} {o : Oper} (hlt : j ≤ rs.length) (hj : ops[j]? = some o) (hS : S j = false) (hr : Ready ops S j) {b : Bool}
    (hw : aWanted ops (cur c0 rs j).τ o = some b) : Region.wanted o (yielded ops a.tmps) = b := by
  refine wanted_rel (φ := φ) (fun d k w hg hd => ?_) hw
  refine I.slot D hlt hj hS hr ?_
  have hd' := hd
  rw [Array.getElem?_toList] at hd'
  unfold readsOf
  simp [hg, hd']

theorem Inv.wanted [Syms] (D : Drawn P E n nn N ops rs c0) (I : Inv P E n nn N ops rs c0 φ0 w0 kind cs0 S φ w a cs p G) {j : Nat} {r : Rec} (hj : rs[j]? = some r) (hS : S j = false) (hr : Ready ops S j) :
    Region.wanted r.o (yielded ops a.tmps) = r.wanted := by
  have hτ : r.tmps = (cur c0 rs j).τ := by rw [← D.tr.at' j r hj]; rfl
  exact I.wanted' D (Nat.le_of_lt (lt_of_get hj)) (D.op hj) hS hr (by rw [← hτ]; exact (D.tr.ok j r hj).want)

theorem Inv.put [Syms] (D : Drawn P E n nn N ops rs c0) (I : Inv P E n nn N ops rs c0 φ0 w0 kind cs0 S φ w a cs p G) {j : Nat} {r : Rec} (hj : rs[j]? = some r) (hS : S j = false)
    {φ' : Phi} (hle : PLe φ φ') {v' : Value} (hv : Vrel φ' r.v v') (dd : List Deferred) :
    Slots rs c0.τ (ins S j) φ' (({ a with defers := dd } : Act).put r.o.dst v').tmps ∧ (({ a with defers := dd } : Act).put r.o.dst v').tmps.size = nn ∧ (({ a with defers := dd } : Act).put r.o.dst v').defers = dd := by
  have other : ∀ t, r.o.dst ≠ some t → (∀ x : Array Value, x.getD t undef = a.tmps.getD t undef →
      (∀ (k : Nat) (r' : Rec), rs[k]? = some r' → ins S j k = true → r'.o.dst = some t → (∀ (k' : Nat) (r'' : Rec), k < k' → rs[k']? = some r'' → ins S j k' = true → r''.o.dst ≠ some t) → Vrel φ' r'.v (x.getD t undef)) ∧
      ((∀ (k : Nat) (r' : Rec), rs[k]? = some r' → ins S j k = true → r'.o.dst ≠ some t) → Vrel φ' ((c0.τ.get t).getD undef) (x.getD t undef))) := by
    intro t hd x hx
    obtain ⟨s1, s2⟩ := I.slots t
    rw [hx]
    refine ⟨fun k r' h1 h2 h3 h4 => ?_, fun h => (s2 fun k r' h1 h2 => h k r' h1 (ins_old h2)).mono hle⟩
    have hkj : k ≠ j := by intro e; subst e; rw [hj] at h1; cases h1; exact hd h3
    rw [ins_other S hkj] at h2
    exact (s1 k r' h1 h2 h3 fun k' r'' g1 g2 g3 => h4 k' r'' g1 g2 (ins_old g3)).mono hle
  cases hdst : r.o.dst with
  | none => exact ⟨fun t => other t (by rw [hdst]; simp) _ rfl, I.size, rfl⟩
  | some d =>
    have hdn := (D.tr.ok j r hj).dst d hdst
    refine ⟨fun t => ?_, by simp [Act.put, I.size], rfl⟩
    have hsz : d < a.tmps.size := by rw [I.size]; exact hdn
    by_cases ht : t = d
    · subst ht
      have hg : (({ a with defers := dd } : Act).put (some t) v').tmps.getD t undef = v' := by
        rw [Array.getD_eq_getD_getElem?]
        simp [Act.put, hsz]
      rw [hg]
      refine ⟨fun k r' h1 h2 h3 h4 => ?_, fun h => absurd hdst (h j r hj (ins_same S j))⟩
      rcases Nat.lt_trichotomy k j with hk | hk | hk
      · exact absurd hdst (h4 j r hk hj (ins_same S j))
      · subst hk; rw [hj] at h1; cases h1; exact hv
      · rw [ins_other S (by omega)] at h2
        have := I.behind D hj hS h1 hk (clash_dst hdst h3)
        rw [h2] at this; cases this
    · refine other t (by rw [hdst]; simp; exact fun e => ht e.symm) _ ?_
      rw [Array.getD_eq_getD_getElem?, Array.getD_eq_getD_getElem?]
      simp only [Act.put]
      rw [Array.getElem?_setIfInBounds_ne fun e => ht e.symm]

/-- One operation that is wanted: run at a store that fits. -/
theorem Inv.core [Syms] (D : Drawn P E n nn N ops rs c0) (I : Inv P E n nn N ops rs c0 φ0 w0 kind cs0 S φ w a cs p G) {j : Nat} {r : Rec} (hj : rs[j]? = some r) (hS : S j = false) (hr : Ready ops S j)
    (hw : r.wanted = true) {m : Nat} (hSS : SS P E m) {σ2 σ' : St} {ds1 : List Deferred} {par1 : Option FrameMode}
    (hs : stepOp P E m (evalO r.tmps) r.o (cur c0 rs p).ds (cur c0 rs p).par σ2 = .val r.v ds1 par1 σ')
    (hσ : ∀ i, σ2.get i = if i < σ2.next then G i else none) (h0 : c0.σ.next ≤ σ2.next) (hN : σ'.next ≤ N) (hf : Fresh φ σ2.next σ'.next)
    {b : Frame} (hb : b.kr = kind) (rest : List Nat) (k : List Item) :
    ∃ φ' w' a' cs', Steps P (lone (b.atR a (.inRegion ops (j :: rest) :: k)) cs w) (lone (b.atR a' (.inRegion ops rest :: k)) cs' w') ∧
      RelF φ' (fun i => if i < σ'.next then σ'.get i else G i) w'.heap ∧ Rel φ' σ' w'.heap ∧ Trans φ0 c0.σ w0 φ' ⟨N, .leaf, []⟩ w' ∧ Trans φ σ2 w φ' σ' w' ∧
      Slots rs c0.τ (ins S j) φ' a'.tmps ∧ a'.tmps.size = nn ∧ DsRel φ' ds1 a'.defers ∧ CsRel φ' kind par1 cs0 cs' := by
  have hw' := I.wanted D hj hS hr
  rw [hw] at hw'
  rw [stepOp_congr (ρ' := only r.o (evalO r.tmps)) fun x hx => only_at x hx] at hs
  subst hb
  obtain ⟨φ', w', ds'', cs', v', s, q1, q2, q3, q4, q5⟩ := (hSS _ _ _ _ _).1 _ _ _ _ hs φ w a ops j rest k b cs0 cs (D.op hj) hw' (I.rel.rel hσ) (I.operands D hj hS hr) I.ds I.par hf
  obtain ⟨t1, t2, t3⟩ := I.put D hj hS q2.le q3 ds''
  exact ⟨φ', w', _, cs', s, I.rel.after q1 q2, q1, I.trans.widen q2 h0 hN, q2, t1, t2, by rw [t3]; exact q4, q5⟩

theorem Inv.base [Syms] (D : Drawn P E n nn N ops rs c0) (I : Inv P E n nn N ops rs c0 φ0 w0 kind cs0 S φ w a cs p G) : (cur c0 rs p).base = (cur c0 rs p).σ := by
  rcases I.plast with rfl | ⟨e, r, rfl, h1, h2, _⟩
  · cases rs <;> exact D.base0
  · rw [cur_succ h1]; simp [Rec.aft, h2]

theorem Inv.zero [Syms] (D : Drawn P E n nn N ops rs c0) (I : Inv P E n nn N ops rs c0 φ0 w0 kind cs0 S φ w a cs p G) : c0.σ.next ≤ (cur c0 rs p).σ.next := by
  have := D.mono (i := 0) (j := p) (Nat.zero_le _) I.pl
  cases rs <;> exact this

/-- An operation that makes a block, or one whose place is fixed, isn't passed by one whose place is fixed. -/
theorem Inv.p_le [Syms] (D : Drawn P E n nn N ops rs c0) (I : Inv P E n nn N ops rs c0 φ0 w0 kind cs0 S φ w a cs p G) {j : Nat} {r : Rec} (hj : rs[j]? = some r) (hS : S j = false) (hk : r.k = .eff ∨ r.k = .fresh) : p ≤ j := by
  rcases I.plast with h | ⟨e, re, h, h1, h2, h3⟩
  · omega
  · rcases Nat.lt_trichotomy e j with hl | hl | hl
    · omega
    · subst hl; rw [hS] at h3; cases h3
    · have := I.behind D hj hS h1 hl (clash_eff (by rw [D.kls hj]; exact hk) (by rw [D.kls h1]; exact h2))
      rw [h3] at this; cases this

theorem first_eff [Syms] (rs : List Rec) (p : Nat) : ∀ (j : Nat), NoEff rs p j ∨ ∃ e r, p ≤ e ∧ e < j ∧ rs[e]? = some r ∧ r.k = .eff ∧ NoEff rs p e
  | 0 => .inl fun k r _ h => by omega
  | j + 1 => by
    rcases first_eff rs p j with h | ⟨e, r, h1, h2, h3⟩
    · cases hr : rs[j]? with
      | none => exact .inl fun k r h1 h2 h3 => if hk : k = j then by subst hk; rw [hr] at h3; cases h3 else h k r h1 (by omega) h3
      | some r =>
        by_cases hp : p ≤ j ∧ r.k = .eff
        · exact .inr ⟨j, r, hp.1, by omega, hr, hp.2, h⟩
        · refine .inl fun k r' h1 h2 h3 => ?_
          by_cases hk : k = j
          · subst hk; rw [hr] at h3; cases h3; exact fun e => hp ⟨h1, e⟩
          · exact h k r' h1 (by omega) h3
    · exact .inr ⟨e, r, h1, by omega, h3⟩

/-- A reading operation reads at the store of the last one whose place is fixed what it reads in the order of the text. -/
theorem Inv.read [Syms] (D : Drawn P E n nn N ops rs c0) (I : Inv P E n nn N ops rs c0 φ0 w0 kind cs0 S φ w a cs p G) {j : Nat} {r : Rec} (hj : rs[j]? = some r) (hS : S j = false) (hr : Ready ops S j)
    (hk : r.k = .read) (hw : r.wanted = true) : aop P E (evalO r.tmps) r.o (cur c0 rs p).σ = .val r.v (cur c0 rs p).σ := by
  have hlt := lt_of_get hj
  obtain ⟨_, h1, h2⟩ := readsOk_spec D.reads j r hj hk hw
  simp only [Nat.zero_add] at h2
  have fin : ∀ σ : St, σ = (cur c0 rs p).σ → sameVal (aop P E (evalO r.tmps) r.o σ) r.v σ.next = true → aop P E (evalO r.tmps) r.o (cur c0 rs p).σ = .val r.v (cur c0 rs p).σ := fun σ he h => by
    subst he
    obtain ⟨σ', g1, g2⟩ := sameVal_sound h
    have := aop_read (by rw [D.kls hj, hk]) g1 g2
    rw [g1, this]
  have at_base : ∀ (e : Nat) (re : Rec), rs[e]? = some re → p ≤ e → NoEff rs p e → re.base = (cur c0 rs p).σ := fun e re he hpe hn => by
    have : re.base = (cur c0 rs e).base := by rw [← D.tr.at' e re he]; rfl
    rw [this, (D.betw hpe (Nat.le_of_lt (lt_of_get he)) hn).base, I.base D]
  by_cases hpj : p ≤ j
  · rcases first_eff rs p j with hn | ⟨e, re, e1, e2, e3, e4, e5⟩
    · exact fin _ (at_base j r hj hpj hn) h1
    · have hSe : S e = false := by
        cases h : S e with
        | false => rfl
        | true => have := (I.effs e re e3 e4).1 h; omega
      rcases (h2 e re e3 e4).1 e2 with h | h
      · have := ahead I.closed h hr
        rw [hSe] at this; cases this
      · exact fin _ (at_base e re e3 e1 e5) h
  · rcases I.plast with h | ⟨e, re, h, e1, e2, e3⟩
    · omega
    · have hej : ¬ e < j := by omega
      rcases (h2 e re e1 e2).2 hej with g | g
      · have := ahead I.closed g (I.closed.ready e3)
        rw [hS] at this; cases this
      · refine fin _ ?_ g
        rw [D.out e1, h]

end

end Go.Ab
