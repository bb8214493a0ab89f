/- Tables of what is known at symbols; they are right if each row is. -/
import Derived.Test.YtglelglhogfnfaaGreatAbEnv
namespace Go.Ab

/-- Rows: of two operands and a result. -/
structure SymTab where
  bins : List (BinOp × Value × Value × Value) := []
  uns : List (UnOp × Value × Value) := []
  convs : List (Nat × Nat × Value × Value) := []
  slices : List (Nat × Value × Option Value × Option Value × Value) := []
  lens : List (Nat × Value × Value) := []
  mins : List (Value × Value × Value) := []
  maxs : List (Value × Value × Value) := []
  idxs : List (Nat × Value × Value × Value) := []

def vbeqO : Option Value → Option Value → Bool
  | none, none => true
  | some a, some b => vbeq a b
  | _, _ => false

def find2 (x y : Value) : List (Value × Value × Value) → Option Value
  | [] => none
  | (a, b, v) :: l => bif vbeq a x && vbeq b y then some v else find2 x y l
def findBin (op : BinOp) (x y : Value) : List (BinOp × Value × Value × Value) → Option Value
  | [] => none
  | (o, a, b, v) :: l => bif decide (o = op) && (vbeq a x && vbeq b y) then some v else findBin op x y l
def findUn (op : UnOp) (x : Value) : List (UnOp × Value × Value) → Option Value
  | [] => none
  | (o, a, v) :: l => bif decide (o = op) && vbeq a x then some v else findUn op x l
def findConv (s d : Nat) (x : Value) : List (Nat × Nat × Value × Value) → Option Value
  | [] => none
  | (s', d', a, v) :: l => bif Nat.beq s' s && (Nat.beq d' d && vbeq a x) then some v else findConv s d x l
def findSlice (t : Nat) (x : Value) (lo hi : Option Value) : List (Nat × Value × Option Value × Option Value × Value) → Option Value
  | [] => none
  | (t', a, l', h', v) :: l => bif Nat.beq t' t && (vbeq a x && (vbeqO l' lo && vbeqO h' hi)) then some v else findSlice t x lo hi l
def findLen (t : Nat) (x : Value) : List (Nat × Value × Value) → Option Value
  | [] => none
  | (t', a, v) :: l => bif Nat.beq t' t && vbeq a x then some v else findLen t x l
def findIdx (t : Nat) (x i : Value) : List (Nat × Value × Value × Value) → Option Value
  | [] => none
  | (t', a, b, v) :: l => bif Nat.beq t' t && (vbeq a x && vbeq b i) then some v else findIdx t x i l

/-- What is known. -/
def symOf (T : SymTab) (op : Op) (vs : List Value) : Option Value :=
  match op with
  | .binOp o _ _ _ _ => match vs with
    | [x, y] => findBin o x y T.bins
    | _ => none
  | .unOp o _ _ => match vs with
    | [x] => findUn o x T.uns
    | _ => none
  | .convert s d _ => match vs with
    | [x] => findConv s d x T.convs
    | _ => none
  | .slice t _ (some _) none none => match vs with
    | [x, l] => findSlice t x (some l) none T.slices
    | _ => none
  | .slice t _ none (some _) none => match vs with
    | [x, h] => findSlice t x none (some h) T.slices
    | _ => none
  | .slice t _ (some _) (some _) none => match vs with
    | [x, l, h] => findSlice t x (some l) (some h) T.slices
    | _ => none
  | .index t _ _ => match vs with
    | [x, i] => findIdx t x i T.idxs
    | _ => none
  | .call { callee := .builtin .len, argTypes, .. } => match vs, argTypes[0]? with
    | [x], some t => findLen t x T.lens
    | _, _ => none
  | .call { callee := .builtin .min, .. } => match vs with
    | [x, y] => find2 x y T.mins
    | _ => none
  | .call { callee := .builtin .max, .. } => match vs with
    | [x, y] => find2 x y T.maxs
    | _ => none
  | _ => none

section
variable {P : Program} {E : Env}

def binD (op : BinOp) : Value → Value → Option Value
  | .int k a, .int k' b => intBin op k a k' b
  | .string a, .string b => strBin op a.data.toList b.data.toList
  | _, _ => none

def convD (E : Env) (s d : Nat) (x : Value) : Option Value :=
  match E.under s, E.under d, x with
  | some _, some (.int k), .int _ n => some (.int k (k.wrap n))
  | some _, some .string, .string s => some (.string s)
  | _, _, _ => none

def minD : Value → Value → Option Value
  | .int k a, .int _ b => some (.int k (if b < a then b else a))
  | _, _ => none
def maxD : Value → Value → Option Value
  | .int k a, .int _ b => some (.int k (if a < b then b else a))
  | _, _ => none

def St.none : St := ⟨0, .leaf, []⟩

/-- Each row is right. -/
structure SymTab.Ok [Syms] (P : Program) (E : Env) (T : SymTab) : Prop where
  bins : ∀ r ∈ T.bins, keyed r.2.1 = true ∧ keyed r.2.2.1 = true ∧ keyed r.2.2.2 = true ∧ binD r.1 (den r.2.1) (den r.2.2.1) = some (den r.2.2.2)
  uns : ∀ r ∈ T.uns, keyed r.2.1 = true ∧ keyed r.2.2 = true ∧ aUn r.1 (den r.2.1) = some (den r.2.2)
  convs : ∀ r ∈ T.convs, keyed r.2.2.1 = true ∧ keyed r.2.2.2 = true ∧ convD E r.1 r.2.1 (den r.2.2.1) = some (den r.2.2.2)
  slices : ∀ r ∈ T.slices, keyed r.2.1 = true ∧ (∀ l, r.2.2.1 = some l → keyed l = true) ∧ (∀ h, r.2.2.2.1 = some h → keyed h = true) ∧ keyed r.2.2.2.2 = true ∧ closed (den r.2.2.2.2) = true ∧
    aSlice E St.none r.1 (den r.2.1) (r.2.2.1.map den) (r.2.2.2.1.map den) none = some (den r.2.2.2.2)
  lens : ∀ r ∈ T.lens, keyed r.2.1 = true ∧ keyed r.2.2 = true ∧ aLen E St.none #[r.1] (den r.2.1) = some (den r.2.2)
  mins : ∀ r ∈ T.mins, keyed r.1 = true ∧ keyed r.2.1 = true ∧ keyed r.2.2 = true ∧ minD (den r.1) (den r.2.1) = some (den r.2.2)
  maxs : ∀ r ∈ T.maxs, keyed r.1 = true ∧ keyed r.2.1 = true ∧ keyed r.2.2 = true ∧ maxD (den r.1) (den r.2.1) = some (den r.2.2)
  idxs : ∀ r ∈ T.idxs, keyed r.2.1 = true ∧ keyed r.2.2.1 = true ∧ keyed r.2.2.2 = true ∧ closed (den r.2.2.2) = true ∧ aIndex E r.1 (den r.2.1) (den r.2.2.1) = some (den r.2.2.2)

theorem find2_spec [Syms] {x y v : Value} : ∀ {l : List (Value × Value × Value)}, find2 x y l = some v → (x, y, v) ∈ l
  | [], h => by cases h
  | (a, b, u) :: l, h => by
    simp only [find2] at h
    cases hb : (vbeq a x && vbeq b y) with
    | true =>
      rw [hb] at h; simp only [cond_true, Option.some.injEq] at h; subst h
      simp only [Bool.and_eq_true] at hb
      rw [vbeq_sound _ _ hb.1, vbeq_sound _ _ hb.2]; exact List.mem_cons_self
    | false => rw [hb] at h; exact List.mem_cons_of_mem _ (find2_spec h)
theorem findBin_spec [Syms] {op : BinOp} {x y v : Value} : ∀ {l : List (BinOp × Value × Value × Value)}, findBin op x y l = some v → (op, x, y, v) ∈ l
  | [], h => by cases h
  | (o, a, b, u) :: l, h => by
    simp only [findBin] at h
    cases hb : (decide (o = op) && (vbeq a x && vbeq b y)) with
    | true =>
      rw [hb] at h; simp only [cond_true, Option.some.injEq] at h; subst h
      simp only [Bool.and_eq_true, decide_eq_true_eq] at hb
      rw [hb.1, vbeq_sound _ _ hb.2.1, vbeq_sound _ _ hb.2.2]; exact List.mem_cons_self
    | false => rw [hb] at h; exact List.mem_cons_of_mem _ (findBin_spec h)
theorem findUn_spec [Syms] {op : UnOp} {x v : Value} : ∀ {l : List (UnOp × Value × Value)}, findUn op x l = some v → (op, x, v) ∈ l
  | [], h => by cases h
  | (o, a, u) :: l, h => by
    simp only [findUn] at h
    cases hb : (decide (o = op) && vbeq a x) with
    | true =>
      rw [hb] at h; simp only [cond_true, Option.some.injEq] at h; subst h
      simp only [Bool.and_eq_true, decide_eq_true_eq] at hb
      rw [hb.1, vbeq_sound _ _ hb.2]; exact List.mem_cons_self
    | false => rw [hb] at h; exact List.mem_cons_of_mem _ (findUn_spec h)
theorem findConv_spec [Syms] {s d : Nat} {x v : Value} : ∀ {l : List (Nat × Nat × Value × Value)}, findConv s d x l = some v → (s, d, x, v) ∈ l
  | [], h => by cases h
  | (s', d', a, u) :: l, h => by
    simp only [findConv] at h
    cases hb : (Nat.beq s' s && (Nat.beq d' d && vbeq a x)) with
    | true =>
      rw [hb] at h; simp only [cond_true, Option.some.injEq] at h; subst h
      simp only [Bool.and_eq_true] at hb
      rw [of_beqT hb.1, of_beqT hb.2.1, vbeq_sound _ _ hb.2.2]; exact List.mem_cons_self
    | false => rw [hb] at h; exact List.mem_cons_of_mem _ (findConv_spec h)
theorem vbeqO_sound [Syms] {a b : Option Value} (h : vbeqO a b = true) : a = b := by
  cases a <;> cases b <;> simp [vbeqO] at h
  · rfl
  · rw [vbeq_sound _ _ h]
theorem findSlice_spec [Syms] {t : Nat} {x v : Value} {lo hi : Option Value} : ∀ {l : List (Nat × Value × Option Value × Option Value × Value)}, findSlice t x lo hi l = some v → (t, x, lo, hi, v) ∈ l
  | [], h => by cases h
  | (t', a, l', h', u) :: l, h => by
    simp only [findSlice] at h
    cases hb : (Nat.beq t' t && (vbeq a x && (vbeqO l' lo && vbeqO h' hi))) with
    | true =>
      rw [hb] at h; simp only [cond_true, Option.some.injEq] at h; subst h
      simp only [Bool.and_eq_true] at hb
      rw [of_beqT hb.1, vbeq_sound _ _ hb.2.1, vbeqO_sound hb.2.2.1, vbeqO_sound hb.2.2.2]; exact List.mem_cons_self
    | false => rw [hb] at h; exact List.mem_cons_of_mem _ (findSlice_spec h)
theorem findLen_spec [Syms] {t : Nat} {x v : Value} : ∀ {l : List (Nat × Value × Value)}, findLen t x l = some v → (t, x, v) ∈ l
  | [], h => by cases h
  | (t', a, u) :: l, h => by
    simp only [findLen] at h
    cases hb : (Nat.beq t' t && vbeq a x) with
    | true =>
      rw [hb] at h; simp only [cond_true, Option.some.injEq] at h; subst h
      simp only [Bool.and_eq_true] at hb
      rw [of_beqT hb.1, vbeq_sound _ _ hb.2]; exact List.mem_cons_self
    | false => rw [hb] at h; exact List.mem_cons_of_mem _ (findLen_spec h)
theorem findIdx_spec [Syms] {t : Nat} {x i v : Value} : ∀ {l : List (Nat × Value × Value × Value)}, findIdx t x i l = some v → (t, x, i, v) ∈ l
  | [], h => by cases h
  | (t', a, b, u) :: l, h => by
    simp only [findIdx] at h
    cases hb : (Nat.beq t' t && (vbeq a x && vbeq b i)) with
    | true =>
      rw [hb] at h; simp only [cond_true, Option.some.injEq] at h; subst h
      simp only [Bool.and_eq_true] at hb
      rw [of_beqT hb.1, vbeq_sound _ _ hb.2.1, vbeq_sound _ _ hb.2.2]; exact List.mem_cons_self
    | false => rw [hb] at h; exact List.mem_cons_of_mem _ (findIdx_spec h)

theorem binD_run [Syms] {op : BinOp} {x y v : Value} (h : binD op x y = some v) (t : TypeId) (xo yo : Operand) (w : World) : (do eqGuard op t xo yo x y; binOp op t x y).run P w = .ok v w := by
  unfold binD at h
  split at h
  · rw [Sem.run_bind, run_eqGuard_plain op t xo yo _ _ w (by intro cs e; cases e) (.inl (by intro e; cases e))]
    exact (intBin_sound (P := P) h t w).1
  · rw [Sem.run_bind, run_eqGuard_plain op t xo yo _ _ w (by intro cs e; cases e) (.inl (by intro e; cases e))]
    exact (strBin_sound (P := P) h t w).1
  · cases h

theorem run_v [Syms] {s : Sem Value} {v : Value} {w : World} (h : s.run P w = .ok v w) : ((do Pure.pure (Next.value (← s)) : Sem Next).run P w) = .ok (.value v) w := by simp [h]

theorem aUn_run [Syms] {op : UnOp} {x v : Value} (h : aUn op x = some v) (w : World) : (Op.unary op x).run P w = .ok v w := by
  unfold aUn at h
  split at h
  · cases h; rfl
  · cases h; rfl
  · cases h; rfl
  · cases h

theorem convD_run [Syms] (hE : EnvOk P E) {s d : Nat} {x v : Value} (h : convD E s d x = some v) (w : World) : (Go.convert s d x).run P w = .ok v w := by
  unfold convD at h
  split at h
  · rename_i hu1 hu2
    simp only [Option.some.injEq] at h; subst h
    simp only [Go.convert, Sem.run_bind, run_under hE hu1, run_under hE hu2, Result.andThen_ok, Conv.intToInt, Sem.run_pure]
  · rename_i hu1 hu2
    simp only [Option.some.injEq] at h; subst h
    simp only [Go.convert, Sem.run_bind, run_under hE hu1, run_under hE hu2, Result.andThen_ok, Sem.run_pure]
  · cases h

theorem minD_run [Syms] {x y v : Value} (h : minD x y = some v) (ts : Array TypeId) (t : TypeId) (w : World) : (Builtin.min_ ts t #[x, y]).run P w = .ok v w := by
  unfold minD at h
  split at h
  · simp only [Option.some.injEq] at h; subst h; simp [Builtin.min_, Builtin.min2]
  · cases h
theorem maxD_run [Syms] {x y v : Value} (h : maxD x y = some v) (ts : Array TypeId) (t : TypeId) (w : World) : (Builtin.max_ ts t #[x, y]).run P w = .ok v w := by
  unfold maxD at h
  split at h
  · simp only [Option.some.injEq] at h; subst h; simp [Builtin.max_, Builtin.max2]
  · cases h

theorem keyed_den [Syms] {v : Value} (h : keyed v = true) : closed (den v) = true := by
  unfold keyed at h
  rcases Bool.or_eq_true _ _ ▸ h with h | h
  · rw [den_closed h]; exact h
  · obtain ⟨i, rfl⟩ := isSym_spec h
    exact (Syms.cell i).2.2

theorem symOf_ok [Syms] (hE : EnvOk P E) {T : SymTab} (hT : T.Ok P E) : ∀ op vs v, symOf T op vs = some v → ∀ (φ : Phi) (ρ ρ' : Operand → Value) (o : Oper) (w : World), o.op = op → (∀ x, Vrel φ (ρ x) (ρ' x)) → op.operands.toList.map ρ = vs →
    ∃ v', (execOp ρ' o).run P w = .ok (.value v') w ∧ Vrel φ v v' := by
  intro op vs v h φ ρ ρ' o w ho hρ hvs
  unfold execOp
  rw [ho]
  have hrel : Rel (fun _ => .unborn) St.none w.heap := Rel.empty w.heap
  unfold symOf at h
  split at h
  · rename_i bo t xo yo yt
    split at h
    · rename_i x y
      simp only [Op.operands, List.map_cons, List.map_nil, List.cons.injEq, and_true] at hvs
      obtain ⟨hx, hy⟩ := hvs
      obtain ⟨k1, k2, k3, hd⟩ := hT.bins _ (findBin_spec h)
      have ex : ρ' xo = den x := Vrel.keyed_eq k1 (hx ▸ hρ xo)
      have ey : ρ' yo = den y := Vrel.keyed_eq k2 (hy ▸ hρ yo)
      refine ⟨den v, ?_, Vrel.keyed_refl φ k3⟩
      simp only [ex, ey]
      exact run_v (binD_run (P := P) hd t xo yo w)
    · cases h
  · rename_i uo t xo
    split at h
    · rename_i x
      simp only [Op.operands, List.map_cons, List.map_nil, List.cons.injEq, and_true] at hvs
      obtain ⟨k1, k3, hd⟩ := hT.uns _ (findUn_spec h)
      have ex : ρ' xo = den x := Vrel.keyed_eq k1 (hvs ▸ hρ xo)
      refine ⟨den v, ?_, Vrel.keyed_refl φ k3⟩
      simp only [ex]
      exact run_v (aUn_run hd w)
    · cases h
  · rename_i s d xo
    split at h
    · rename_i x
      simp only [Op.operands, List.map_cons, List.map_nil, List.cons.injEq, and_true] at hvs
      obtain ⟨k1, k3, hd⟩ := hT.convs _ (findConv_spec h)
      have ex : ρ' xo = den x := Vrel.keyed_eq k1 (hvs ▸ hρ xo)
      refine ⟨den v, ?_, Vrel.keyed_refl φ k3⟩
      simp only [ex]
      exact run_v (convD_run hE hd w)
    · cases h
  · rename_i t xo lo
    split at h
    · rename_i x l
      simp only [Op.operands, Option.toArray, List.map_cons, List.map_nil, List.cons.injEq, and_true, List.append_toArray, List.cons_append, List.nil_append, List.append_nil] at hvs
      obtain ⟨hx, hl⟩ := hvs
      obtain ⟨k1, k2, _, k3, k4, hd⟩ := hT.slices _ (findSlice_spec h)
      have ex : ρ' xo = den x := Vrel.keyed_eq k1 (hx ▸ hρ xo)
      have el : ρ' lo = den l := Vrel.keyed_eq (k2 l rfl) (hl ▸ hρ lo)
      obtain ⟨v', q1, q2⟩ := aSlice_sound (P := P) (x' := den x) (lo' := some (den l)) (hi' := none) (mx' := none) hE hrel hd (Vrel.closed_refl _ _ (keyed_den k1)) (Vrel.closed_refl _ _ (keyed_den (k2 l rfl))) trivial trivial
      have := Vrel.closed_eq _ _ k4 q2
      subst this
      refine ⟨den v, ?_, Vrel.keyed_refl φ k3⟩
      simp only [ex, el, Option.map_some, Option.map_none]
      exact run_v q1
    · cases h
  · rename_i t xo hi
    split at h
    · rename_i x l
      simp only [Op.operands, Option.toArray, List.map_cons, List.map_nil, List.cons.injEq, and_true, List.append_toArray, List.cons_append, List.nil_append, List.append_nil] at hvs
      obtain ⟨hx, hl⟩ := hvs
      obtain ⟨k1, _, k2, k3, k4, hd⟩ := hT.slices _ (findSlice_spec h)
      have ex : ρ' xo = den x := Vrel.keyed_eq k1 (hx ▸ hρ xo)
      have el : ρ' hi = den l := Vrel.keyed_eq (k2 l rfl) (hl ▸ hρ hi)
      obtain ⟨v', q1, q2⟩ := aSlice_sound (P := P) (x' := den x) (lo' := none) (hi' := some (den l)) (mx' := none) hE hrel hd (Vrel.closed_refl _ _ (keyed_den k1)) trivial (Vrel.closed_refl _ _ (keyed_den (k2 l rfl))) trivial
      have := Vrel.closed_eq _ _ k4 q2
      subst this
      refine ⟨den v, ?_, Vrel.keyed_refl φ k3⟩
      simp only [ex, el, Option.map_some, Option.map_none]
      exact run_v q1
    · cases h
  · rename_i t xo lo hi
    split at h
    · rename_i x l hh
      simp only [Op.operands, Option.toArray, List.map_cons, List.map_nil, List.cons.injEq, and_true, List.append_toArray, List.cons_append, List.nil_append, List.append_nil] at hvs
      obtain ⟨hx, hl, hh'⟩ := hvs
      obtain ⟨k1, k2, k5, k3, k4, hd⟩ := hT.slices _ (findSlice_spec h)
      have ex : ρ' xo = den x := Vrel.keyed_eq k1 (hx ▸ hρ xo)
      have el : ρ' lo = den l := Vrel.keyed_eq (k2 l rfl) (hl ▸ hρ lo)
      have eh : ρ' hi = den hh := Vrel.keyed_eq (k5 hh rfl) (hh' ▸ hρ hi)
      obtain ⟨v', q1, q2⟩ := aSlice_sound (P := P) (x' := den x) (lo' := some (den l)) (hi' := some (den hh)) (mx' := none) hE hrel hd (Vrel.closed_refl _ _ (keyed_den k1)) (Vrel.closed_refl _ _ (keyed_den (k2 l rfl))) (Vrel.closed_refl _ _ (keyed_den (k5 hh rfl))) trivial
      have := Vrel.closed_eq _ _ k4 q2
      subst this
      refine ⟨den v, ?_, Vrel.keyed_refl φ k3⟩
      simp only [ex, el, eh, Option.map_some, Option.map_none]
      exact run_v q1
    · cases h
  · rename_i t xo io
    split at h
    · rename_i x i
      simp only [Op.operands, List.map_cons, List.map_nil, List.cons.injEq, and_true] at hvs
      obtain ⟨hx, hi⟩ := hvs
      obtain ⟨k1, k2, k3, k4, hd⟩ := hT.idxs _ (findIdx_spec h)
      have ex : ρ' xo = den x := Vrel.keyed_eq k1 (hx ▸ hρ xo)
      have ei : ρ' io = den i := Vrel.keyed_eq k2 (hi ▸ hρ io)
      obtain ⟨v', q1, q2⟩ := aIndex_sound (φ := fun _ => .unborn) hE hd (Vrel.closed_refl _ _ (keyed_den k1)) (Vrel.closed_refl _ _ (keyed_den k2)) w
      have := Vrel.closed_eq _ _ k4 q2
      subst this
      refine ⟨den v, ?_, Vrel.keyed_refl φ k3⟩
      simp only [ex, ei]
      exact run_v q1
    · cases h
  · rename_i args ts
    split at h
    · rename_i x t ht
      obtain ⟨k1, k3, hd⟩ := hT.lens _ (findLen_spec h)
      obtain ⟨xo, hxo, hx⟩ : ∃ xo, args.toList = [xo] ∧ ρ xo = x := by
        have hvs' : args.toList.map ρ = [x] := by simpa [Op.operands, Call.operands] using hvs
        cases hl : args.toList with
        | nil => rw [hl] at hvs'; simp at hvs'
        | cons a l => rw [hl] at hvs'; cases l <;> simp at hvs'; exact ⟨a, rfl, hvs'⟩
      have ha : args = #[xo] := by apply Array.ext'; simpa using hxo
      subst ha
      have ex : ρ' xo = den x := Vrel.keyed_eq k1 (hx ▸ hρ xo)
      refine ⟨den v, ?_, Vrel.keyed_refl φ k3⟩
      have hd' : aLen E St.none ts (den x) = some (den v) := by
        have h0 : aLen E St.none ts (den x) = aLen E St.none #[t] (den x) := by unfold aLen; rw [ht]; rfl
        rw [h0]; exact hd
      have q1 := (aLen_sound (P := P) (ty := o.type) hE hrel hd' (Vrel.closed_refl _ _ (keyed_den k1))).1
      simp only [resolve, Sem.run_bind, Sem.run_pure, Result.andThen_ok, invoke]
      have hm : (#[xo].map ρ') = #[den x] := by simp [ex]
      rw [hm]
      simp [builtin, q1]
    · cases h
  · rename_i args ts
    split at h
    · rename_i x y
      obtain ⟨k1, k2, k3, hd⟩ := hT.mins _ (find2_spec h)
      obtain ⟨xo, yo, hxo, hx, hy⟩ : ∃ xo yo, args.toList = [xo, yo] ∧ ρ xo = x ∧ ρ yo = y := by
        have hvs' : args.toList.map ρ = [x, y] := by simpa [Op.operands, Call.operands] using hvs
        match hl : args.toList with
        | [] => rw [hl] at hvs'; simp at hvs'
        | [a] => rw [hl] at hvs'; simp at hvs'
        | [a, b] => rw [hl] at hvs'; simp at hvs'; exact ⟨a, b, rfl, hvs'⟩
        | a :: b :: c :: l => rw [hl] at hvs'; simp at hvs'
      have ha : args = #[xo, yo] := by apply Array.ext'; simpa using hxo
      subst ha
      have ex : ρ' xo = den x := Vrel.keyed_eq k1 (hx ▸ hρ xo)
      have ey : ρ' yo = den y := Vrel.keyed_eq k2 (hy ▸ hρ yo)
      refine ⟨den v, ?_, Vrel.keyed_refl φ k3⟩
      simp only [resolve, Sem.run_bind, Sem.run_pure, Result.andThen_ok, invoke]
      have hm : (#[xo, yo].map ρ') = #[den x, den y] := by simp [ex, ey]
      rw [hm]
      simp [builtin, minD_run hd]
    · cases h
  · rename_i args ts
    split at h
    · rename_i x y
      obtain ⟨k1, k2, k3, hd⟩ := hT.maxs _ (find2_spec h)
      obtain ⟨xo, yo, hxo, hx, hy⟩ : ∃ xo yo, args.toList = [xo, yo] ∧ ρ xo = x ∧ ρ yo = y := by
        have hvs' : args.toList.map ρ = [x, y] := by simpa [Op.operands, Call.operands] using hvs
        match hl : args.toList with
        | [] => rw [hl] at hvs'; simp at hvs'
        | [a] => rw [hl] at hvs'; simp at hvs'
        | [a, b] => rw [hl] at hvs'; simp at hvs'; exact ⟨a, b, rfl, hvs'⟩
        | a :: b :: c :: l => rw [hl] at hvs'; simp at hvs'
      have ha : args = #[xo, yo] := by apply Array.ext'; simpa using hxo
      subst ha
      have ex : ρ' xo = den x := Vrel.keyed_eq k1 (hx ▸ hρ xo)
      have ey : ρ' yo = den y := Vrel.keyed_eq k2 (hy ▸ hρ yo)
      refine ⟨den v, ?_, Vrel.keyed_refl φ k3⟩
      simp only [resolve, Sem.run_bind, Sem.run_pure, Result.andThen_ok, invoke]
      have hm : (#[xo, yo].map ρ') = #[den x, den y] := by simp [ex, ey]
      rw [hm]
      simp [builtin, maxD_run hd]
    · cases h
  · cases h

end
end Go.Ab
