/- The trie and the store: what is read behind a write. -/
import Derived.Test.YtglelglhogfnfaaGreatAbRel
namespace Go.Ab

theorem beqF [Syms] {n m : Nat} (h : n ≠ m) : Nat.beq n m = false := by
  cases hb : Nat.beq n m with
  | false => rfl
  | true => exact absurd (Nat.eq_of_beq_eq_true hb) h
theorem beqT [Syms] {n m : Nat} (h : n = m) : Nat.beq n m = true := by subst h; exact Nat.beq_refl n
theorem of_beqT [Syms] {n m : Nat} (h : Nat.beq n m = true) : n = m := Nat.eq_of_beq_eq_true h
theorem of_bleT [Syms] {n m : Nat} (h : Nat.ble n m = true) : n ≤ m := Nat.le_of_ble_eq_true h
theorem of_bleF [Syms] {n m : Nat} (h : Nat.ble n m = false) : m < n := by
  rcases Nat.lt_or_ge m n with k | k
  · exact k
  · rw [Nat.ble_eq_true_of_le k] at h; cases h
theorem of_bltT [Syms] {n m : Nat} (h : Nat.blt n m = true) : n < m := Nat.le_of_ble_eq_true h

theorem Tr.get_leaf [Syms] {α : Type} (n : Nat) : (Tr.leaf : Tr α).get n = none := rfl

theorem rec_nat [Syms] {β : Type} (a : β) (f : Nat → β) : ∀ n : Nat, (Nat.rec (motive := fun _ => β) a (fun m _ => f m) n) = if n = 0 then a else f (n - 1)
  | 0 => rfl
  | n + 1 => by simp

theorem mod_rec [Syms] {β : Type} (a b : β) (n : Nat) (h : n ≠ 0) : (Nat.rec (motive := fun _ => β) a (fun _ _ => b) (Nat.mod (n - 1) 2)) = if n % 2 = 1 then a else b := by
  have : (n - 1).mod 2 = (n - 1) % 2 := rfl
  rw [this, rec_nat a (fun _ => b)]
  by_cases h1 : n % 2 = 1
  · rw [if_pos h1, if_pos (by omega)]
  · rw [if_neg h1, if_neg (by omega)]

theorem div_odd [Syms] {n : Nat} (h : n % 2 = 1) : Nat.div (n - 1) 2 = n / 2 := by show (n - 1) / 2 = n / 2; omega
theorem div_even [Syms] {n : Nat} (h : ¬ n % 2 = 1) : Nat.div (n - 1) 2 = n / 2 - 1 := by show (n - 1) / 2 = n / 2 - 1; omega

theorem Tr.get_node [Syms] {α : Type} (l r : Tr α) (v : Option α) (n : Nat) : (Tr.node l v r).get n = if n = 0 then v else if n % 2 = 1 then l.get (n / 2) else r.get (n / 2 - 1) := by
  show (Nat.rec (motive := fun _ => Option α) v (fun m _ => Nat.rec (motive := fun _ => Option α) (l.get (Nat.div m 2)) (fun _ _ => r.get (Nat.div m 2)) (Nat.mod m 2)) n) = _
  rw [rec_nat v (fun m => Nat.rec (motive := fun _ => Option α) (l.get (Nat.div m 2)) (fun _ _ => r.get (Nat.div m 2)) (Nat.mod m 2))]
  by_cases h : n = 0
  · simp [h]
  · rw [if_neg h, if_neg h, mod_rec _ _ _ h]
    by_cases h1 : n % 2 = 1
    · rw [if_pos h1, if_pos h1, div_odd h1]
    · rw [if_neg h1, if_neg h1, div_even h1]

theorem Tr.get_parts [Syms] {α : Type} (t : Tr α) (n : Nat) : t.get n = if n = 0 then t.md else if n % 2 = 1 then t.lt.get (n / 2) else t.rt.get (n / 2 - 1) := by
  cases t with
  | leaf => simp [Tr.get_leaf, Tr.md, Tr.lt, Tr.rt]
  | node l v r => simp [Tr.get_node, Tr.md, Tr.lt, Tr.rt]

theorem Tr.setF_succ [Syms] {α : Type} (x : Option α) (f : Nat) (t : Tr α) (n : Nat) : Tr.setF x (f + 1) t n = Tr.setB x (Tr.setF x f) t.lt t.md t.rt n := by
  cases t <;> rfl

theorem Tr.setB_eq [Syms] {α : Type} (x : Option α) (ih : Tr α → Nat → Tr α) (l : Tr α) (v : Option α) (r : Tr α) (n : Nat) :
    Tr.setB x ih l v r n = if n = 0 then .node l x r else if n % 2 = 1 then .node (ih l (n / 2)) v r else .node l v (ih r (n / 2 - 1)) := by
  unfold Tr.setB
  rw [rec_nat (Tr.node l x r) (fun m => Nat.rec (motive := fun _ => Tr α) (.node (ih l (Nat.div m 2)) v r) (fun _ _ => .node l v (ih r (Nat.div m 2))) (Nat.mod m 2))]
  by_cases h : n = 0
  · simp [h]
  · rw [if_neg h, if_neg h, mod_rec _ _ _ h]
    by_cases h1 : n % 2 = 1
    · rw [if_pos h1, if_pos h1, div_odd h1]
    · rw [if_neg h1, if_neg h1, div_even h1]

theorem Tr.get_setF [Syms] {α : Type} (x : Option α) : ∀ (f : Nat) (t : Tr α) (n m : Nat), n < f → (Tr.setF x f t n).get m = if m = n then x else t.get m
  | 0, _, _, _, h => absurd h (Nat.not_lt_zero _)
  | f + 1, t, n, m, h => by
    rw [Tr.setF_succ, Tr.setB_eq]
    by_cases h0 : n = 0
    · subst h0
      simp only [if_true, Tr.get_node]
      by_cases hm : m = 0
      · simp [hm]
      · rw [Tr.get_parts t m]
        simp [hm]
    · rw [if_neg h0]
      by_cases h1 : n % 2 = 1
      · rw [if_pos h1, Tr.get_node]
        rw [Tr.get_setF x f t.lt (n / 2) (m / 2) (by omega), Tr.get_parts t m]
        by_cases hm : m = 0
        · simp [hm, show ¬ 0 = n from fun e => h0 e.symm]
        · by_cases hm1 : m % 2 = 1
          · simp only [hm, hm1, if_true, if_false]
            by_cases he : m = n
            · simp [he]
            · rw [if_neg (show ¬ m / 2 = n / 2 by omega), if_neg he]
          · simp only [hm, hm1, if_false]
            rw [if_neg (show ¬ m = n by intro e; exact hm1 (e ▸ h1))]
      · rw [if_neg h1, Tr.get_node]
        rw [Tr.get_setF x f t.rt (n / 2 - 1) (m / 2 - 1) (by omega), Tr.get_parts t m]
        by_cases hm : m = 0
        · simp [hm, show ¬ 0 = n from fun e => h0 e.symm]
        · by_cases hm1 : m % 2 = 1
          · simp only [hm, hm1, if_true, if_false]
            rw [if_neg (show ¬ m = n by intro e; exact h1 (e ▸ hm1))]
          · simp only [hm, hm1, if_false]
            by_cases he : m = n
            · simp [he]
            · rw [if_neg (show ¬ m / 2 - 1 = n / 2 - 1 by omega), if_neg he]

theorem Tr.get_set [Syms] {α : Type} (x : Option α) (t : Tr α) (n m : Nat) : (t.set n x).get m = if m = n then x else t.get m := Tr.get_setF x (n + 1) t n m (Nat.lt_succ_self n)

theorem St.get_put [Syms] (σ : St) (i j : Nat) (b : Blk) : (σ.put i b).get j = if j = i then some b else σ.get j := Tr.get_set _ _ _ _
theorem St.get_kill [Syms] (σ : St) (i j : Nat) : (σ.kill i).get j = if j = i then none else σ.get j := Tr.get_set _ _ _ _
theorem St.get_new [Syms] (σ : St) (j : Nat) (b : Blk) : (σ.new b).get j = if j = σ.next then some b else σ.get j := Tr.get_set _ _ _ _
@[simp] theorem St.next_put [Syms] (σ : St) (i : Nat) (b : Blk) : (σ.put i b).next = σ.next := rfl
@[simp] theorem St.next_kill [Syms] (σ : St) (i : Nat) : (σ.kill i).next = σ.next := rfl
@[simp] theorem St.next_new [Syms] (σ : St) (b : Blk) : (σ.new b).next = σ.next + 1 := rfl

/-- The tree of a list. -/
def Tr.ofList {α : Type} : Nat → List α → Tr α
  | 0, _ => .leaf
  | _, [] => .leaf
  | f + 1, x :: xs => .node (ofList f (evens xs)) (some x) (ofList f (odds xs))
  where
  evens : List α → List α
    | [] => []
    | x :: xs => x :: odds xs
  odds : List α → List α
    | [] => []
    | _ :: xs => evens xs

/-! ## The lists of related values -/

theorem VrelL.length [Syms] {φ : Phi} : ∀ {l l' : List Value}, VrelL φ l l' → l'.length = l.length
  | [], _, h => by simp only [VrelL] at h; simp [h]
  | v :: vs, _, h => by
    simp only [VrelL] at h
    obtain ⟨v', vs', rfl, _, s⟩ := h
    simp [VrelL.length s]

theorem VrelL.get [Syms] {φ : Phi} : ∀ {l l' : List Value}, VrelL φ l l' → ∀ {i : Nat} {v : Value}, l[i]? = some v → ∃ v', l'[i]? = some v' ∧ Vrel φ v v'
  | [], _, _, i, v, h => by simp at h
  | x :: xs, _, h, i, v, hi => by
    simp only [VrelL] at h
    obtain ⟨v', vs', rfl, q, s⟩ := h
    cases i with
    | zero => simp only [List.getElem?_cons_zero, Option.some.injEq] at hi; subst hi; exact ⟨v', by simp, q⟩
    | succ i => simp only [List.getElem?_cons_succ] at hi ⊢; exact VrelL.get s hi

theorem VrelL.of_get [Syms] {φ : Phi} : ∀ {l l' : List Value}, l'.length = l.length → (∀ (i : Nat) (v : Value), l[i]? = some v → ∃ v' : Value, l'[i]? = some v' ∧ Vrel φ v v') → VrelL φ l l'
  | [], l', hl, _ => by simp only [VrelL]; exact List.eq_nil_of_length_eq_zero (by simpa using hl)
  | x :: xs, [], hl, _ => by simp at hl
  | x :: xs, y :: ys, hl, h => by
    simp only [VrelL]
    refine ⟨y, ys, rfl, ?_, VrelL.of_get (by simpa using hl) fun i v hi => ?_⟩
    · obtain ⟨v', hv, r⟩ := h 0 x (by simp)
      simp only [List.getElem?_cons_zero, Option.some.injEq] at hv
      exact hv ▸ r
    · simpa using h (i + 1) v (by simpa using hi)

theorem VrelL.getD [Syms] {φ : Phi} {l l' : List Value} (h : VrelL φ l l') (i : Nat) {d d' : Value} (hd : Vrel φ d d') : Vrel φ (l.getD i d) (l'.getD i d') := by
  rw [List.getD_eq_getElem?_getD, List.getD_eq_getElem?_getD]
  cases hi : l[i]? with
  | some v => obtain ⟨v', h1, h2⟩ := h.get hi; simpa [h1] using h2
  | none =>
    have := h.length
    have : l'[i]? = none := by rw [List.getElem?_eq_none_iff] at hi ⊢; omega
    simpa [this] using hd

theorem VrelL.append [Syms] {φ : Phi} {a a' b b' : List Value} (h : VrelL φ a a') (k : VrelL φ b b') : VrelL φ (a ++ b) (a' ++ b') := by
  have ha := h.length
  have hb := k.length
  refine VrelL.of_get (by simp [ha, hb]) fun i v hi => ?_
  rcases Nat.lt_or_ge i a.length with hl | hl
  · rw [List.getElem?_append_left hl] at hi
    rw [List.getElem?_append_left (by omega)]
    exact h.get hi
  · rw [List.getElem?_append_right hl] at hi
    rw [List.getElem?_append_right (by omega), ha]
    exact k.get hi

theorem VrelL.take [Syms] {φ : Phi} {a a' : List Value} (h : VrelL φ a a') (n : Nat) : VrelL φ (a.take n) (a'.take n) := by
  refine VrelL.of_get (by simp [h.length]) fun i v hi => ?_
  rw [List.getElem?_take] at hi ⊢
  split at hi
  · rename_i hl; simp only [hl, if_true]; exact h.get hi
  · simp at hi

theorem VrelL.drop [Syms] {φ : Phi} {a a' : List Value} (h : VrelL φ a a') (n : Nat) : VrelL φ (a.drop n) (a'.drop n) := by
  refine VrelL.of_get (by simp [h.length]) fun i v hi => ?_
  rw [List.getElem?_drop] at hi ⊢
  exact h.get hi

theorem VrelL.set [Syms] {φ : Phi} {a a' : List Value} (h : VrelL φ a a') (n : Nat) {v v' : Value} (hv : Vrel φ v v') : VrelL φ (a.set n v) (a'.set n v') := by
  refine VrelL.of_get (by simp [h.length]) fun i u hi => ?_
  rw [List.getElem?_set] at hi ⊢
  have := h.length
  split at hi
  · rename_i he
    simp only [he, if_true]
    split at hi
    · rename_i hl
      simp only [Option.some.injEq] at hi
      exact ⟨v', by rw [if_pos (by omega)], hi ▸ hv⟩
    · simp at hi
  · rename_i he
    simp only [he, if_false]
    exact h.get hi

theorem VrelL.replicate [Syms] {φ : Phi} {v v' : Value} (h : Vrel φ v v') (n : Nat) : VrelL φ (List.replicate n v) (List.replicate n v') :=
  VrelL.of_get (by simp) fun i u hi => by
    rw [List.getElem?_replicate] at hi ⊢
    split at hi
    · rename_i hl; simp only [hl, if_true]; simp only [Option.some.injEq] at hi; exact ⟨v', rfl, hi ▸ h⟩
    · simp at hi

theorem VrelL.map_of [Syms] {φ : Phi} {α : Type} {f g : α → Value} : ∀ (l : List α), (∀ x, x ∈ l → Vrel φ (f x) (g x)) → VrelL φ (l.map f) (l.map g)
  | [], _ => by simp [VrelL]
  | x :: xs, h => by
    simp only [List.map_cons, VrelL]
    exact ⟨g x, xs.map g, rfl, h x (by simp), VrelL.map_of xs fun y hy => h y (by simp [hy])⟩

theorem VrelL.cons [Syms] {φ : Phi} {v v' : Value} {l l' : List Value} (h : Vrel φ v v') (k : VrelL φ l l') : VrelL φ (v :: l) (v' :: l') := by
  simp only [VrelL]; exact ⟨v', l', rfl, h, k⟩
theorem VrelL.nil [Syms] {φ : Phi} : VrelL φ [] [] := by simp [VrelL]

theorem VrelA.iff [Syms] {φ : Phi} {a a' : Array Value} : VrelA φ a a' ↔ VrelL φ a.toList a'.toList := by
  cases a; simp [VrelA]

/-- The cells of related values. -/
theorem Vrel.cells [Syms] {φ : Phi} {v v' : Value} (h : Vrel φ v v') (hk : known v = true) : VrelL φ v.cells.toList v'.cells.toList := by
  cases v with
  | agg cs =>
    simp only [Vrel] at h
    obtain ⟨cs', rfl, q⟩ := h
    simpa [Value.cells] using VrelA.iff.1 q
  | complex k i j =>
    obtain ⟨n, e⟩ := isSym_spec (v := .complex k i j) hk
    rw [e] at h ⊢
    have h0 := h
    simp only [Vrel, true_implies] at h
    rw [h.1] at h0 ⊢
    rw [(Syms.cell n).2.1]
    exact VrelL.cons h0 VrelL.nil
  | pointer a =>
    have h0 := h
    cases a <;> (simp only [Vrel] at h) <;> (first | subst h | (obtain ⟨_, rfl, _⟩ := h)) <;> exact VrelL.cons h0 VrelL.nil
  | slice a l c =>
    have h0 := h
    cases a <;> (simp only [Vrel] at h) <;> (first | subst h | (obtain ⟨_, _, rfl, _⟩ := h)) <;> exact VrelL.cons h0 VrelL.nil
  | map a =>
    have h0 := h
    cases a <;> (simp only [Vrel] at h) <;> (first | subst h | (obtain ⟨_, rfl, _⟩ := h)) <;> exact VrelL.cons h0 VrelL.nil
  | chan a =>
    have h0 := h
    cases a <;> (simp only [Vrel] at h) <;> (first | subst h | (obtain ⟨_, rfl, _⟩ := h)) <;> exact VrelL.cons h0 VrelL.nil
  | func fn a b =>
    have h0 := h
    simp only [Vrel] at h
    obtain ⟨a', b', rfl, q, s⟩ := h
    simp only [Value.cells]
    exact VrelL.cons h0 VrelL.nil
  | iface t x =>
    have h0 := h
    simp only [Vrel] at h
    obtain ⟨x', rfl, q⟩ := h
    simp only [Value.cells]
    exact VrelL.cons h0 VrelL.nil
  | tuple cs =>
    have h0 := h
    simp only [Vrel] at h
    obtain ⟨x', rfl, q⟩ := h
    simp only [Value.cells]
    exact VrelL.cons h0 VrelL.nil
  | _ => simp only [Vrel] at h; subst h; simp [Value.cells, VrelL, Vrel]

theorem Vrel.oneCell [Syms] {φ : Phi} {v v' : Value} (h : Vrel φ v v') (hk : isCell v = true) : v'.oneCell' = true := by
  cases v with
  | agg cs => simp [isCell] at hk
  | complex k i j =>
    obtain ⟨n, e⟩ := isSym_spec (v := .complex k i j) hk
    rw [e] at h
    simp only [Vrel, true_implies] at h
    rw [h.1]; exact (Syms.cell n).1
  | tuple => simp [isCell] at hk
  | pointer a => cases a <;> (simp only [Vrel] at h) <;> (first | subst h | (obtain ⟨_, rfl, _⟩ := h)) <;> rfl
  | slice a l c => cases a <;> (simp only [Vrel] at h) <;> (first | subst h | (obtain ⟨_, _, rfl, _⟩ := h)) <;> rfl
  | map a => cases a <;> (simp only [Vrel] at h) <;> (first | subst h | (obtain ⟨_, rfl, _⟩ := h)) <;> rfl
  | chan a => cases a <;> (simp only [Vrel] at h) <;> (first | subst h | (obtain ⟨_, rfl, _⟩ := h)) <;> rfl
  | func fn a b => simp only [Vrel] at h; obtain ⟨a', b', rfl, q, s⟩ := h; rfl
  | iface t x => simp only [Vrel] at h; obtain ⟨x', rfl, q⟩ := h; rfl
  | _ => simp only [Vrel] at h; subst h; rfl

theorem known_of_isCell [Syms] {v : Value} (h : isCell v = true) : known v = true := by cases v <;> simp_all [isCell, known]

end Go.Ab
