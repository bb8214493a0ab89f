/- The relation between the abstract store and the machine's memory. -/
import Derived.Test.YtglelglhogfnfaaGreatAbEval
import Derived.Laws.Sem
namespace Go.Ab

/-- Where a live block lies: the block, the first cell, how many cells from there on, how many of these the abstract block has, the size of an element (of a slice whose capacity is open). -/
structure Ext where
  blk : Nat
  base : Nat
  tot : Nat
  n : Nat
  esz : Nat

inductive Ent where
  | unborn
  | dead
  | live (x : Ext)

abbrev Phi := Nat → Ent

/-- What the symbols stand for: `.complex .f64 i _` is symbol i; each is a truth value, a number or a text. -/
class Syms where
  val : Nat → Value
  plain : ∀ i, plainOut (val i) = true

/-- An address. -/
def ARel [Syms] (φ : Phi) (a a' : Addr) : Prop :=
  match φ a.block with
  | .unborn => False
  | .dead => True
  | .live x => a.spot = none ∧ a'.spot = none ∧ a'.block = x.blk ∧ a'.off = x.base + a.off

/-- A slice's header. -/
def SRel [Syms] (φ : Phi) (a : Addr) (len cap : Nat) (a' : Addr) (cap' : Nat) : Prop :=
  match φ a.block with
  | .unborn => False
  | .dead => len ≤ cap' ∧ (openCap ≤ cap ∨ cap' = cap)
  | .live x =>
    len ≤ cap' ∧
    if openCap ≤ cap then
      a.spot = none ∧ 0 < x.esz ∧ x.n ≤ a.off + cap' * x.esz ∧ a.off + cap' * x.esz ≤ x.tot ∧ cap' < openCap ∧ (cap' = 0 ∨ ARel φ a a')
    else cap' = cap ∧ (cap = 0 ∨ ARel φ a a')

/-- A map's or a channel's block. -/
def ORel [Syms] (φ : Phi) (i i' : Nat) : Prop :=
  match φ i with
  | .unborn => False
  | .dead => True
  | .live x => x.blk = i' ∧ x.base = 0

mutual
def Vrel [Syms] (φ : Phi) : Value → Value → Prop
  | .bool b, v => v = .bool b
  | .int k n, v => v = .int k n
  | .float k b, v => v = .float k b
  | .complex k i j, v => k = .f64 → (j = 0 → v = Syms.val i) ∧ (j = 1 → ∃ l, v = .func (.yield l) #[] #[] ∧ ORel φ i l)
  | .string s, v => v = .string s
  | .pointer none, v => v = .pointer none
  | .pointer (some a), v => ∃ a', v = .pointer (some a') ∧ ARel φ a a'
  | .slice none l c, v => v = .slice none l c
  | .slice (some a) len cap, v => ∃ a' cap', v = .slice (some a') len cap' ∧ SRel φ a len cap a' cap'
  | .map none, v => v = .map none
  | .map (some i), v => ∃ i', v = .map (some i') ∧ ORel φ i i'
  | .chan none, v => v = .chan none
  | .chan (some i), v => ∃ i', v = .chan (some i') ∧ ORel φ i i'
  | .func fn a b, v => ∃ a' b', v = .func fn a' b' ∧ VrelA φ a a' ∧ VrelA φ b b'
  | .nilFunc, v => v = .nilFunc
  | .iface t x, v => ∃ x', v = .iface t x' ∧ Vrel φ x x'
  | .nilIface, v => v = .nilIface
  | .agg cs, v => ∃ cs', v = .agg cs' ∧ VrelA φ cs cs'
  | .tuple cs, v => ∃ cs', v = .tuple cs' ∧ VrelA φ cs cs'
def VrelA [Syms] (φ : Phi) : Array Value → Array Value → Prop
  | ⟨l⟩, l' => VrelL φ l l'.toList
def VrelL [Syms] (φ : Phi) : List Value → List Value → Prop
  | [], l' => l' = []
  | v :: vs, l' => ∃ v' vs', l' = v' :: vs' ∧ Vrel φ v v' ∧ VrelL φ vs vs'
end

/-- What may become of a block's place: it stays, or it dies. -/
def Ent.le [Syms] : Ent → Ent → Prop
  | .unborn, _ => True
  | .dead, e => e = .dead
  | .live x, e => e = .live x ∨ e = .dead

def PLe [Syms] (φ φ' : Phi) : Prop := ∀ i, (φ i).le (φ' i)

theorem Ent.le_refl [Syms] (e : Ent) : e.le e := by cases e <;> simp [Ent.le]
theorem Ent.le_trans [Syms] {a b c : Ent} (h : a.le b) (h' : b.le c) : a.le c := by
  cases a <;> cases b <;> cases c <;> simp_all [Ent.le]
theorem PLe.refl [Syms] (φ : Phi) : PLe φ φ := fun _ => Ent.le_refl _
theorem PLe.trans [Syms] {a b c : Phi} (h : PLe a b) (h' : PLe b c) : PLe a c := fun i => Ent.le_trans (h i) (h' i)

theorem ARel.mono [Syms] {φ φ' : Phi} (h : PLe φ φ') {a a' : Addr} (r : ARel φ a a') : ARel φ' a a' := by
  have := h a.block
  unfold ARel at *
  cases h1 : φ a.block <;> cases h2 : φ' a.block <;> simp_all [Ent.le]

theorem SRel.mono [Syms] {φ φ' : Phi} (h : PLe φ φ') {a a' : Addr} {l c c' : Nat} (r : SRel φ a l c a' c') : SRel φ' a l c a' c' := by
  have := h a.block
  have hm : ARel φ a a' → ARel φ' a a' := ARel.mono h
  unfold SRel at *
  cases h1 : φ a.block with
  | unborn => simp [h1] at r
  | dead => simp only [h1, Ent.le] at r this; simp only [this]; exact r
  | live x =>
    simp only [h1, Ent.le] at r this
    rcases this with this | this
    · simp only [this]
      refine ⟨r.1, ?_⟩
      have r := r.2
      split at r
      · rename_i hc
        simp only [hc, if_true]
        exact ⟨r.1, r.2.1, r.2.2.1, r.2.2.2.1, r.2.2.2.2.1, r.2.2.2.2.2.imp id hm⟩
      · rename_i hc
        simp only [hc, if_false]
        exact ⟨r.1, r.2.imp id hm⟩
    · simp only [this]
      refine ⟨r.1, ?_⟩
      have r := r.2
      split at r
      · rename_i hc; exact .inl hc
      · exact .inr r.1

theorem ORel.mono [Syms] {φ φ' : Phi} (h : PLe φ φ') {a a' : Nat} (r : ORel φ a a') : ORel φ' a a' := by
  have := h a
  unfold ORel at *
  cases h1 : φ a <;> cases h2 : φ' a <;> simp_all [Ent.le]

mutual
theorem Vrel.mono [Syms] {φ φ' : Phi} (h : PLe φ φ') : ∀ (v v' : Value), Vrel φ v v' → Vrel φ' v v'
  | .bool _, _, r => by simpa [Vrel] using r
  | .int _ _, _, r => by simpa [Vrel] using r
  | .float _ _, _, r => by simpa [Vrel] using r
  | .complex _ _ _, _, r => by
    simp only [Vrel] at r ⊢
    exact fun hk => ⟨(r hk).1, fun hj => let ⟨l, e, q⟩ := (r hk).2 hj; ⟨l, e, q.mono h⟩⟩
  | .string _, _, r => by simpa [Vrel] using r
  | .pointer none, _, r => by simpa [Vrel] using r
  | .pointer (some a), _, r => by
    simp only [Vrel] at r ⊢
    obtain ⟨a', e, q⟩ := r
    exact ⟨a', e, q.mono h⟩
  | .slice none _ _, _, r => by simpa [Vrel] using r
  | .slice (some a) _ _, _, r => by
    simp only [Vrel] at r ⊢
    obtain ⟨a', c', e, q⟩ := r
    exact ⟨a', c', e, q.mono h⟩
  | .map none, _, r => by simpa [Vrel] using r
  | .map (some a), _, r => by
    simp only [Vrel] at r ⊢
    obtain ⟨a', e, q⟩ := r
    exact ⟨a', e, q.mono h⟩
  | .chan none, _, r => by simpa [Vrel] using r
  | .chan (some a), _, r => by
    simp only [Vrel] at r ⊢
    obtain ⟨a', e, q⟩ := r
    exact ⟨a', e, q.mono h⟩
  | .func fn a b, _, r => by
    simp only [Vrel] at r ⊢
    obtain ⟨a', b', e, q, s⟩ := r
    exact ⟨a', b', e, VrelA.mono h _ _ q, VrelA.mono h _ _ s⟩
  | .nilFunc, _, r => by simpa [Vrel] using r
  | .iface t x, _, r => by
    simp only [Vrel] at r ⊢
    obtain ⟨x', e, q⟩ := r
    exact ⟨x', e, Vrel.mono h _ _ q⟩
  | .nilIface, _, r => by simpa [Vrel] using r
  | .agg cs, _, r => by
    simp only [Vrel] at r ⊢
    obtain ⟨a', e, q⟩ := r
    exact ⟨a', e, VrelA.mono h _ _ q⟩
  | .tuple cs, _, r => by
    simp only [Vrel] at r ⊢
    obtain ⟨a', e, q⟩ := r
    exact ⟨a', e, VrelA.mono h _ _ q⟩
theorem VrelA.mono [Syms] {φ φ' : Phi} (h : PLe φ φ') : ∀ (v v' : Array Value), VrelA φ v v' → VrelA φ' v v'
  | ⟨_⟩, _, r => by simp only [VrelA] at r ⊢; exact VrelL.mono h _ _ r
theorem VrelL.mono [Syms] {φ φ' : Phi} (h : PLe φ φ') : ∀ (v v' : List Value), VrelL φ v v' → VrelL φ' v v'
  | [], _, r => by simpa [VrelL] using r
  | v :: vs, _, r => by
    simp only [VrelL] at r ⊢
    obtain ⟨v', vs', e, q, s⟩ := r
    exact ⟨v', vs', e, Vrel.mono h _ _ q, VrelL.mono h _ _ s⟩
end

mutual
/-- A value without an address stands for itself. -/
theorem Vrel.closed_refl [Syms] (φ : Phi) : ∀ (v : Value), closed v = true → Vrel φ v v
  | .bool _, _ => by simp [Vrel]
  | .int _ _, _ => by simp [Vrel]
  | .float _ _, h => by simp [Vrel]
  | .complex _ _ _, h => by simp [closed] at h
  | .string _, _ => by simp [Vrel]
  | .pointer none, _ => by simp [Vrel]
  | .pointer (some a), h => by simp [closed] at h
  | .slice none _ _, _ => by simp [Vrel]
  | .slice (some a) _ _, h => by simp [closed] at h
  | .map none, _ => by simp [Vrel]
  | .map (some a), h => by simp [closed] at h
  | .chan none, _ => by simp [Vrel]
  | .chan (some a), h => by simp [closed] at h
  | .func fn a b, h => by
    simp only [closed, Bool.and_eq_true] at h
    simp only [Vrel]
    exact ⟨a, b, rfl, VrelA.closed_refl φ a h.1, VrelA.closed_refl φ b h.2⟩
  | .nilFunc, _ => by simp [Vrel]
  | .iface t x, h => by
    simp only [closed] at h
    simp only [Vrel]
    exact ⟨x, rfl, Vrel.closed_refl φ x h⟩
  | .nilIface, _ => by simp [Vrel]
  | .agg cs, h => by
    simp only [closed] at h
    simp only [Vrel]
    exact ⟨cs, rfl, VrelA.closed_refl φ cs h⟩
  | .tuple cs, h => by
    simp only [closed] at h
    simp only [Vrel]
    exact ⟨cs, rfl, VrelA.closed_refl φ cs h⟩
theorem VrelA.closed_refl [Syms] (φ : Phi) : ∀ (v : Array Value), closedA v = true → VrelA φ v v
  | ⟨l⟩, h => by simp only [closedA] at h; simp only [VrelA]; exact VrelL.closed_refl φ l h
theorem VrelL.closed_refl [Syms] (φ : Phi) : ∀ (v : List Value), closedL v = true → VrelL φ v v
  | [], _ => by simp [VrelL]
  | v :: vs, h => by
    simp only [closedL, Bool.and_eq_true] at h
    simp only [VrelL]
    exact ⟨v, vs, rfl, Vrel.closed_refl φ v h.1, VrelL.closed_refl φ vs h.2⟩
end

mutual
/-- What stands for a value without an address is that value. -/
theorem Vrel.closed_eq [Syms] {φ : Phi} : ∀ (v v' : Value), closed v = true → Vrel φ v v' → v' = v
  | .bool _, _, _, r => by simpa [Vrel] using r
  | .int _ _, _, _, r => by simpa [Vrel] using r
  | .float _ _, _, _, r => by simpa [Vrel] using r
  | .complex _ _ _, _, h, _ => by simp [closed] at h
  | .string _, _, _, r => by simpa [Vrel] using r
  | .pointer none, _, _, r => by simpa [Vrel] using r
  | .pointer (some a), _, h, _ => by simp [closed] at h
  | .slice none _ _, _, _, r => by simpa [Vrel] using r
  | .slice (some a) _ _, _, h, _ => by simp [closed] at h
  | .map none, _, _, r => by simpa [Vrel] using r
  | .map (some a), _, h, _ => by simp [closed] at h
  | .chan none, _, _, r => by simpa [Vrel] using r
  | .chan (some a), _, h, _ => by simp [closed] at h
  | .func fn a b, _, h, r => by
    simp only [closed, Bool.and_eq_true] at h
    simp only [Vrel] at r
    obtain ⟨a', b', rfl, q, s⟩ := r
    rw [VrelA.closed_eq a a' h.1 q, VrelA.closed_eq b b' h.2 s]
  | .nilFunc, _, _, r => by simpa [Vrel] using r
  | .iface t x, _, h, r => by
    simp only [closed] at h
    simp only [Vrel] at r
    obtain ⟨x', rfl, q⟩ := r
    rw [Vrel.closed_eq x x' h q]
  | .nilIface, _, _, r => by simpa [Vrel] using r
  | .agg cs, _, h, r => by
    simp only [closed] at h
    simp only [Vrel] at r
    obtain ⟨x', rfl, q⟩ := r
    rw [VrelA.closed_eq cs x' h q]
  | .tuple cs, _, h, r => by
    simp only [closed] at h
    simp only [Vrel] at r
    obtain ⟨x', rfl, q⟩ := r
    rw [VrelA.closed_eq cs x' h q]
theorem VrelA.closed_eq [Syms] {φ : Phi} : ∀ (v v' : Array Value), closedA v = true → VrelA φ v v' → v' = v
  | ⟨l⟩, ⟨l'⟩, h, r => by
    simp only [closedA] at h
    simp only [VrelA] at r
    rw [VrelL.closed_eq l l' h r]
theorem VrelL.closed_eq [Syms] {φ : Phi} : ∀ (v v' : List Value), closedL v = true → VrelL φ v v' → v' = v
  | [], _, _, r => by simpa [VrelL] using r
  | v :: vs, _, h, r => by
    simp only [closedL, Bool.and_eq_true] at h
    simp only [VrelL] at r
    obtain ⟨v', vs', rfl, q, s⟩ := r
    rw [Vrel.closed_eq v v' h.1 q, VrelL.closed_eq vs vs' h.2 s]
end

/-- What a symbol stands for; of any other value: itself. -/
def den [Syms] (v : Value) : Value :=
  match v with
  | .complex .f64 i 0 => Syms.val i
  | v => v

theorem isSym_spec {v : Value} (h : isSym v = true) : ∃ i, v = .complex .f64 i 0 := by
  unfold isSym at h
  split at h
  · exact ⟨_, rfl⟩
  · cases h

/-- A value without an address, or a symbol. -/
def keyed (v : Value) : Bool := closed v || isSym v

theorem keyed_of_closed {v : Value} (h : closed v = true) : keyed v = true := by simp [keyed, h]

theorem den_closed [Syms] {v : Value} (h : closed v = true) : den v = v := by
  unfold den
  split
  · simp [closed] at h
  · rfl

theorem Vrel.keyed_eq [Syms] {φ : Phi} {v v' : Value} (h : keyed v = true) (r : Vrel φ v v') : v' = den v := by
  unfold keyed at h
  rcases Bool.or_eq_true _ _ ▸ h with h | h
  · rw [den_closed h]; exact Vrel.closed_eq v v' h r
  · obtain ⟨i, rfl⟩ := isSym_spec h
    simp only [Vrel, true_implies] at r
    rw [r.1]; rfl

theorem Vrel.keyed_refl [Syms] (φ : Phi) {v : Value} (h : keyed v = true) : Vrel φ v (den v) := by
  unfold keyed at h
  rcases Bool.or_eq_true _ _ ▸ h with h | h
  · rw [den_closed h]; exact Vrel.closed_refl φ v h
  · obtain ⟨i, rfl⟩ := isSym_spec h
    simp [Vrel, den]

theorem Syms.cell [Syms] (i : Nat) : (Syms.val i).oneCell' = true ∧ (Syms.val i).cells = #[Syms.val i] ∧ closed (Syms.val i) = true := by
  have := Syms.plain i
  cases h : Syms.val i <;> rw [h] at this <;> simp [plainOut] at this <;> refine ⟨rfl, rfl, ?_⟩ <;> simp [closed]

end Go.Ab
