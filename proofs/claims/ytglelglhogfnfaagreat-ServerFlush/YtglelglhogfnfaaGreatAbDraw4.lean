/- Drawn regions: the whole of them; all fuels. -/
import Derived.Test.YtglelglhogfnfaaGreatAbDraw3
import Derived.Test.YtglelglhogfnfaaGreatAbCall
import Derived.Orders
namespace Go.Ab

variable {P : Program} {E : Env}

/-- How many are left. -/
def cnt [Syms] (S : Nat → Bool) : Nat → Nat
  | 0 => 0
  | n + 1 => cnt S n + (if S n = true then 0 else 1)

theorem cnt_ins [Syms] {S : Nat → Bool} {j : Nat} (hS : S j = false) : ∀ {n : Nat}, (n ≤ j → cnt (ins S j) n = cnt S n) ∧ (j < n → cnt (ins S j) n + 1 = cnt S n)
  | 0 => ⟨fun _ => rfl, fun h => by omega⟩
  | n + 1 => by
    obtain ⟨h1, h2⟩ := cnt_ins (S := S) (j := j) hS (n := n)
    refine ⟨fun h => ?_, fun h => ?_⟩
    · simp only [cnt, h1 (by omega), ins_other S (show n ≠ j by omega)]
    · by_cases hn : n = j
      · subst hn
        simp only [cnt, h1 (Nat.le_refl _), ins_same, hS]
        simp
      · simp only [cnt, ins_other S hn]
        have := h2 (by omega)
        omega

theorem cnt_zero [Syms] {S : Nat → Bool} : ∀ {n : Nat}, cnt S n = 0 → ∀ i, i < n → S i = true
  | 0, _, i, h => by omega
  | n + 1, h, i, hi => by
    simp only [cnt] at h
    by_cases hn : i = n
    · subst hn
      cases hS : S i with
      | true => rfl
      | false => rw [hS] at h; simp at h
    · exact cnt_zero (S := S) (n := n) (by omega) i (by omega)

theorem cnt_empty [Syms] : ∀ (n : Nat), cnt (fun _ => false) n = n
  | 0 => rfl
  | n + 1 => by simp [cnt, cnt_empty n]

section
variable {n nn N : Nat} {ops : Array Oper} {rs : List Rec} {c0 : Cu} {φ0 : Phi} {w0 : World} {kind : KR} {cs0 : List Frame}

/-- All operations one behind the other, up to the end, or to the one that panics. -/
theorem run_draw [Syms] (D : Drawn P E n nn N ops rs c0) (hSS : ∀ m, m < n → SS P E m) {b : Frame} (hb : b.kr = kind) (k : List Item)
    (hleft : ∀ i, rs.length < i → i < ops.size → Nat.testBit ((bfGo [] ops.toList).getD i 0) rs.length = true) :
    ∀ (fuel t : Nat) (listed : Array Bool) (S : Nat → Bool) (φ : Phi) (w : World) (a : Act) (cs : List Frame) (p : Nat) (G : Nat → Option Blk),
      listed.size = ops.size → (∀ i, listed.getD i false = S i) → cnt S ops.size ≤ fuel → Inv P E n nn N ops rs c0 φ0 w0 kind cs0 S φ w a cs p G →
      ∃ S' φ' w' a' cs' p' G', Inv P E n nn N ops rs c0 φ0 w0 kind cs0 S' φ' w' a' cs' p' G' ∧
        ((Steps P (lone (b.atR a (.inRegion ops (Region.linearise.go .any ops fuel t listed []) :: k)) cs w) (lone (b.atR a' (.inRegion ops [] :: k)) cs' w') ∧ ∀ i, i < ops.size → S' i = true) ∨
        (∃ rest, Steps P (lone (b.atR a (.inRegion ops (Region.linearise.go .any ops fuel t listed []) :: k)) cs w) (lone (b.atR a' (.inRegion ops (rs.length :: rest) :: k)) cs' w') ∧ rs.length < ops.size ∧ S' rs.length = false ∧ Ready ops S' rs.length)) := by
  intro fuel
  induction fuel with
  | zero =>
    intro t listed S φ w a cs p G hsz hl hc I
    exact ⟨S, φ, w, a, cs, p, G, I, .inl ⟨by simp [Region.linearise.go]; exact Steps.refl _ _, cnt_zero (by omega)⟩⟩
  | succ fuel ih =>
    intro t listed S φ w a cs p G hsz hl hc I
    simp only [Region.linearise.go]
    have key : ∀ l : List Nat, l = (match (Region.ready .any ops listed)[t % (Region.ready .any ops listed).length]? with
      | some i => Region.linearise.go .any ops fuel (t / (Region.ready .any ops listed).length) (listed.setIfInBounds i true) [i]
      | none => [].reverse) → ∃ S' φ' w' a' cs' p' G', Inv P E n nn N ops rs c0 φ0 w0 kind cs0 S' φ' w' a' cs' p' G' ∧
        ((Steps P (lone (b.atR a (.inRegion ops l :: k)) cs w) (lone (b.atR a' (.inRegion ops [] :: k)) cs' w') ∧ ∀ i, i < ops.size → S' i = true) ∨
        (∃ rest, Steps P (lone (b.atR a (.inRegion ops l :: k)) cs w) (lone (b.atR a' (.inRegion ops (rs.length :: rest) :: k)) cs' w') ∧ rs.length < ops.size ∧ S' rs.length = false ∧ Ready ops S' rs.length)) := by
      intro l hl'
      cases hi : (Region.ready .any ops listed)[t % (Region.ready .any ops listed).length]? with
      | none =>
        have hnil : Region.ready .any ops listed = [] := by
          cases hr : Region.ready .any ops listed with
          | nil => rfl
          | cons x xs =>
            rw [hr] at hi
            have hlt : t % (x :: xs).length < (x :: xs).length := Nat.mod_lt _ (by simp)
            simp at hi
            simp at hlt
            omega
        rw [hi] at hl'
        simp only [List.reverse_nil] at hl'
        subst hl'
        refine ⟨S, φ, w, a, cs, p, G, I, .inl ⟨Steps.refl _ _, fun i => ?_⟩⟩
        induction i using Nat.strongRecOn with
        | _ i ihi =>
          intro hlt
          cases hS : S i with
          | true => rfl
          | false =>
            have ho : ops[i]? = some ops[i] := Array.getElem?_eq_getElem hlt
            have : i ∈ Region.ready .any ops listed := mem_ready.2 ⟨by
              have := hl i
              rw [hS] at this
              rw [Array.getD_eq_getD_getElem?] at this ⊢
              rw [Array.getElem?_eq_getElem (by omega)] at this ⊢
              simpa using this, _, ho, fun e he hb' => by
              have hlt' := (regionOk_spec D.ord).1 i _ ho e (Array.mem_toList_iff.2 he) hb'
              rw [hl]
              exact ihi e.on hlt' (by omega)⟩
            rw [hnil] at this
            cases this
      | some i =>
        rw [hi] at hl'
        simp only at hl'
        rw [linearise_go_acc, List.reverse_singleton, List.singleton_append] at hl'
        subst hl'
        obtain ⟨hun, o, ho, hrd⟩ := mem_ready.1 (List.mem_of_getElem? hi)
        have hlt : i < ops.size := (Array.getElem?_eq_some_iff.1 ho).1
        have hSi : S i = false := by
          rw [← hl i]
          rw [Array.getD_eq_getD_getElem?] at hun ⊢
          rw [Array.getElem?_eq_getElem (by omega)] at hun ⊢
          simpa using hun
        have hready : Ready ops S i := fun o' ho' e he hb' => by
          rw [ho] at ho'
          cases ho'
          rw [← hl]
          exact hrd e (Array.mem_toList_iff.1 he) hb'
        rcases Nat.lt_trichotomy i rs.length with hlr | hlr | hlr
        · obtain ⟨φ1, w1, a1, cs1, p1, G1, s1, I1⟩ := I.step D (List.getElem?_eq_getElem hlr) hSi hready hSS hb (Region.linearise.go .any ops fuel (t / (Region.ready .any ops listed).length) (listed.setIfInBounds i true) []) k
          have hcnt := (cnt_ins hSi (n := ops.size)).2 hlt
          obtain ⟨S', φ', w', a', cs', p', G', I', h⟩ := ih (t / (Region.ready .any ops listed).length) (listed.setIfInBounds i true) (ins S i) φ1 w1 a1 cs1 p1 G1 (by simp [hsz]) (fun m => by
            by_cases hm : m = i
            · subst hm
              rw [ins_same, Array.getD_eq_getD_getElem?]
              simp [hsz, hlt]
            · rw [ins_other S hm, ← hl m, getD_set_ne false (Ne.symm hm)]) (by omega) I1
          refine ⟨S', φ', w', a', cs', p', G', I', ?_⟩
          rcases h with ⟨h1, h2⟩ | ⟨rest, h1, h2⟩
          · exact .inl ⟨s1.trans h1, h2⟩
          · exact .inr ⟨rest, s1.trans h1, h2⟩
        · subst hlr
          exact ⟨S, φ, w, a, cs, p, G, I, .inr ⟨_, Steps.refl _ _, hlt, hSi, hready⟩⟩
        · have h1 := ahead I.closed (hleft i hlr hlt) hready
          have := I.low _ h1
          omega
    exact key _ rfl

end

theorem poisoned_get [Syms] : ∀ (rs : List Rec) (τ : Tr Value) (t : Nat), ((∃ (k : Nat) (r : Rec), rs[k]? = some r ∧ r.k ≠ .eff ∧ r.o.dst = some t) ∧ (poisoned rs τ).get t = some poison) ∨
    ((∀ (k : Nat) (r : Rec), rs[k]? = some r → r.o.dst = some t → r.k = .eff) ∧ (poisoned rs τ).get t = τ.get t) ∨ ((poisoned rs τ).get t = some poison)
  | [], τ, t => .inr (.inl ⟨fun k r h => by simp at h, rfl⟩)
  | r :: rs, τ, t => by
    rw [poisoned]
    have cons : ∀ τ' : Tr Value, (r.o.dst = some t → r.k = .eff ∨ τ'.get t = some poison) → (τ'.get t = some poison ∨ τ'.get t = τ.get t) → 
        ((∃ (k : Nat) (r' : Rec), (r :: rs)[k]? = some r' ∧ r'.k ≠ .eff ∧ r'.o.dst = some t) ∧ (poisoned rs τ').get t = some poison) ∨
        ((∀ (k : Nat) (r' : Rec), (r :: rs)[k]? = some r' → r'.o.dst = some t → r'.k = .eff) ∧ (poisoned rs τ').get t = τ.get t) ∨ ((poisoned rs τ').get t = some poison) := by
      intro τ' h1 h2
      rcases poisoned_get rs τ' t with ⟨⟨k, r', g1, g2⟩, g3⟩ | ⟨g1, g2⟩ | g
      · exact .inr (.inr g3)
      · rcases h2 with h2 | h2
        · exact .inr (.inr (g2.trans h2))
        · by_cases hp : τ'.get t = some poison
          · exact .inr (.inr (g2.trans hp))
          · refine .inr (.inl ⟨fun k r' hk hd => ?_, g2.trans h2⟩)
            cases k with
            | zero =>
              simp only [List.getElem?_cons_zero, Option.some.injEq] at hk
              subst hk
              exact (h1 hd).resolve_right hp
            | succ k =>
              simp only [List.getElem?_cons_succ] at hk
              exact g1 k r' hk hd
      · exact .inr (.inr g)
    split
    · rename_i hk
      exact cons τ (fun _ => .inl hk) (.inr rfl)
    · rename_i d hd hk
      refine cons _ (fun h => .inr ?_) ?_
      · rw [hd] at h; cases h; rw [Tr.get_set, if_pos rfl]
      · rw [Tr.get_set]; split
        · exact .inl rfl
        · exact .inr rfl
    · rename_i hd hk
      exact cons τ (fun h => by rw [hd] at h; cases h) (.inr rfl)

end Go.Ab
