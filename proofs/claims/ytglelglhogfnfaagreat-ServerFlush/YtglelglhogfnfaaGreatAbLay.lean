/- Strings of which each byte is known, or is a symbol. -/
import Derived.Test.YtglelglhogfnfaaGreatAbNum
namespace Go.Ab

def findLay (i : Nat) : List (Nat × List Value) → Option (List Value)
  | [] => none
  | (j, l) :: r => bif Nat.beq j i then some l else findLay i r
def findStr (l : List Value) : List (Nat × List Value) → Option Value
  | [] => none
  | (j, m) :: r => bif vbeqL m l then some (.complex .f64 j 0) else findStr l r

def envL (E : Env) (L : List (Nat × List Value)) : Env := { E with lay := fun i => findLay i L, str := fun l => findStr l L }

variable {P : Program} {E : Env} {L : List (Nat × List Value)}

/-- Each row is right. -/
def LayOk [Syms] (L : List (Nat × List Value)) : Prop := ∀ r ∈ L, r.2.all keyed = true ∧ ∃ s : ByteArray, Syms.val r.1 = .string s ∧ r.2.map den = ofBytes s.data.toList

theorem findLay_spec [Syms] {i : Nat} {l : List Value} : ∀ {L : List (Nat × List Value)}, findLay i L = some l → (i, l) ∈ L
  | [], h => by cases h
  | (j, m) :: r, h => by
    unfold findLay at h
    cases hb : Nat.beq j i with
    | true => rw [hb] at h; cases h; obtain rfl := of_beqT hb; exact List.mem_cons_self
    | false => rw [hb] at h; exact List.mem_cons_of_mem _ (findLay_spec h)
theorem findStr_spec [Syms] {l : List Value} {v : Value} : ∀ {L : List (Nat × List Value)}, findStr l L = some v → ∃ j, v = .complex .f64 j 0 ∧ (j, l) ∈ L
  | [], h => by cases h
  | (j, m) :: r, h => by
    unfold findStr at h
    cases hb : vbeqL m l with
    | true => rw [hb] at h; cases h; rw [vbeqL_sound _ _ hb]; exact ⟨j, rfl, List.mem_cons_self⟩
    | false =>
      rw [hb] at h
      obtain ⟨k, h1, h2⟩ := findStr_spec h
      exact ⟨k, h1, List.mem_cons_of_mem _ h2⟩

theorem VrelL.keyed_refl [Syms] (φ : Phi) : ∀ {l : List Value}, l.all keyed = true → VrelL φ l (l.map den)
  | [], _ => VrelL.nil
  | v :: l, h => by
    simp only [List.all_cons, Bool.and_eq_true] at h
    exact VrelL.cons (Vrel.keyed_refl φ h.1) (VrelL.keyed_refl φ h.2)
theorem VrelL.keyed_eq [Syms] {φ : Phi} : ∀ {l l' : List Value}, l.all keyed = true → VrelL φ l l' → l' = l.map den
  | [], l', _, h => by simpa [VrelL] using h
  | v :: l, l', hk, h => by
    simp only [VrelL] at h
    obtain ⟨v', r, rfl, h1, h2⟩ := h
    simp only [List.all_cons, Bool.and_eq_true] at hk
    rw [List.map_cons, Vrel.keyed_eq hk.1 h1, VrelL.keyed_eq hk.2 h2]

theorem envL_ok [Syms] (hE : EnvOk P E) (hL : LayOk L) : EnvOk P (envL E L) := by
  refine ⟨hE.info, hE.shape, hE.func, hE.fields, hE.code, hE.mixed, hE.names, hE.ext, hE.zclosed, hE.sym, hE.keq, fun i l h => ?_, fun l v h => ?_, hE.sum⟩
  · obtain ⟨h1, s, h2, h3⟩ := hL _ (findLay_spec h)
    exact ⟨s, h2, fun φ => by rw [← h3]; exact VrelL.keyed_refl φ h1⟩
  · obtain ⟨j, rfl, hm⟩ := findStr_spec h
    obtain ⟨h1, s, h2, h3⟩ := hL _ hm
    exact ⟨s, fun φ => by rw [← h2]; simp [Vrel], fun φ l' hr => by rw [VrelL.keyed_eq h1 hr, h3]⟩

/-! ## What the symbols stand for -/

def byteV (f : Nat → Value) : Value → UInt8
  | .int _ n => UInt8.ofNat n.toNat
  | .complex .f64 i 0 => match f i with
    | .int _ n => UInt8.ofNat n.toNat
    | _ => 0
  | _ => 0
/-- The string of a row. -/
def strV (f : Nat → Value) (l : List Value) : ByteArray := ⟨(l.map (byteV f)).toArray⟩
/-- With the strings. -/
def valL (f : Nat → Value) (L : List (Nat × List Value)) (i : Nat) : Value :=
  match findLay i L with
  | some l => .string (strV f l)
  | none => f i

def isByte (f : Nat → Value) (L : List (Nat × List Value)) (v : Value) : Prop :=
  match v with
  | .int .u8 n => 0 ≤ n ∧ n < 256
  | .complex .f64 i 0 => findLay i L = none ∧ ∃ n, f i = .int .u8 n ∧ 0 ≤ n ∧ n < 256
  | _ => False

theorem toNat_byte {n : Int} (h0 : 0 ≤ n) (h1 : n < 256) : ((UInt8.ofNat n.toNat).toNat : Int) = n := by
  simp only [UInt8.toNat_ofNat']
  omega

theorem layOk_of [Syms] {f : Nat → Value} (hv : ∀ i, Syms.val i = valL f L i) (h : ∀ r ∈ L, findLay r.1 L = some r.2 ∧ ∀ v ∈ r.2, isByte f L v) : LayOk L := by
  intro r hr
  obtain ⟨h1, h2⟩ := h r hr
  refine ⟨?_, strV f r.2, by rw [hv]; unfold valL; rw [h1], ?_⟩
  · rw [List.all_eq_true]
    intro v hm
    have := h2 v hm
    unfold isByte at this
    split at this
    · simp [keyed, closed]
    · simp [keyed, closed, isSym]
    · exact this.elim
  · have : (strV f r.2).data.toList = r.2.map (byteV f) := by simp [strV]
    rw [this, ofBytes, List.map_map]
    refine List.map_congr_left fun v hm => ?_
    have := h2 v hm
    unfold isByte at this
    split at this
    · rename_i n
      obtain ⟨a, b⟩ := this
      exact congrArg (Value.int .u8) (toNat_byte a b).symm
    · rename_i i
      obtain ⟨a, n, b, c, d⟩ := this
      have h1 : den (.complex .f64 i 0) = .int .u8 n := by simp [den, hv, valL, a, b]
      have h2 : byteV f (.complex .f64 i 0) = UInt8.ofNat n.toNat := by simp [byteV, b]
      rw [h1]
      show Value.int .u8 n = Value.int .u8 ((byteV f (.complex .f64 i 0)).toNat : Int)
      rw [h2, toNat_byte c d]
    · exact this.elim

end Go.Ab
