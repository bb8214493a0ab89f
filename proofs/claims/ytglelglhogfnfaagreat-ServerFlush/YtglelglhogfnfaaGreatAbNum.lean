/- Numbers that fit are not wrapped. -/
import Derived.Test.YtglelglhogfnfaaGreatAbSym
namespace Go.Ab

theorem fit_i64 {n : Int} (h : -9223372036854775808 ≤ n) (h' : n < 9223372036854775808) : IntKind.i64.wrap n = n := by
  simp [IntKind.wrap, IntKind.bits, IntKind.signed]; omega
theorem fit_u64 {n : Int} (h : 0 ≤ n) (h' : n < 18446744073709551616) : IntKind.u64.wrap n = n := by
  simp [IntKind.wrap, IntKind.bits, IntKind.signed]; omega
theorem fit_u32 {n : Int} (h : 0 ≤ n) (h' : n < 4294967296) : IntKind.u32.wrap n = n := by
  simp [IntKind.wrap, IntKind.bits, IntKind.signed]; omega
theorem fit_u16 {n : Int} (h : 0 ≤ n) (h' : n < 65536) : IntKind.u16.wrap n = n := by
  simp [IntKind.wrap, IntKind.bits, IntKind.signed]; omega
theorem fit_u8 {n : Int} (h : 0 ≤ n) (h' : n < 256) : IntKind.u8.wrap n = n := by
  simp [IntKind.wrap, IntKind.bits, IntKind.signed]; omega

/-- Each of some rows is right: one after the other. -/
theorem all_nil {α : Type} {p : α → Prop} : ∀ r ∈ ([] : List α), p r := fun _ h => by cases h
theorem all_cons {α : Type} {p : α → Prop} {a : α} {l : List α} (h : p a) (k : ∀ r ∈ l, p r) : ∀ r ∈ a :: l, p r := fun r hr => by
  rcases List.mem_cons.1 hr with rfl | hr
  · exact h
  · exact k r hr

theorem bytesEq_refl : ∀ l : List UInt8, bytesEq l l = true
  | [] => rfl
  | a :: l => by simp [bytesEq, bytesEq_refl l]
theorem bytesEq_nil {l : List UInt8} (h : l.length ≠ 0) : bytesEq l [] = false := by cases l <;> simp_all [bytesEq]


/-! ## Bytes of numbers -/

theorem fdiv_nat (m k : Nat) : Int.fdiv (m : Int) (k : Int) = ((m / k : Nat) : Int) := by
  rw [Int.fdiv_eq_ediv_of_nonneg _ (by omega)]; rfl

theorem shr_u64 (m k : Nat) (k' : IntKind) (hk : k ≤ 64) : intBin .shr .u64 (m : Int) k' (k : Int) = some (.int .u64 ((m / 2 ^ k : Nat) : Int)) := by
  have h1 : ((k : Int) < 0) = False := by simp
  have h2 : (min (k : Int).toNat IntKind.u64.bits) = k := by show min ((k : Int).toNat) 64 = k; omega
  have h3 : ((2 : Int) ^ k) = ((2 ^ k : Nat) : Int) := by simp
  simp only [intBin, h1, decide_false, cond_false]
  rw [h2, h3, fdiv_nat]

theorem shl_u64 (m k : Nat) (k' : IntKind) (hk : k ≤ 64) (h : m * 2 ^ k < 18446744073709551616) : intBin .shl .u64 (m : Int) k' (k : Int) = some (.int .u64 ((m * 2 ^ k : Nat) : Int)) := by
  have h1 : ((k : Int) < 0) = False := by simp
  have h2 : (min (k : Int).toNat IntKind.u64.bits) = k := by show min ((k : Int).toNat) 64 = k; omega
  have h3 : ((m : Int) * (2 : Int) ^ k) = ((m * 2 ^ k : Nat) : Int) := by simp
  simp only [intBin, h1, decide_false, cond_false]
  rw [h2, h3, fit_u64 (by omega) (by omega)]

theorem or_u64 (x y : Nat) (hx : x < 18446744073709551616) (hy : y < 18446744073709551616) (hxy : x ||| y < 18446744073709551616) : intBin .or .u64 (x : Int) .u64 (y : Int) = some (.int .u64 ((x ||| y : Nat) : Int)) := by
  have h1 : (BitVec.ofInt 64 (x : Int)).toNat = x := by simp; omega
  have h2 : (BitVec.ofInt 64 (y : Int)).toNat = y := by simp; omega
  simp only [intBin, if_true]
  have : (BitVec.ofInt IntKind.u64.bits (x : Int) ||| BitVec.ofInt IntKind.u64.bits (y : Int)).toNat = x ||| y := by
    rw [BitVec.toNat_or]
    show (BitVec.ofInt 64 (x : Int)).toNat ||| (BitVec.ofInt 64 (y : Int)).toNat = _
    rw [h1, h2]
  rw [this, fit_u64 (by omega) (by omega)]

theorem or_parts {x q : Nat} (i : Nat) (hx : x < 2 ^ i) : x ||| (q * 2 ^ i) = x + q * 2 ^ i := by
  rw [Nat.or_comm, Nat.mul_comm q, ← Nat.two_pow_add_eq_or_of_lt hx, Nat.add_comm]

end Go.Ab
