/- ServerFlush (loggialaw26): for every two tags, done ahead or not, the law returns true, and leaves what was there. No condition. -/
import Derived.Test.YtglelglhogfnfaaGreatSfRuns1
import Derived.Test.YtglelglhogfnfaaGreatSfRuns2
import Derived.Test.YtglelglhogfnfaaGreatSfRuns3
import Derived.Test.YtglelglhogfnfaaGreatSfKeys
import Derived.Test.YtglelglhogfnfaaGreatAbPost
import Derived.WalkKit
import Derived.ProofKit
import Derived.OpenShut
namespace Go.Proofs.YtglelglhogfnfaaGreat.serverFlush
open Go.ChangeShapes Go.WideShapes Go.ChangeAt Go.RowKit Go.Ab
open Go.Proofs.YtglelglhogfnfaaGreat.runs

theorem own : ownKnob Tryz.prog.godebug = none := by kernel_rfl
theorem b1 : Tryz.f354.body.isNone = true := by kernel_rfl
theorem b2 : (Extern.findNext Tryz.f354).isNone = true := by kernel_rfl
theorem b3 : Extern.find Tryz.f354 = some Extern.BytealgIndexByte.indexByte := by kernel_rfl

/-- What the symbols stand for, but for the strings. -/
noncomputable def valOf (a b : Nat) : Nat → Value
  | 0 => .int .u16 a
  | 1 => .int .u16 b
  | 2 => .int .u64 a
  | 3 => .int .u64 b
  | 4 => .int .u64 (a / 256 : Nat)
  | 5 => .int .u64 (b / 256 : Nat)
  | 6 => .int .u8 (a % 256 : Nat)
  | 7 => .int .u8 (b % 256 : Nat)
  | 8 => .int .u8 (a / 256 % 256 : Nat)
  | 9 => .int .u8 (b / 256 % 256 : Nat)
  | 10 => .int .u64 (a % 256 : Nat)
  | 11 => .int .u64 (b % 256 : Nat)
  | 12 => .int .u64 (a / 256 * 256 : Nat)
  | 13 => .int .u64 (b / 256 * 256 : Nat)
  | _ => .bool true

noncomputable abbrev symsOf (a b : Nat) : Syms := ⟨fun i => valL (valOf a b) lays i, fun i => by
  show plainOut (valL (valOf a b) lays i) = true
  unfold valL
  split
  · rfl
  · unfold valOf; split <;> rfl⟩

set_option maxRecDepth 100000 in
theorem envOk0 [Syms] {sm : Nat → List Value → St → Option (Value × St)} (hs : SumOk Tryz.prog sm) : EnvOk Tryz.prog (envOf Tryz.prog 510 354 (fun _ _ => none) noKeq sm) :=
  envOf_ok (fb := Tryz.f354) t4 t5 t1 t2 t3 t6 Tryz.func354 b1 (Option.isNone_iff_eq_none.1 b2) b3 (SymOk.none _) hs

set_option maxRecDepth 100000 in
theorem envOk [Syms] {T : SymTab} {sm : Nat → List Value → St → Option (Value × St)} (hT : SymOk Tryz.prog (symOf T) keq) (hs : SumOk Tryz.prog sm) : EnvOk Tryz.prog (envOf Tryz.prog 510 354 (symOf T) keq sm) :=
  envOf_ok (fb := Tryz.f354) t4 t5 t1 t2 t3 t6 Tryz.func354 b1 (Option.isNone_iff_eq_none.1 b2) b3 hT hs

theorem sumKOk [Syms] : SumOk Tryz.prog runs.sumK := by
  refine ⟨fun f args σ v σ' h φ w args' r ha hf => ?_⟩
  unfold runs.sumK at h
  cases hb : Nat.beq f 40 with
  | false => rw [hb] at h; cases h
  | true =>
    rw [hb] at h
    obtain rfl := of_beqT hb
    exact sumKeys_sound (fS := 40) (it := 77) (kt := 3) Tryz.underlying3 keys.sorted h φ w args' r ha hf

theorem known [Syms] (w : World) : Calls Tryz.prog 4 #[] w fun e w' => e = .returned (.bool true) ∧ Below w.heap.size w w' := by
  obtain ⟨par, σ, h⟩ := okRet_spec knows
  obtain ⟨n, h⟩ := callF_of_lv h (fun _ e => by cases e)
  exact calls_true (envOk0 sumKOk) (args := []) VrelL.nil h w

theorem sumOk [Syms] : SumOk Tryz.prog sum := by
  refine ⟨fun f args σ v σ' h φ w args' r ha hf => ?_⟩
  unfold sum at h
  cases hb : (Nat.beq f 4 && args.isEmpty) with
  | false => rw [hb] at h; exact sumKOk.sum f args σ v σ' h φ w args' r ha hf
  | true =>
    rw [hb] at h
    cases h
    simp only [Bool.and_eq_true, List.isEmpty_iff] at hb
    obtain ⟨hb, rfl⟩ := hb
    obtain rfl := of_beqT hb
    simp only [VrelL] at ha
    obtain rfl : args' = #[] := by simpa using ha
    exact calls_still r ((known w).mono fun e w' ⟨he, hb⟩ => ⟨⟨_, he, by simp [Vrel]⟩, hb⟩)

section
variable (a b : Nat)

theorem u22 : E0.under 22 = some (.int .u16) := by kernel_rfl
theorem u28 : E0.under 28 = some (.int .u64) := by kernel_rfl
theorem u5 : E0.under 5 = some (.int .u8) := by kernel_rfl

theorem conv_nat {s d : Nat} {k k' : IntKind} {m n : Nat} (hs : ∃ t, E0.under s = some t) (hd : E0.under d = some (.int k)) (h : k.wrap (m : Int) = (n : Int)) : convD E0 s d (.int k' (m : Int)) = some (.int k (n : Int)) := by
  obtain ⟨t, hs⟩ := hs
  simp only [convD, hs, hd, h]

theorem wrap8 (n : Nat) : IntKind.u8.wrap (n : Int) = ((n % 256 : Nat) : Int) := by simp [IntKind.wrap, IntKind.bits, IntKind.signed]

theorem or16 {m : Nat} (hm : m < 65536) : m % 256 ||| m / 256 * 256 = m := (show m % 256 ||| m / 256 * 256 = m % 256 + m / 256 * 256 from or_parts 8 (by omega)).trans (by omega)

theorem encB_ok (ha : a < 65536) (hb : b < 65536) : letI := symsOf a b; ∀ r ∈ encB, keyed r.2.1 = true ∧ keyed r.2.2.1 = true ∧ keyed r.2.2.2 = true ∧ binD r.1 (den r.2.1) (den r.2.2.1) = some (den r.2.2.2) := by
  letI := symsOf a b
  unfold encB
  refine all_cons ⟨rfl, rfl, rfl, ?_⟩ (all_cons ⟨rfl, rfl, rfl, ?_⟩ (all_cons ⟨rfl, rfl, rfl, ?_⟩ (all_cons ⟨rfl, rfl, rfl, ?_⟩ (all_cons ⟨rfl, rfl, rfl, ?_⟩ (all_cons ⟨rfl, rfl, rfl, ?_⟩ (all_cons ⟨rfl, rfl, rfl, ?_⟩ (all_cons ⟨rfl, rfl, rfl, ?_⟩
    (all_cons ⟨rfl, rfl, rfl, ?_⟩ (all_cons ⟨rfl, rfl, rfl, ?_⟩ (all_cons ⟨rfl, rfl, rfl, ?_⟩ (all_cons ⟨rfl, rfl, rfl, ?_⟩ (all_cons ⟨rfl, rfl, rfl, ?_⟩ (all_cons ⟨rfl, rfl, rfl, ?_⟩ (all_cons ⟨rfl, rfl, rfl, ?_⟩ (all_cons ⟨rfl, rfl, rfl, ?_⟩ all_nil)))))))))))))))
  · exact (shr_u64 a 0 .u64 (by omega)).trans (by rw [Nat.pow_zero, Nat.div_one]; rfl)
  · exact (shr_u64 b 0 .u64 (by omega)).trans (by rw [Nat.pow_zero, Nat.div_one]; rfl)
  · exact shr_u64 a 8 .u64 (by omega)
  · exact shr_u64 b 8 .u64 (by omega)
  · exact (shr_u64 a 0 .i64 (by omega)).trans (by rw [Nat.pow_zero, Nat.div_one]; rfl)
  · exact (shr_u64 b 0 .i64 (by omega)).trans (by rw [Nat.pow_zero, Nat.div_one]; rfl)
  · exact shr_u64 a 8 .i64 (by omega)
  · exact shr_u64 b 8 .i64 (by omega)
  · exact (shl_u64 (a % 256) 0 .i64 (by omega) (by omega)).trans (by rw [Nat.pow_zero, Nat.mul_one]; rfl)
  · exact (shl_u64 (b % 256) 0 .i64 (by omega) (by omega)).trans (by rw [Nat.pow_zero, Nat.mul_one]; rfl)
  · exact shl_u64 (a / 256) 8 .i64 (by omega) (by omega)
  · exact shl_u64 (b / 256) 8 .i64 (by omega) (by omega)
  · refine (or_u64 0 (a % 256) (by omega) (by omega) (by rw [Nat.zero_or]; omega)).trans ?_
    rw [Nat.zero_or]; rfl
  · refine (or_u64 0 (b % 256) (by omega) (by omega) (by rw [Nat.zero_or]; omega)).trans ?_
    rw [Nat.zero_or]; rfl
  · refine (or_u64 (a % 256) (a / 256 * 256) (by omega) (by omega) (by rw [or16 ha]; omega)).trans ?_
    rw [or16 ha]; rfl
  · refine (or_u64 (b % 256) (b / 256 * 256) (by omega) (by omega) (by rw [or16 hb]; omega)).trans ?_
    rw [or16 hb]; rfl

theorem encC_ok (ha : a < 65536) (hb : b < 65536) : letI := symsOf a b; ∀ r ∈ encC, keyed r.2.2.1 = true ∧ keyed r.2.2.2 = true ∧ convD E0 r.1 r.2.1 (den r.2.2.1) = some (den r.2.2.2) := by
  letI := symsOf a b
  unfold encC
  refine all_cons ⟨rfl, rfl, ?_⟩ (all_cons ⟨rfl, rfl, ?_⟩ (all_cons ⟨rfl, rfl, ?_⟩ (all_cons ⟨rfl, rfl, ?_⟩ (all_cons ⟨rfl, rfl, ?_⟩ (all_cons ⟨rfl, rfl, ?_⟩ (all_cons ⟨rfl, rfl, ?_⟩ (all_cons ⟨rfl, rfl, ?_⟩ (all_cons ⟨rfl, rfl, ?_⟩ (all_cons ⟨rfl, rfl, ?_⟩ (all_cons ⟨rfl, rfl, ?_⟩ (all_cons ⟨rfl, rfl, ?_⟩ all_nil)))))))))))
  · exact conv_nat ⟨_, u22⟩ u28 (fit_u64 (by omega) (by omega))
  · exact conv_nat ⟨_, u22⟩ u28 (fit_u64 (by omega) (by omega))
  · exact conv_nat ⟨_, u28⟩ u5 (wrap8 a)
  · exact conv_nat ⟨_, u28⟩ u5 (wrap8 b)
  · exact conv_nat ⟨_, u28⟩ u5 (wrap8 (a / 256))
  · exact conv_nat ⟨_, u28⟩ u5 (wrap8 (b / 256))
  · exact conv_nat ⟨_, u5⟩ u28 (fit_u64 (by omega) (by omega))
  · exact conv_nat ⟨_, u5⟩ u28 (fit_u64 (by omega) (by omega))
  · refine conv_nat (n := a / 256) ⟨_, u5⟩ u28 ?_
    rw [show a / 256 % 256 = a / 256 by omega]
    exact fit_u64 (by omega) (by omega)
  · refine conv_nat (n := b / 256) ⟨_, u5⟩ u28 ?_
    rw [show b / 256 % 256 = b / 256 by omega]
    exact fit_u64 (by omega) (by omega)
  · exact conv_nat ⟨_, u28⟩ u22 (fit_u16 (by omega) (by omega))
  · exact conv_nat ⟨_, u28⟩ u22 (fit_u16 (by omega) (by omega))

theorem tabOk (ha : a < 65536) (hb : b < 65536) (hab : a ≠ b) : letI := symsOf a b; tab.Ok Tryz.prog E0 := by
  letI := symsOf a b
  have v0 : Syms.val 0 = .int .u16 a := rfl
  have v1 : Syms.val 1 = .int .u16 b := rfl
  refine ⟨?_, all_nil, encC_ok a b ha hb, all_nil, all_nil, all_nil, all_nil, all_nil⟩
  refine all_cons ⟨rfl, rfl, rfl, ?_⟩ (all_cons ⟨rfl, rfl, rfl, ?_⟩ (all_cons ⟨rfl, rfl, rfl, ?_⟩ (all_cons ⟨rfl, rfl, rfl, ?_⟩ (all_cons ⟨rfl, rfl, rfl, ?_⟩ (encB_ok a b ha hb)))))
  · simp [den, binD, v0, v1, intBin]; omega
  · simp [den, binD, v0, v1, intBin]; omega
  · simp [den, binD, v0, v1, intBin]
  · simp [den, binD, v0, v1, intBin]
  · have v22 : ∃ s : ByteArray, Syms.val 22 = .string s := ⟨_, rfl⟩
    obtain ⟨s, v22⟩ := v22
    simp only [den, v22, binD, strBin, bytesEq_refl]
    rfl

theorem tabEOk : letI := symsOf a b; tabE.Ok Tryz.prog E0 := by
  letI := symsOf a b
  have v0 : Syms.val 0 = .int .u16 a := rfl
  refine ⟨?_, all_nil, all_nil, all_nil, all_nil, all_nil, all_nil, all_nil⟩
  refine all_cons ⟨rfl, rfl, rfl, ?_⟩ all_nil
  simp [den, binD, v0, intBin]

theorem le_one {i : Nat} (h : Nat.ble i 1 = true) : i = 0 ∨ i = 1 := by have := Nat.le_of_ble_eq_true h; omega

theorem keqOk (hab : a ≠ b) : letI := symsOf a b; ∀ t x y r, keq t x y = some r → keyed x = true ∧ keyed y = true ∧ (match t with
    | true => ∃ k m n, den x = .int k m ∧ den y = .int k n ∧ r = (m == n)
    | false => ∃ m n, den x = .string m ∧ den y = .string n ∧ r = (m == n)) := by
  letI := symsOf a b
  intro t x y r h
  have v0 : Syms.val 0 = .int .u16 a := rfl
  have v1 : Syms.val 1 = .int .u16 b := rfl
  unfold keq at h
  split at h
  · rename_i i j
    cases hb : (Nat.ble i 1 && Nat.ble j 1) with
    | false => rw [hb] at h; cases h
    | true =>
      rw [hb] at h
      simp only [cond_true, Option.some.injEq] at h
      simp only [Bool.and_eq_true] at hb
      refine ⟨rfl, rfl, ?_⟩
      have n1 : ((a : Int) == (b : Int)) = false := by rw [beq_eq_false_iff_ne]; omega
      have n2 : ((b : Int) == (a : Int)) = false := by rw [beq_eq_false_iff_ne]; omega
      rcases le_one hb.1 with rfl | rfl <;> rcases le_one hb.2 with rfl | rfl
      · exact ⟨.u16, a, a, v0, v0, by rw [← h]; simp⟩
      · exact ⟨.u16, a, b, v0, v1, by rw [← h, n1]; rfl⟩
      · exact ⟨.u16, b, a, v1, v0, by rw [← h, n2]; rfl⟩
      · exact ⟨.u16, b, b, v1, v1, by rw [← h]; simp⟩
  · cases h

theorem laysOk (ha : a < 65536) (hb : b < 65536) : letI := symsOf a b; LayOk lays := by
  letI := symsOf a b
  refine layOk_of (f := valOf a b) (fun _ => rfl) ?_
  have lit : ∀ n : Int, 0 ≤ n → n < 256 → isByte (valOf a b) lays (B n) := fun n h1 h2 => ⟨h1, h2⟩
  have l6 : isByte (valOf a b) lays (S 6) := ⟨rfl, _, rfl, by omega, by omega⟩
  have l7 : isByte (valOf a b) lays (S 7) := ⟨rfl, _, rfl, by omega, by omega⟩
  have l8 : isByte (valOf a b) lays (S 8) := ⟨rfl, _, rfl, by omega, by omega⟩
  have l9 : isByte (valOf a b) lays (S 9) := ⟨rfl, _, rfl, by omega, by omega⟩
  unfold lays
  refine all_cons ⟨rfl, ?_⟩ (all_cons ⟨rfl, ?_⟩ (all_cons ⟨rfl, ?_⟩ (all_cons ⟨rfl, ?_⟩ all_nil)))
  all_goals repeat' first | exact all_nil | refine all_cons ?_ ?_
  all_goals first | exact l6 | exact l7 | exact l8 | exact l9 | exact lit _ (by decide) (by decide)

set_option maxRecDepth 100000 in
theorem walkN (ha : a < 65536) (hb : b < 65536) (d : Bool) (w : World) : Calls Tryz.prog 3 #[.int .u16 a, .int .u16 b, .bool d] w fun e w' => e = .returned (.bool true) ∧ Below w.heap.size w w' := by
  by_cases hab : a = b
  · subst hab
    obtain ⟨c, hc, hac⟩ : ∃ c, c < 65536 ∧ a ≠ c := by
      by_cases h0 : a = 0
      · exact ⟨1, by omega, by omega⟩
      · exact ⟨0, by omega, h0⟩
    letI := symsOf a c
    have hr : run tabE [S 0, S 0, .bool d] = true := by cases d <;> first | exact runET | exact runEF
    obtain ⟨par, σ, h⟩ := okRet_spec hr
    obtain ⟨n, h⟩ := callF_of_lv h (fun _ e => by cases e)
    exact calls_true (envL_ok (envOk ⟨symOf_ok (envOk0 sumKOk) (tabEOk a c), keqOk a c hac⟩ sumOk) (laysOk a c ha hc)) (VrelL.cons (v' := .int .u16 (a : Int)) (by simp [Vrel]; rfl) (VrelL.cons (v' := .int .u16 (a : Int)) (by simp [Vrel]; rfl) (VrelL.cons (v' := .bool d) (by simp [Vrel]) VrelL.nil))) h w
  · letI := symsOf a b
    have hr : run tab [S 0, S 1, .bool d] = true := by cases d <;> first | exact run1 | exact run2
    obtain ⟨par, σ, h⟩ := okRet_spec hr
    obtain ⟨n, h⟩ := callF_of_lv h (fun _ e => by cases e)
    exact calls_true (envL_ok (envOk ⟨symOf_ok (envOk0 sumKOk) (tabOk a b ha hb hab), keqOk a b hab⟩ sumOk) (laysOk a b ha hb)) (VrelL.cons (v' := .int .u16 (a : Int)) (by simp [Vrel]; rfl) (VrelL.cons (v' := .int .u16 (b : Int)) (by simp [Vrel]; rfl) (VrelL.cons (v' := .bool d) (by simp [Vrel]) VrelL.nil))) h w
end

theorem walk {m n : Int} (w0 : (Lit.int .u16 m).wf = true) (w1 : (Lit.int .u16 n).wf = true) (d : Bool) (w : World) :
    Calls Tryz.prog 3 #[.int .u16 m, .int .u16 n, .bool d] w fun e w' => e = .returned (.bool true) ∧ Below w.heap.size w w' := by
  have h0 : 0 ≤ m ∧ m ≤ 65535 := by
    simp only [Lit.wf, Bool.and_eq_true, decide_eq_true_eq] at w0
    simpa [IntKind.min, IntKind.max, IntKind.bits, IntKind.signed] using w0
  have h1 : 0 ≤ n ∧ n ≤ 65535 := by
    simp only [Lit.wf, Bool.and_eq_true, decide_eq_true_eq] at w1
    simpa [IntKind.min, IntKind.max, IntKind.bits, IntKind.signed] using w1
  obtain ⟨a, rfl⟩ := Int.eq_ofNat_of_zero_le h0.1
  obtain ⟨b, rfl⟩ := Int.eq_ofNat_of_zero_le h1.1
  exact walkN a b (by omega) (by omega) d w

set_option maxRecDepth 100000 in
theorem lifted (os : Os) (started : os.Started) (H : Type) (enc : TypeId × Value → H) :
    ReturnsInHanded {} Tryz.checked os 3 .any (Rows.serverFlushSpec.pre6 enc Tryz.prog Tryz.f3 Rows.serverFlushRow.domain false) (Rows.serverFlushSpec.post enc Tryz.prog Tryz.f3 false true false false) := by
  refine returnsInHanded_of_change (C := Tryz.checked) own started (by kernel_rfl) Tryz.func3
    (ChangeSpec.witness6 (enc := enc) (C := Tryz.checked) false ⟨#[], #[.int .u16 0, .int .u16 0, .bool false], []⟩ 8 (by kernel_rfl) (by kernel_rfl) (by kernel_rfl) (by kernel_rfl)) ?_
  intro W base args ds gs before hval0 hW hcnd _
  have hval : ∀ (j : Nat) t v, Tryz.f3.params[j]? = some t → args[j]? = some v → Value.okWide Tryz.prog W .any base t v := hval0
  have hW' := hW
  obtain ⟨p, q, hA0, hV, rfl, hfz, hnd⟩ := hW
  have hA : DataW.TrodAll enc Tryz.prog W 0 (fun _ => true) true Tryz.f3.params.toList args.toList ds p := hA0
  rw [Tryz.params3] at hA hval
  obtain ⟨v0, vs0, d0, ds0, p0, q0, hargs, rfl, rfl, h0, r0⟩ := trodAll_cons hA
  obtain ⟨v1, vs1, d1, ds1, p1, q1, rfl, rfl, rfl, h1, r1⟩ := trodAll_cons r0
  obtain ⟨v2, vs2, d2, ds2, p2, q2, rfl, rfl, rfl, h2, r2⟩ := trodAll_cons r1
  obtain ⟨rfl, rfl, rfl⟩ := trodAll_nil r2
  obtain rfl : args = #[v0, v1, v2] := by cases args; simp_all
  obtain ⟨rfl, rfl⟩ := trodVars_none hV
  obtain ⟨a0, rfl, rfl, rfl, w0⟩ := open_int Tryz.underlying22 (hval 0 22 v0 rfl rfl) h0
  obtain ⟨a1, rfl, rfl, rfl, w1⟩ := open_int Tryz.underlying22 (hval 1 22 v1 rfl rfl) h1
  obtain ⟨a2, rfl, rfl, rfl⟩ := open_bool Tryz.underlying4 (hval 2 4 v2 rfl rfl) h2
  clear hA0 hval0
  simp only [List.append_nil] at hW'
  refine (walk w0 w1 a2 W).mono fun e W' ⟨he, hg⟩ => ?_
  subst he
  refine ⟨_, rfl, post_none hW' (fun _ _ _ => (trodAll_cons_mk (shut_bool Tryz.underlying4 _) trodAll_mk0))
    (fun sp _ => (trodAll_cons_mk (shut_int Tryz.underlying22 w0) (trodAll_cons_mk (shut_int Tryz.underlying22 w1) (trodAll_cons_mk (shut_bool Tryz.underlying4 _) trodAll_mk0)))) (fun _ _ => rfl)
    (hg.frame _) (ok_one (by kernel_rfl) rfl (okWide_bool_mk Tryz.underlying4 _))⟩

set_option maxHeartbeats 20000000 in
set_option maxRecDepth 100000 in
theorem facts : joinedFacts Tryz.prog 3 Tryz.f3 Rows.serverFlushSpec Rows.serverFlushRow = true := by
  unfold joinedFacts
  simp only [Bool.and_eq_true]
  repeat' apply And.intro
  all_goals as_aux_lemma => kernel_rfl

theorem wrap : Tryz.f3.isWrapper Tryz.prog Rows.serverFlushRow.wrapper Rows.serverFlushRow.mainSum := by
  unfold Func.isWrapper; first | (rw [if_pos (by decide +kernel)]; kernel_rfl) | (rw [if_neg (by decide +kernel)]; exact ⟨rfl, rfl⟩)

theorem inst : decide (Tryz.f3.isInstance Tryz.prog Rows.serverFlushRow.origin Rows.serverFlushRow.targs) = true := by kernel_rfl
theorem named : Tryz.prog.funcNamed Rows.serverFlushRow.func = some 3 := by kernel_rfl

theorem over : Rows.serverFlushRow.holds Tryz.pinned (OpenSpec.ofChange Rows.serverFlushSpec) :=
  OpenClaim.holds_of_wide 3 Tryz.f3 rfl rfl rfl rfl rfl rfl rfl ⟨rfl, rfl, rfl, rfl, rfl⟩ rfl rfl rfl rfl rfl named Tryz.func3 facts
    (of_decide_eq_true inst) wrap
    (fun os started H enc _ => lifted os started H enc)

theorem proved : Rows.ServerFlushSaid :=
  over
#print axioms proved
end Go.Proofs.YtglelglhogfnfaaGreat.serverFlush
