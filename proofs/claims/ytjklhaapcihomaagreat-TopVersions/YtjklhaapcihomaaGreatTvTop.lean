/- TopVersions (loggiatop): for every size and both words the law returns true, and leaves what was there. No condition. -/
import Derived.Test.YtjklhaapcihomaaGreatTvRuns1
import Derived.Test.YtjklhaapcihomaaGreatTvRuns2
import Derived.Test.YtjklhaapcihomaaGreatTvRuns3
import Derived.Test.YtjklhaapcihomaaGreatAbPost
import Derived.WalkKit
import Derived.ProofKit
import Derived.OpenShut
namespace Go.Proofs.YtjklhaapcihomaaGreat.topVersions
open Go.ChangeShapes Go.WideShapes Go.ChangeAt Go.RowKit Go.Ab
open Go.Proofs.YtjklhaapcihomaaGreat.runs

theorem own : ownKnob Tryz.prog.godebug = none := by kernel_rfl
theorem b1 : Tryz.f307.body.isNone = true := by kernel_rfl
theorem b2 : (Extern.findNext Tryz.f307).isNone = true := by kernel_rfl
theorem b3 : Extern.find Tryz.f307 = some Extern.BytealgIndexByte.indexByte := by kernel_rfl

/-- What the symbols stand for. -/
noncomputable def valOf (m : Nat) : Nat → Value
  | 0 => .int .u32 m
  | 1 => .int .u64 m
  | 2 => .int .u64 (m / 256 : Nat)
  | 3 => .int .u64 (m / 65536 : Nat)
  | 4 => .int .u64 (m / 16777216 : Nat)
  | 5 => .int .u8 (m % 256 : Nat)
  | 6 => .int .u8 (m / 256 % 256 : Nat)
  | 7 => .int .u8 (m / 65536 % 256 : Nat)
  | 8 => .int .u8 (m / 16777216 % 256 : Nat)
  | 9 => .int .u64 (m % 256 : Nat)
  | 10 => .int .u64 (m / 256 % 256 : Nat)
  | 11 => .int .u64 (m / 65536 % 256 : Nat)
  | 12 => .int .u64 (m / 256 % 256 * 256 : Nat)
  | 13 => .int .u64 (m / 65536 % 256 * 65536 : Nat)
  | 14 => .int .u64 (m / 16777216 * 16777216 : Nat)
  | 15 => .int .u64 (m % 65536 : Nat)
  | 16 => .int .u64 (m % 16777216 : Nat)
  | 17 => .int .i64 m
  | _ => .bool true

noncomputable abbrev symsOf (m : Nat) : Syms := ⟨valOf m, fun i => by unfold valOf; split <;> rfl⟩

set_option maxRecDepth 100000 in
theorem envOk0 [Syms] {sm : Nat → List Value → Option Value} (hs : SumOk Tryz.prog sm) : EnvOk Tryz.prog (envOf Tryz.prog 450 307 (fun _ _ => none) noKeq sm) :=
  envOf_ok (fb := Tryz.f307) t4 t5 t1 t2 t3 t6 Tryz.func307 b1 (Option.isNone_iff_eq_none.1 b2) b3 (SymOk.none _) hs

theorem symOk [Syms] {T : SymTab} (hT : T.Ok Tryz.prog (envOf Tryz.prog 450 307 (fun _ _ => none) noKeq fun _ _ => none)) : SymOk Tryz.prog (symOf T) noKeq :=
  ⟨symOf_ok (envOk0 (SumOk.none _)) hT, fun _ _ _ _ h => (by cases h)⟩

set_option maxRecDepth 100000 in
theorem envOk [Syms] {T : SymTab} {sm : Nat → List Value → Option Value} (hT : T.Ok Tryz.prog (envOf Tryz.prog 450 307 (fun _ _ => none) noKeq fun _ _ => none)) (hs : SumOk Tryz.prog sm) : EnvOk Tryz.prog (envOf Tryz.prog 450 307 (symOf T) noKeq sm) :=
  envOf_ok (fb := Tryz.f307) t4 t5 t1 t2 t3 t6 Tryz.func307 b1 (Option.isNone_iff_eq_none.1 b2) b3 (symOk hT) hs

theorem known [Syms] (w : World) : Calls Tryz.prog 4 #[] w fun e w' => e = .returned (.bool true) ∧ Below w.heap.size w w' := by
  obtain ⟨par, σ, h⟩ := okRet_spec knows
  obtain ⟨n, h⟩ := callF_of_lv h (fun _ e => by cases e)
  exact calls_true (envOk0 (SumOk.none _)) (args := []) VrelL.nil h w

theorem sumOk [Syms] : SumOk Tryz.prog sum := by
  refine ⟨fun f args v h φ w args' ha => ?_⟩
  unfold sum at h
  split at h
  · cases hb : Nat.beq f 4 with
    | false => rw [hb] at h; cases h
    | true =>
      rw [hb] at h
      cases h
      obtain rfl := of_beqT hb
      simp only [VrelL] at ha
      obtain rfl : args' = #[] := by simpa using ha
      exact (known w).mono fun e w' ⟨he, hb⟩ => ⟨⟨_, he, by simp [Vrel]⟩, hb⟩
  · cases h

theorem walkR [Syms] {T : SymTab} (hT : T.Ok Tryz.prog (envOf Tryz.prog 450 307 (fun _ _ => none) noKeq fun _ _ => none)) {x y x' y' : Value} (hx : Vrel (fun _ => .unborn) x x') (hy : Vrel (fun _ => .unborn) y y')
    (hr : run T [x, y] = true) (w : World) : Calls Tryz.prog 3 #[x', y'] w fun e w' => e = .returned (.bool true) ∧ Below w.heap.size w w' := by
  obtain ⟨par, σ, h⟩ := okRet_spec hr
  obtain ⟨n, h⟩ := callF_of_lv h (fun _ e => by cases e)
  exact calls_true (envOk hT sumOk) (VrelL.cons hx (VrelL.cons hy VrelL.nil)) h w

section
variable (m : Nat)

noncomputable abbrev E0 : Env := envOf Tryz.prog 450 307 (fun _ _ => none) noKeq fun _ _ => none

theorem u22 : E0.under 22 = some (.int .u32) := by kernel_rfl
theorem u30 : E0.under 30 = some (.int .u64) := by kernel_rfl
theorem u5 : E0.under 5 = some (.int .u8) := by kernel_rfl
theorem u3 : E0.under 3 = some (.int .i64) := by kernel_rfl

theorem conv_nat {s d : Nat} {k k' : IntKind} {m n : Nat} (hs : ∃ t, E0.under s = some t) (hd : E0.under d = some (.int k)) (h : k.wrap (m : Int) = (n : Int)) : convD E0 s d (.int k' (m : Int)) = some (.int k (n : Int)) := by
  obtain ⟨t, hs⟩ := hs
  simp only [convD, hs, hd, h]

theorem wrap8 (n : Nat) : IntKind.u8.wrap (n : Int) = ((n % 256 : Nat) : Int) := by simp [IntKind.wrap, IntKind.bits, IntKind.signed]

theorem encB_ok (hm : m < 4294967296) : letI := symsOf m; ∀ r ∈ encB, keyed r.2.1 = true ∧ keyed r.2.2.1 = true ∧ keyed r.2.2.2 = true ∧ binD r.1 (den r.2.1) (den r.2.2.1) = some (den r.2.2.2) := by
  letI := symsOf m
  unfold encB
  refine all_cons ⟨rfl, rfl, rfl, ?_⟩ (all_cons ⟨rfl, rfl, rfl, ?_⟩ (all_cons ⟨rfl, rfl, rfl, ?_⟩ (all_cons ⟨rfl, rfl, rfl, ?_⟩ (all_cons ⟨rfl, rfl, rfl, ?_⟩ (all_cons ⟨rfl, rfl, rfl, ?_⟩ (all_cons ⟨rfl, rfl, rfl, ?_⟩ (all_cons ⟨rfl, rfl, rfl, ?_⟩
    (all_cons ⟨rfl, rfl, rfl, ?_⟩ (all_cons ⟨rfl, rfl, rfl, ?_⟩ (all_cons ⟨rfl, rfl, rfl, ?_⟩ (all_cons ⟨rfl, rfl, rfl, ?_⟩ (all_cons ⟨rfl, rfl, rfl, ?_⟩ (all_cons ⟨rfl, rfl, rfl, ?_⟩ (all_cons ⟨rfl, rfl, rfl, ?_⟩ (all_cons ⟨rfl, rfl, rfl, ?_⟩ all_nil)))))))))))))))
  · exact (shr_u64 m 0 .u64 (by omega)).trans (by simp [den, Syms.val, valOf])
  · exact shr_u64 m 8 .u64 (by omega)
  · exact shr_u64 m 16 .u64 (by omega)
  · exact shr_u64 m 24 .u64 (by omega)
  · exact (shr_u64 m 0 .i64 (by omega)).trans (by simp [den, Syms.val, valOf])
  · exact shr_u64 m 8 .i64 (by omega)
  · exact shr_u64 m 16 .i64 (by omega)
  · exact shr_u64 m 24 .i64 (by omega)
  · exact (shl_u64 (m % 256) 0 .i64 (by omega) (by omega)).trans (by simp [den, Syms.val, valOf])
  · exact shl_u64 (m / 256 % 256) 8 .i64 (by omega) (by omega)
  · exact shl_u64 (m / 65536 % 256) 16 .i64 (by omega) (by omega)
  · exact shl_u64 (m / 16777216) 24 .i64 (by omega) (by omega)
  · refine (or_u64 0 (m % 256) (by omega) (by omega) (by rw [Nat.zero_or]; omega)).trans ?_
    rw [Nat.zero_or]; rfl
  · have h := or_parts (q := m / 256 % 256) (x := m % 256) 8 (by omega)
    have e : m % 256 ||| m / 256 % 256 * 256 = m % 65536 := by rw [show (256 : Nat) = 2 ^ 8 from rfl, h]; omega
    refine (or_u64 (m % 256) (m / 256 % 256 * 256) (by omega) (by omega) (by rw [e]; omega)).trans ?_
    rw [e]; rfl
  · have h : m % 65536 ||| m / 65536 % 256 * 65536 = m % 65536 + m / 65536 % 256 * 65536 := or_parts 16 (by omega)
    have e : m % 65536 ||| m / 65536 % 256 * 65536 = m % 16777216 := h.trans (by omega)
    refine (or_u64 (m % 65536) (m / 65536 % 256 * 65536) (by omega) (by omega) (by rw [e]; omega)).trans ?_
    rw [e]; rfl
  · have h : m % 16777216 ||| m / 16777216 * 16777216 = m % 16777216 + m / 16777216 * 16777216 := or_parts 24 (by omega)
    have e : m % 16777216 ||| m / 16777216 * 16777216 = m := h.trans (by omega)
    refine (or_u64 (m % 16777216) (m / 16777216 * 16777216) (by omega) (by omega) (by rw [e]; omega)).trans ?_
    rw [e]; rfl

theorem encC_ok (hm : m < 4294967296) : letI := symsOf m; ∀ r ∈ encC, keyed r.2.2.1 = true ∧ keyed r.2.2.2 = true ∧ convD E0 r.1 r.2.1 (den r.2.2.1) = some (den r.2.2.2) := by
  letI := symsOf m
  unfold encC
  refine all_cons ⟨rfl, rfl, ?_⟩ (all_cons ⟨rfl, rfl, ?_⟩ (all_cons ⟨rfl, rfl, ?_⟩ (all_cons ⟨rfl, rfl, ?_⟩ (all_cons ⟨rfl, rfl, ?_⟩ (all_cons ⟨rfl, rfl, ?_⟩ (all_cons ⟨rfl, rfl, ?_⟩ (all_cons ⟨rfl, rfl, ?_⟩ (all_cons ⟨rfl, rfl, ?_⟩ (all_cons ⟨rfl, rfl, ?_⟩ all_nil)))))))))
  · exact conv_nat ⟨_, u22⟩ u30 (fit_u64 (by omega) (by omega))
  · exact conv_nat ⟨_, u30⟩ u5 (wrap8 m)
  · exact conv_nat ⟨_, u30⟩ u5 (wrap8 (m / 256))
  · exact conv_nat ⟨_, u30⟩ u5 (wrap8 (m / 65536))
  · exact conv_nat ⟨_, u30⟩ u5 (wrap8 (m / 16777216))
  · exact conv_nat ⟨_, u5⟩ u30 (fit_u64 (by omega) (by omega))
  · exact conv_nat ⟨_, u5⟩ u30 (fit_u64 (by omega) (by omega))
  · exact conv_nat ⟨_, u5⟩ u30 (fit_u64 (by omega) (by omega))
  · refine conv_nat (n := m / 16777216) ⟨_, u5⟩ u30 ?_
    rw [show m / 16777216 % 256 = m / 16777216 by omega]
    exact fit_u64 (by omega) (by omega)
  · exact conv_nat ⟨_, u30⟩ u22 (fit_u32 (by omega) (by omega))

theorem loOk (hm : m < 160) : letI := symsOf m; tabLo.Ok Tryz.prog E0 := by
  letI := symsOf m
  have v0 : Syms.val 0 = .int .u32 m := rfl
  refine ⟨?_, all_nil, encC_ok m (by omega), all_nil, all_nil, all_nil, all_nil, all_nil⟩
  refine all_cons ⟨rfl, rfl, rfl, ?_⟩ (all_cons ⟨rfl, rfl, rfl, ?_⟩ (encB_ok m (by omega)))
  · simp [den, binD, v0, intBin]; omega
  · simp [den, binD, v0, intBin]; omega

theorem midOk (h1 : 160 ≤ m) (h2 : m ≤ 8192) : letI := symsOf m; tabMid.Ok Tryz.prog E0 := by
  letI := symsOf m
  have v0 : Syms.val 0 = .int .u32 m := rfl
  have v1 : Syms.val 1 = .int .u64 m := rfl
  have v17 : Syms.val 17 = .int .i64 m := rfl
  refine ⟨?_, all_nil, ?_, all_nil, all_nil, ?_, all_nil, all_nil⟩
  · refine all_cons ⟨rfl, rfl, rfl, ?_⟩ (all_cons ⟨rfl, rfl, rfl, ?_⟩ (all_cons ⟨rfl, rfl, rfl, ?_⟩ (all_cons ⟨rfl, rfl, rfl, ?_⟩ (all_cons ⟨rfl, rfl, rfl, ?_⟩ (all_cons ⟨rfl, rfl, rfl, ?_⟩ (all_cons ⟨rfl, rfl, rfl, ?_⟩ (encB_ok m (by omega))))))))
    · simp [den, binD, v0, intBin]; omega
    · simp [den, binD, v0, intBin]; omega
    · simp [den, binD, v0, intBin]
    · simp [den, binD, v0, intBin]; omega
    · simp [den, binD, v17, intBin]; omega
    · simp [den, binD, v17, intBin]
    · simp [den, binD, v1, intBin]; omega
  · refine all_cons ⟨rfl, rfl, ?_⟩ (all_cons ⟨rfl, rfl, ?_⟩ (encC_ok m (by omega)))
    · exact conv_nat ⟨_, u22⟩ u3 (fit_i64 (by omega) (by omega))
    · exact conv_nat ⟨_, u3⟩ u30 (fit_u64 (by omega) (by omega))
  · refine all_cons ⟨rfl, rfl, rfl, ?_⟩ all_nil
    simp [den, minD, v0]; omega

theorem hiOk (h1 : 8192 < m) (h2 : m < 4294967296) : letI := symsOf m; tabHi.Ok Tryz.prog E0 := by
  letI := symsOf m
  have v0 : Syms.val 0 = .int .u32 m := rfl
  refine ⟨?_, all_nil, encC_ok m (by omega), all_nil, all_nil, ?_, all_nil, all_nil⟩
  · refine all_cons ⟨rfl, rfl, rfl, ?_⟩ (all_cons ⟨rfl, rfl, rfl, ?_⟩ (encB_ok m (by omega)))
    · simp [den, binD, v0, intBin]; omega
    · simp [den, binD, v0, intBin]; omega
  · refine all_cons ⟨rfl, rfl, rfl, ?_⟩ all_nil
    simp [den, minD, v0]; omega

theorem walk {n : Int} (w0 : (Lit.int .u32 n).wf = true) (b : Bool) (w : World) :
    Calls Tryz.prog 3 #[.int .u32 n, .bool b] w fun e w' => e = .returned (.bool true) ∧ Below w.heap.size w w' := by
  have h0 : 0 ≤ n ∧ n ≤ 4294967295 := by
    simp only [Lit.wf, Bool.and_eq_true, decide_eq_true_eq] at w0
    simpa [IntKind.min, IntKind.max, IntKind.bits, IntKind.signed] using w0
  obtain ⟨m, rfl⟩ := Int.eq_ofNat_of_zero_le h0.1
  have hm : m < 4294967296 := by omega
  letI := symsOf m
  have hx : Vrel (fun _ => .unborn) (S 0) (.int .u32 (m : Int)) := by simp [Vrel]; rfl
  have hb : Vrel (fun _ => .unborn) (.bool b) (.bool b) := by simp [Vrel]
  by_cases h1 : m < 160
  · cases b with
    | true => exact walkR (loOk m h1) hx hb runLoT w
    | false => exact walkR (loOk m h1) hx hb runLoF w
  by_cases h2 : m ≤ 8192
  · cases b with
    | true => exact walkR (midOk m (by omega) h2) hx hb runMidT w
    | false => exact walkR (midOk m (by omega) h2) hx hb runMidF w
  · cases b with
    | true => exact walkR (hiOk m (by omega) hm) hx hb runHiT w
    | false => exact walkR (hiOk m (by omega) hm) hx hb runHiF w
end

set_option maxRecDepth 100000 in
theorem lifted (os : Os) (started : os.Started) (H : Type) (enc : TypeId × Value → H) :
    ReturnsInHanded {} Tryz.checked os 3 .any (Rows.topVersionsSpec.pre6 enc Tryz.prog Tryz.f3 Rows.topVersionsRow.domain false) (Rows.topVersionsSpec.post enc Tryz.prog Tryz.f3 false true false false) := by
  refine returnsInHanded_of_change (C := Tryz.checked) own started (by kernel_rfl) Tryz.func3
    (ChangeSpec.witness6 (enc := enc) (C := Tryz.checked) false ⟨#[], #[.int .u32 0, .bool false], []⟩ 8 (by kernel_rfl) (by kernel_rfl) (by kernel_rfl) (by kernel_rfl)) ?_
  intro W base args ds gs before hval0 hW hcnd _
  have hval : ∀ (j : Nat) t v, Tryz.f3.params[j]? = some t → args[j]? = some v → Value.okWide Tryz.prog W .any base t v := hval0
  have hW' := hW
  obtain ⟨p, q, hA0, hV, rfl, hfz, hnd⟩ := hW
  have hA : DataW.TrodAll enc Tryz.prog W 0 (fun _ => true) true Tryz.f3.params.toList args.toList ds p := hA0
  rw [Tryz.params3] at hA hval
  obtain ⟨v0, vs0, d0, ds0, p0, q0, hargs, rfl, rfl, h0, r0⟩ := trodAll_cons hA
  obtain ⟨v1, vs1, d1, ds1, p1, q1, rfl, rfl, rfl, h1, r1⟩ := trodAll_cons r0
  obtain ⟨rfl, rfl, rfl⟩ := trodAll_nil r1
  obtain rfl : args = #[v0, v1] := by cases args; simp_all
  obtain ⟨rfl, rfl⟩ := trodVars_none hV
  obtain ⟨a0, rfl, rfl, rfl, w0⟩ := open_int Tryz.underlying22 (hval 0 22 v0 rfl rfl) h0
  obtain ⟨a1, rfl, rfl, rfl⟩ := open_bool Tryz.underlying4 (hval 1 4 v1 rfl rfl) h1
  clear hA0 hval0
  simp only [List.append_nil] at hW'
  refine (walk w0 a1 W).mono fun e W' ⟨he, hg⟩ => ?_
  subst he
  refine ⟨_, rfl, post_none hW' (fun _ _ _ => (trodAll_cons_mk (shut_bool Tryz.underlying4 _) trodAll_mk0))
    (fun sp _ => (trodAll_cons_mk (shut_int Tryz.underlying22 w0) (trodAll_cons_mk (shut_bool Tryz.underlying4 _) trodAll_mk0))) (fun _ _ => rfl)
    (hg.frame _) (ok_one (by kernel_rfl) rfl (okWide_bool_mk Tryz.underlying4 _))⟩

set_option maxHeartbeats 20000000 in
set_option maxRecDepth 100000 in
theorem facts : joinedFacts Tryz.prog 3 Tryz.f3 Rows.topVersionsSpec Rows.topVersionsRow = true := by
  unfold joinedFacts
  simp only [Bool.and_eq_true]
  repeat' apply And.intro
  all_goals as_aux_lemma => kernel_rfl

theorem wrap : Tryz.f3.isWrapper Tryz.prog Rows.topVersionsRow.wrapper Rows.topVersionsRow.mainSum := by
  unfold Func.isWrapper; first | (rw [if_pos (by decide +kernel)]; kernel_rfl) | (rw [if_neg (by decide +kernel)]; exact ⟨rfl, rfl⟩)

theorem inst : decide (Tryz.f3.isInstance Tryz.prog Rows.topVersionsRow.origin Rows.topVersionsRow.targs) = true := by kernel_rfl
theorem named : Tryz.prog.funcNamed Rows.topVersionsRow.func = some 3 := by kernel_rfl

theorem over : Rows.topVersionsRow.holds Tryz.pinned (OpenSpec.ofChange Rows.topVersionsSpec) :=
  OpenClaim.holds_of_wide 3 Tryz.f3 rfl rfl rfl rfl rfl rfl rfl ⟨rfl, rfl, rfl, rfl, rfl⟩ rfl rfl rfl rfl rfl named Tryz.func3 facts
    (of_decide_eq_true inst) wrap
    (fun os started H enc _ => lifted os started H enc)

theorem proved : Rows.TopVersionsSaid :=
  over
#print axioms proved
end Go.Proofs.YtjklhaapcihomaaGreat.topVersions
