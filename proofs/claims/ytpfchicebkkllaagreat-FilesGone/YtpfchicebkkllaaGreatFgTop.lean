/- FilesGone (loggialaw18): for every two texts and every number the law returns true, and leaves what was there. No condition. -/
import Derived.Test.YtpfchicebkkllaaGreatFgRuns1
import Derived.Test.YtpfchicebkkllaaGreatFgRuns2
import Derived.Test.YtpfchicebkkllaaGreatFgRuns3
import Derived.Test.YtpfchicebkkllaaGreatFgRuns4
import Derived.Test.YtpfchicebkkllaaGreatFgRuns5
import Derived.Test.YtpfchicebkkllaaGreatAbNum
import Derived.Test.YtpfchicebkkllaaGreatAbPost
import Derived.WalkKit
import Derived.ProofKit
import Derived.OpenShut
import Derived.ShutString
namespace Go.Proofs.YtpfchicebkkllaaGreat.filesGone
open Go.ChangeShapes Go.WideShapes Go.ChangeAt Go.RowKit Go.Ab
open Go.Proofs.YtpfchicebkkllaaGreat.runs

theorem own : ownKnob Tryz.prog.godebug = none := by kernel_rfl
theorem b1 : Tryz.f130.body.isNone = true := by kernel_rfl
theorem b2 : (Extern.findNext Tryz.f130).isNone = true := by kernel_rfl
theorem b3 : Extern.find Tryz.f130 = some Extern.BytealgIndexByte.indexByte := by kernel_rfl

/-- What the symbols stand for. -/
noncomputable def valOf (a b : ByteArray) (n : Int) : Nat → Value
  | 0 => .string a
  | 1 => .string b
  | 2 => .int .u8 n
  | 3 => .int .i64 a.size
  | 4 => .int .i64 b.size
  | 5 => .int .u64 a.size
  | 6 => .string ⟨(a.data.toList ++ b.data.toList).toArray⟩
  | 7 => .int .i64 (a.size + b.size)
  | 8 => .int .u64 (a.size + b.size)
  | 9 => .int .i64 (4096 - a.size)
  | 10 => .int .u32 b.size
  | 11 => .int .u32 a.size
  | 12 => .int .u64 b.size
  | _ => .bool true

noncomputable abbrev symsOf (a b : ByteArray) (n : Int) : Syms := ⟨valOf a b n, fun i => by unfold valOf; split <;> rfl⟩

set_option maxRecDepth 100000 in
theorem envOk0 [Syms] {sm : Nat → List Value → Option Value} (hs : SumOk Tryz.prog sm) : EnvOk Tryz.prog (envOf Tryz.prog 300 130 (fun _ _ => none) noKeq sm) :=
  envOf_ok (fb := Tryz.f130) t4 t5 t1 t2 t3 t6 Tryz.func130 b1 (Option.isNone_iff_eq_none.1 b2) b3 (SymOk.none _) hs

theorem symOk [Syms] {T : SymTab} (hT : T.Ok Tryz.prog (envOf Tryz.prog 300 130 (fun _ _ => none) noKeq fun _ _ => none)) : SymOk Tryz.prog (symOf T) noKeq :=
  ⟨symOf_ok (envOk0 (SumOk.none _)) hT, fun _ _ _ _ h => (by cases h)⟩

set_option maxRecDepth 100000 in
theorem envOk [Syms] {T : SymTab} {sm : Nat → List Value → Option Value} (hT : T.Ok Tryz.prog (envOf Tryz.prog 300 130 (fun _ _ => none) noKeq fun _ _ => none)) (hs : SumOk Tryz.prog sm) : EnvOk Tryz.prog (envOf Tryz.prog 300 130 (symOf T) noKeq sm) :=
  envOf_ok (fb := Tryz.f130) t4 t5 t1 t2 t3 t6 Tryz.func130 b1 (Option.isNone_iff_eq_none.1 b2) b3 (symOk hT) hs

theorem known [Syms] (w : World) : Calls Tryz.prog 4 #[] w fun e w' => e = .returned (.bool true) ∧ Below w.heap.size w w' := by
  obtain ⟨par, σ, h⟩ := okRet_spec knows
  obtain ⟨n, h⟩ := callF_of_lv h (fun _ e => by cases e)
  exact calls_true (envOk0 (SumOk.none _)) (args := []) VrelL.nil h w

theorem sumOk [Syms] : SumOk Tryz.prog sum := by
  refine ⟨fun f args v h φ w args' ha => ?_⟩
  unfold sum at h
  split at h
  · cases hb : Nat.beq f 4 with
    | false => rw [hb] at h; cases h
    | true =>
      rw [hb] at h
      cases h
      obtain rfl := of_beqT hb
      simp only [VrelL] at ha
      obtain rfl : args' = #[] := by simpa using ha
      exact (known w).mono fun e w' ⟨he, hb⟩ => ⟨⟨_, he, by simp [Vrel]⟩, hb⟩
  · cases h

theorem walkR [Syms] {T : SymTab} (hT : T.Ok Tryz.prog (envOf Tryz.prog 300 130 (fun _ _ => none) noKeq fun _ _ => none)) {x y z x' y' z' : Value} (hx : Vrel (fun _ => .unborn) x x') (hy : Vrel (fun _ => .unborn) y y') (hz : Vrel (fun _ => .unborn) z z')
    (hr : run T [x, y, z] = true) (w : World) : Calls Tryz.prog 3 #[x', y', z'] w fun e w' => e = .returned (.bool true) ∧ Below w.heap.size w w' := by
  obtain ⟨par, σ, h⟩ := okRet_spec hr
  obtain ⟨n, h⟩ := callF_of_lv h (fun _ e => by cases e)
  exact calls_true (envOk hT sumOk) (VrelL.cons hx (VrelL.cons hy (VrelL.cons hz VrelL.nil))) h w

section
variable (a b : ByteArray) (n : Int)

theorem fits {k : Nat} (h : k ≤ 300) : IntKind.i64.wrap (k : Int) = k := fit_i64 (by omega) (by omega)

theorem tabOk {r : Int} (ha : a.size ≤ 300) (hb : b.size ≤ 300) (ha0 : a.size ≠ 0) (hb0 : b.size ≠ 0) (hr : n.tmod 10 = r) :
    letI := symsOf a b n; (tab r).Ok Tryz.prog (envOf Tryz.prog 300 130 (fun _ _ => none) noKeq fun _ _ => none) := by
  letI := symsOf a b n
  have u9 : (envOf Tryz.prog 300 130 (fun _ _ => none) noKeq fun _ _ => none).under 9 = some .string := by kernel_rfl
  have u3 : (envOf Tryz.prog 300 130 (fun _ _ => none) noKeq fun _ _ => none).under 3 = some (.int .i64) := by kernel_rfl
  have u27 : (envOf Tryz.prog 300 130 (fun _ _ => none) noKeq fun _ _ => none).under 27 = some (.int .u64) := by kernel_rfl
  have u32 : (envOf Tryz.prog 300 130 (fun _ _ => none) noKeq fun _ _ => none).under 32 = some (.int .u32) := by kernel_rfl
  have la : a.data.toList.length = a.size := by simp
  have lb : b.data.toList.length = b.size := by simp
  have ea : (⟨(a.data.toList).toArray⟩ : ByteArray) = a := rfl
  have eb : (⟨(b.data.toList).toArray⟩ : ByteArray) = b := rfl
  have w1 : IntKind.i64.wrap (4096 - (a.size : Int)) = 4096 - a.size := fit_i64 (by omega) (by omega)
  have w2 : IntKind.i64.wrap ((a.size : Int) + b.size) = a.size + b.size := fit_i64 (by omega) (by omega)
  have w3 : IntKind.u64.wrap ((a.size : Int) + b.size) = a.size + b.size := fit_u64 (by omega) (by omega)
  have w4 : IntKind.u64.wrap (a.size : Int) = a.size := fit_u64 (by omega) (by omega)
  have w5 : IntKind.u64.wrap (b.size : Int) = b.size := fit_u64 (by omega) (by omega)
  have w6 : IntKind.u32.wrap (a.size : Int) = a.size := fit_u32 (by omega) (by omega)
  have w7 : IntKind.u32.wrap (b.size : Int) = b.size := fit_u32 (by omega) (by omega)
  have w8 : IntKind.i64.wrap (a.size : Int) = a.size := fit_i64 (by omega) (by omega)
  have w9 : IntKind.i64.wrap (b.size : Int) = b.size := fit_i64 (by omega) (by omega)
  have v0 : Syms.val 0 = .string a := rfl
  have v1 : Syms.val 1 = .string b := rfl
  have v2 : Syms.val 2 = .int .u8 n := rfl
  have v3 : Syms.val 3 = .int .i64 a.size := rfl
  have v4 : Syms.val 4 = .int .i64 b.size := rfl
  have v5 : Syms.val 5 = .int .u64 a.size := rfl
  have v6 : Syms.val 6 = .string ⟨(a.data.toList ++ b.data.toList).toArray⟩ := rfl
  have v7 : Syms.val 7 = .int .i64 (a.size + b.size) := rfl
  have v8 : Syms.val 8 = .int .u64 (a.size + b.size) := rfl
  have v9 : Syms.val 9 = .int .i64 (4096 - a.size) := rfl
  have v10 : Syms.val 10 = .int .u32 b.size := rfl
  have v11 : Syms.val 11 = .int .u32 a.size := rfl
  have v12 : Syms.val 12 = .int .u64 b.size := rfl
  have sz : (⟨(a.data.toList ++ b.data.toList).toArray⟩ : ByteArray).size = a.size + b.size := by
    show (a.data.toList ++ b.data.toList).toArray.size = _
    simp
  have fa : a.data.toList.take a.size = a.data.toList := List.take_of_length_le (by simp)
  have fb : b.data.toList.take b.size = b.data.toList := List.take_of_length_le (by simp)
  have na : a.data.toList.drop a.size = [] := List.drop_of_length_le (by simp)
  have d1 : decide ((0 : Int) ≤ (a.size : Int) + b.size) = true := by simp; omega
  have d2 : ((a.size : Int) + b.size).toNat = a.size + b.size := by omega
  have fab : List.take (a.size + b.size) (a.data.toList ++ b.data.toList) = a.data.toList ++ b.data.toList := List.take_of_length_le (by simp)
  have w0 : IntKind.i64.wrap 0 = 0 := rfl
  have e1 : (a.size + b.size).ble 9223372036854775807 = true := Nat.ble_eq_true_of_le (by omega)
  have e2 : a.size.ble 9223372036854775807 = true := Nat.ble_eq_true_of_le (by omega)
  have e3 : b.size.ble 9223372036854775807 = true := Nat.ble_eq_true_of_le (by omega)
  have qa : bytesEq a.data.toList [] = false := bytesEq_nil (by rw [la]; exact ha0)
  have qb : bytesEq b.data.toList [] = false := bytesEq_nil (by rw [lb]; exact hb0)
  refine ⟨?_, ?_, ?_, ?_, ?_, ?_, ?_, ?_⟩
  · unfold tab
    repeat' first | exact all_nil | refine all_cons ⟨rfl, rfl, rfl, ?_⟩ ?_
    all_goals try (simp [den, binD, v0, v1, v2, v3, v4, v5, v6, v7, v8, v9, intBin, strBin, la, lb, bytesEq_refl, w0, w1, w2, w8, w9, hr, e1, e2, e3, qa, qb]; done)
    all_goals try (simp [den, binD, v0, v1, v2, v3, v4, v5, v6, v7, v8, v9, intBin, strBin, la, lb, bytesEq_refl, w0, w1, w2, w8, w9, hr, e1, e2, e3, qa, qb]; omega)
  · exact all_nil
  · unfold tab
    repeat' first | exact all_nil | refine all_cons ⟨rfl, rfl, ?_⟩ ?_
    all_goals simp [den, convD, v3, v4, v5, v7, v8, v10, v11, v12, u3, u27, u32, w3, w4, w5, w6, w7, w8]
  · unfold tab
    repeat' first | exact all_nil | refine all_cons ⟨rfl, by simp [keyed, closed, isSym], by simp [keyed, closed, isSym], rfl, by simp [den, v0, v1, v6, closed], ?_⟩ ?_
    all_goals simp [den, aSlice, sliceB, bnd, bndO, v0, v1, v3, v5, v6, v8, v12, u9, fa, fb, na, sz, d1, d2]
    all_goals exact fab
  · unfold tab
    repeat' first | exact all_nil | refine all_cons ⟨rfl, rfl, ?_⟩ ?_
    all_goals simp [den, aLen, v0, v1, v3, v4, v6, v7, u9, goInt, sz]
  · unfold tab
    repeat' first | exact all_nil | refine all_cons ⟨rfl, rfl, rfl, ?_⟩ ?_
    all_goals simp [den, minD, v3, v4, v5, v7, v8, v12]
    all_goals omega
  · exact all_nil
  · exact all_nil

theorem tabAOk (ha : 300 < a.size) : letI := symsOf a b n; tabA.Ok Tryz.prog (envOf Tryz.prog 300 130 (fun _ _ => none) noKeq fun _ _ => none) := by
  letI := symsOf a b n
  have u9 : (envOf Tryz.prog 300 130 (fun _ _ => none) noKeq fun _ _ => none).under 9 = some .string := by kernel_rfl
  have v0 : Syms.val 0 = .string a := rfl
  have v3 : Syms.val 3 = .int .i64 a.size := rfl
  refine ⟨?_, all_nil, all_nil, all_nil, ?_, all_nil, all_nil, all_nil⟩
  · refine all_cons ⟨rfl, rfl, rfl, ?_⟩ all_nil
    simp [den, binD, v3, intBin]
    omega
  · refine all_cons ⟨rfl, rfl, ?_⟩ all_nil
    simp [den, aLen, v0, v3, u9, goInt]

theorem tabBOk (ha : a.size ≤ 300) (hb : 300 < b.size) : letI := symsOf a b n; tabB.Ok Tryz.prog (envOf Tryz.prog 300 130 (fun _ _ => none) noKeq fun _ _ => none) := by
  letI := symsOf a b n
  have u9 : (envOf Tryz.prog 300 130 (fun _ _ => none) noKeq fun _ _ => none).under 9 = some .string := by kernel_rfl
  have v0 : Syms.val 0 = .string a := rfl
  have v1 : Syms.val 1 = .string b := rfl
  have v3 : Syms.val 3 = .int .i64 a.size := rfl
  have v4 : Syms.val 4 = .int .i64 b.size := rfl
  refine ⟨?_, all_nil, all_nil, all_nil, ?_, all_nil, all_nil, all_nil⟩
  · refine all_cons ⟨rfl, rfl, rfl, ?_⟩ (all_cons ⟨rfl, rfl, rfl, ?_⟩ all_nil)
    · simp [den, binD, v3, intBin]; omega
    · simp [den, binD, v4, intBin]; omega
  · refine all_cons ⟨rfl, rfl, ?_⟩ (all_cons ⟨rfl, rfl, ?_⟩ all_nil)
    · simp [den, aLen, v0, v3, u9, goInt]
    · simp [den, aLen, v1, v4, u9, goInt]

/-- A text that is there in place of one that has no bytes. -/
def one : ByteArray := ⟨#[120]⟩

theorem empty_of_size {s : ByteArray} (h : s.size = 0) : s = ⟨#[]⟩ := by
  obtain ⟨d⟩ := s
  have : d.size = 0 := h
  rw [Array.size_eq_zero_iff] at this
  rw [this]

theorem walkT {r : Int} (hr : n.tmod 10 = r) (h1 : run (tab r) [S 0, S 1, S 2] = true) (h2 : run (tab r) [E, S 1, S 2] = true) (h3 : run (tab r) [S 0, E, S 2] = true) (h4 : run (tab r) [E, E, S 2] = true) (w : World) :
    Calls Tryz.prog 3 #[.string a, .string b, .int .u8 n] w fun e w' => e = .returned (.bool true) ∧ Below w.heap.size w w' := by
  by_cases ha : 300 < a.size
  · letI := symsOf a b n
    exact walkR (tabAOk a b n ha) (x := S 0) (y := S 1) (z := S 2) (by simp [Vrel, Syms.val, valOf]) (by simp [Vrel, Syms.val, valOf]) (by simp [Vrel, Syms.val, valOf]) runA w
  by_cases hb : 300 < b.size
  · letI := symsOf a b n
    exact walkR (tabBOk a b n (by omega) hb) (x := S 0) (y := S 1) (z := S 2) (by simp [Vrel, Syms.val, valOf]) (by simp [Vrel, Syms.val, valOf]) (by simp [Vrel, Syms.val, valOf]) runB w
  have o1 : one.size ≤ 300 := by decide
  have o2 : one.size ≠ 0 := by decide
  by_cases ha0 : a.size = 0
  · have ea := empty_of_size ha0
    by_cases hb0 : b.size = 0
    · have eb := empty_of_size hb0
      letI := symsOf one one n
      subst ea eb
      exact walkR (tabOk one one n o1 o1 o2 o2 hr) (x := E) (y := E) (z := S 2) (by simp [Vrel]) (by simp [Vrel]) (by simp [Vrel, Syms.val, valOf]) h4 w
    · letI := symsOf one b n
      subst ea
      exact walkR (tabOk one b n o1 (by omega) o2 hb0 hr) (x := E) (y := S 1) (z := S 2) (by simp [Vrel]) (by simp [Vrel, Syms.val, valOf]) (by simp [Vrel, Syms.val, valOf]) h2 w
  · by_cases hb0 : b.size = 0
    · have eb := empty_of_size hb0
      letI := symsOf a one n
      subst eb
      exact walkR (tabOk a one n (by omega) o1 ha0 o2 hr) (x := S 0) (y := E) (z := S 2) (by simp [Vrel, Syms.val, valOf]) (by simp [Vrel]) (by simp [Vrel, Syms.val, valOf]) h3 w
    · letI := symsOf a b n
      exact walkR (tabOk a b n (by omega) (by omega) ha0 hb0 hr) (x := S 0) (y := S 1) (z := S 2) (by simp [Vrel, Syms.val, valOf]) (by simp [Vrel, Syms.val, valOf]) (by simp [Vrel, Syms.val, valOf]) h1 w

theorem walk (w0 : (Lit.int .u8 n).wf = true) (w : World) :
    Calls Tryz.prog 3 #[.string a, .string b, .int .u8 n] w fun e w' => e = .returned (.bool true) ∧ Below w.heap.size w w' := by
  have h0 : 0 ≤ n := by
    simp only [Lit.wf, Bool.and_eq_true, decide_eq_true_eq] at w0
    exact w0.1
  obtain ⟨m, rfl⟩ := Int.eq_ofNat_of_zero_le h0
  have hm : ((m : Int).tmod 10) = ((m % 10 : Nat) : Int) := rfl
  have go : ∀ k : Nat, m % 10 = k → ((m : Int).tmod 10) = (k : Int) := fun k hk => by rw [hm, hk]
  obtain h | h | h | h | h | h | h | h | h | h : m % 10 = 0 ∨ m % 10 = 1 ∨ m % 10 = 2 ∨ m % 10 = 3 ∨ m % 10 = 4 ∨ m % 10 = 5 ∨ m % 10 = 6 ∨ m % 10 = 7 ∨ m % 10 = 8 ∨ m % 10 = 9 := by omega
  · exact walkT a b m (go 0 h) run0ab run0b run0a run0 w
  · exact walkT a b m (go 1 h) run1ab run1b run1a run1 w
  · exact walkT a b m (go 2 h) run2ab run2b run2a run2 w
  · exact walkT a b m (go 3 h) run3ab run3b run3a run3 w
  · exact walkT a b m (go 4 h) run4ab run4b run4a run4 w
  · exact walkT a b m (go 5 h) run5ab run5b run5a run5 w
  · exact walkT a b m (go 6 h) run6ab run6b run6a run6 w
  · exact walkT a b m (go 7 h) run7ab run7b run7a run7 w
  · exact walkT a b m (go 8 h) run8ab run8b run8a run8 w
  · exact walkT a b m (go 9 h) run9ab run9b run9a run9 w
end

set_option maxRecDepth 100000 in
theorem lifted (os : Os) (started : os.Started) (H : Type) (enc : TypeId × Value → H) :
    ReturnsInHanded {} Tryz.checked os 3 .any (Rows.filesGoneSpec.pre6 enc Tryz.prog Tryz.f3 Rows.filesGoneRow.domain false) (Rows.filesGoneSpec.post enc Tryz.prog Tryz.f3 false true false false) := by
  refine returnsInHanded_of_change (C := Tryz.checked) own started (by kernel_rfl) Tryz.func3
    (ChangeSpec.witness6 (enc := enc) (C := Tryz.checked) false ⟨#[], #[.string ⟨#[]⟩, .string ⟨#[]⟩, .int .u8 0], []⟩ 8 (by kernel_rfl) (by kernel_rfl) (by kernel_rfl) (by kernel_rfl)) ?_
  intro W base args ds gs before hval0 hW hcnd _
  have hval : ∀ (j : Nat) t v, Tryz.f3.params[j]? = some t → args[j]? = some v → Value.okWide Tryz.prog W .any base t v := hval0
  have hW' := hW
  obtain ⟨p, q, hA0, hV, rfl, hfz, hnd⟩ := hW
  have hA : DataW.TrodAll enc Tryz.prog W 0 (fun _ => true) true Tryz.f3.params.toList args.toList ds p := hA0
  rw [Tryz.params3] at hA hval
  obtain ⟨v0, vs0, d0, ds0, p0, q0, hargs, rfl, rfl, h0, r0⟩ := trodAll_cons hA
  obtain ⟨v1, vs1, d1, ds1, p1, q1, rfl, rfl, rfl, h1, r1⟩ := trodAll_cons r0
  obtain ⟨v2, vs2, d2, ds2, p2, q2, rfl, rfl, rfl, h2, r2⟩ := trodAll_cons r1
  obtain ⟨rfl, rfl, rfl⟩ := trodAll_nil r2
  obtain rfl : args = #[v0, v1, v2] := by cases args; simp_all
  obtain ⟨rfl, rfl⟩ := trodVars_none hV
  obtain ⟨a0, rfl, rfl, rfl, s0⟩ := Go.ChangeMaps.open_string Tryz.underlying9 (hval 0 9 v0 rfl rfl) h0
  obtain ⟨a1, rfl, rfl, rfl, s1⟩ := Go.ChangeMaps.open_string Tryz.underlying9 (hval 1 9 v1 rfl rfl) h1
  obtain ⟨a2, rfl, rfl, rfl, w2⟩ := open_int Tryz.underlying5 (hval 2 5 v2 rfl rfl) h2
  clear hA0 hval0
  simp only [List.append_nil] at hW'
  refine (walk a0 a1 a2 w2 W).mono fun e W' ⟨he, hg⟩ => ?_
  subst he
  refine ⟨_, rfl, post_none hW' (fun _ _ _ => (trodAll_cons_mk (shut_bool Tryz.underlying4 _) trodAll_mk0))
    (fun sp _ => (trodAll_cons_mk (Go.ChangeMaps.shut_string Tryz.underlying9 s0) (trodAll_cons_mk (Go.ChangeMaps.shut_string Tryz.underlying9 s1) (trodAll_cons_mk (shut_int Tryz.underlying5 w2) trodAll_mk0)))) (fun _ _ => rfl)
    (hg.frame _) (ok_one (by kernel_rfl) rfl (okWide_bool_mk Tryz.underlying4 _))⟩

theorem over : Rows.filesGoneRow.holds Tryz.pinned (OpenSpec.ofChange Rows.filesGoneSpec) :=
  OpenClaim.holds_of_wide 3 Tryz.f3 rfl rfl rfl rfl rfl rfl rfl ⟨rfl, rfl, rfl, rfl, rfl⟩ rfl rfl rfl rfl rfl (by kernel_rfl) Tryz.func3 (by kernel_rfl)
    (of_decide_eq_true (by kernel_rfl)) (by unfold Func.isWrapper; first | (rw [if_pos (by decide +kernel)]; kernel_rfl) | (rw [if_neg (by decide +kernel)]; exact ⟨rfl, rfl⟩))
    (fun os started H enc _ => lifted os started H enc)

theorem proved : Rows.FilesGoneSaid :=
  over
#print axioms proved
end Go.Proofs.YtpfchicebkkllaaGreat.filesGone
