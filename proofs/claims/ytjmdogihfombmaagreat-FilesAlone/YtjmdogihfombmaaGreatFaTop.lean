/- FilesAlone: the law returns true for every argument. The walk is a run of an interpreter whose soundness is proved in the Ab texts. -/
import Derived.Test.YtjmdogihfombmaaGreatFaRuns
import Derived.Test.YtjmdogihfombmaaGreatFaRunsA
import Derived.Test.YtjmdogihfombmaaGreatFaRunsB
import Derived.Test.YtjmdogihfombmaaGreatFaRunsC
import Derived.Test.YtjmdogihfombmaaGreatAbPost
import Derived.WalkKit
import Derived.ProofKit
import Derived.OpenShut
namespace Go.Proofs.YtjmdogihfombmaaGreat.filesAlone
open Go.ChangeShapes Go.WideShapes Go.ChangeAt Go.RowKit Go.Ab
open Go.Proofs.YtjmdogihfombmaaGreat.runs

theorem own : ownKnob Tryz.prog.godebug = none := by kernel_rfl

theorem b1 : Tryz.f133.body.isNone = true := by kernel_rfl
theorem b2 : (Extern.findNext Tryz.f133).isNone = true := by kernel_rfl
theorem b3 : Extern.find Tryz.f133 = some Extern.BytealgIndexByte.indexByte := by kernel_rfl

set_option maxRecDepth 100000 in
theorem envOk [Syms] {hk : BinOp → Value → Value → Option Value} {sm : Nat → List Value → Option Value} (hh : HookOk Tryz.prog hk) (hs : SumOk Tryz.prog sm) : EnvOk Tryz.prog (envOf Tryz.prog 300 133 hk sm) :=
  envOf_ok (fb := Tryz.f133) t4 t5 t1 t2 t3 t6 Tryz.func133 b1 (Option.isNone_iff_eq_none.1 b2) b3 hh hs

theorem known [Syms] (w : World) : Calls Tryz.prog 4 #[] w fun e w' => e = .returned (.bool true) ∧ Below w.heap.size w w' := by
  obtain ⟨par, σ, h⟩ := okRet_spec knows
  exact calls_true (envOk (HookOk.none _) (SumOk.none _)) (args := []) VrelL.nil h w

theorem sumOk [Syms] : SumOk Tryz.prog sum := by
  refine ⟨fun f args v h φ w args' ha => ?_⟩
  unfold sum at h
  split at h
  · cases hb : Nat.beq f 4 with
    | false => rw [hb] at h; cases h
    | true =>
      rw [hb] at h
      cases h
      obtain rfl := of_beqT hb
      simp only [VrelL] at ha
      obtain rfl : args' = #[] := by simpa using ha
      exact (known w).mono fun e w' ⟨he, hb⟩ => ⟨⟨_, he, by simp [Vrel]⟩, hb⟩
  · cases h

theorem walkR [Syms] (a0 k : Int) (hv : Syms.val 0 = .int .u8 a0) (hk : a0.tmod 10 = k) (hr : run k = true) (w : World) :
    Calls Tryz.prog 3 #[.int .u8 a0] w fun e w' => e = .returned (.bool true) ∧ Below w.heap.size w w' := by
  have hh : HookOk Tryz.prog (hook k) := by
    refine ⟨fun op x y v h => ?_⟩
    unfold hook at h
    split at h
    · cases h
      refine ⟨by simp [closed], fun φ x' y' t xo yo w hx hy => ?_⟩
      simp only [Vrel, true_implies] at hx hy
      rw [hv] at hx
      subst hx
      subst hy
      rw [Sem.run_bind, run_eqGuard_plain .rem t xo yo _ _ w (by intro cs e; cases e) (.inl (by intro e; cases e))]
      have : intBin .rem .u8 a0 .u8 10 = some (.int .u8 k) := by simp [intBin, hk]
      exact (intBin_sound (P := Tryz.prog) this t w).1
    · cases h
  obtain ⟨par, σ, h⟩ := okRet_spec hr
  exact calls_true (envOk hh sumOk) (args := [.complex .f64 0 0]) (args' := #[.int .u8 a0]) (by simp [VrelL, Vrel, hv]) h w

theorem walk (a0 : Int) (w0 : (Lit.int .u8 a0).wf = true) (w : World) :
    Calls Tryz.prog 3 #[.int .u8 a0] w fun e w' => e = .returned (.bool true) ∧ Below w.heap.size w w' := by
  letI : Syms := ⟨fun _ => .int .u8 a0⟩
  have h0 : 0 ≤ a0 := by
    simp only [Lit.wf, Bool.and_eq_true, decide_eq_true_eq] at w0
    exact w0.1
  obtain ⟨n, rfl⟩ := Int.eq_ofNat_of_zero_le h0
  have hm : ((n : Int).tmod 10) = ((n % 10 : Nat) : Int) := rfl
  have hlt : n % 10 < 10 := Nat.mod_lt _ (by decide)
  have go : ∀ k : Nat, n % 10 = k → run (k : Int) = true → Calls Tryz.prog 3 #[.int .u8 (n : Int)] w fun e w' => e = .returned (.bool true) ∧ Below w.heap.size w w' :=
    fun k hk hr => walkR (n : Int) (k : Int) rfl (by rw [hm, hk]) hr w
  obtain h | h | h | h | h | h | h | h | h | h : n % 10 = 0 ∨ n % 10 = 1 ∨ n % 10 = 2 ∨ n % 10 = 3 ∨ n % 10 = 4 ∨ n % 10 = 5 ∨ n % 10 = 6 ∨ n % 10 = 7 ∨ n % 10 = 8 ∨ n % 10 = 9 := by omega
  · exact go 0 h run0
  · exact go 1 h run1
  · exact go 2 h run2
  · exact go 3 h run3
  · exact go 4 h run4
  · exact go 5 h run5
  · exact go 6 h run6
  · exact go 7 h run7
  · exact go 8 h run8
  · exact go 9 h run9

set_option maxRecDepth 100000 in
theorem lifted (os : Os) (started : os.Started) (H : Type) (enc : TypeId × Value → H) :
    ReturnsInHanded {} Tryz.checked os 3 .any (Rows.filesAloneSpec.pre6 enc Tryz.prog Tryz.f3 Rows.filesAloneRow.domain false) (Rows.filesAloneSpec.post enc Tryz.prog Tryz.f3 false true false false) := by
  refine returnsInHanded_of_change (C := Tryz.checked) own started (by kernel_rfl) Tryz.func3
    (ChangeSpec.witness6 (enc := enc) (C := Tryz.checked) false ⟨#[], #[.int .u8 0], []⟩ 8 (by kernel_rfl) (by kernel_rfl) (by kernel_rfl) (by kernel_rfl)) ?_
  intro W base args ds gs before hval0 hW hcnd _
  have hval : ∀ (j : Nat) t v, Tryz.f3.params[j]? = some t → args[j]? = some v → Value.okWide Tryz.prog W .any base t v := hval0
  have hW' := hW
  obtain ⟨p, q, hA0, hV, rfl, hfz, hnd⟩ := hW
  have hA : DataW.TrodAll enc Tryz.prog W 0 (fun _ => true) true Tryz.f3.params.toList args.toList ds p := hA0
  rw [Tryz.params3] at hA hval
  obtain ⟨v0, vs0, d0, ds0, p0, q0, hargs, rfl, rfl, h0, r0⟩ := trodAll_cons hA
  obtain ⟨rfl, rfl, rfl⟩ := trodAll_nil r0
  obtain rfl : args = #[v0] := by cases args; simp_all
  obtain ⟨rfl, rfl⟩ := trodVars_none hV
  obtain ⟨a0, rfl, rfl, rfl, w0⟩ := open_int Tryz.underlying5 (hval 0 5 v0 rfl rfl) h0
  clear hA0 hval0
  simp only [List.append_nil] at hW'
  refine (walk a0 w0 W).mono fun e W' ⟨he, hg⟩ => ?_
  subst he
  refine ⟨_, rfl, post_none hW' (fun _ _ _ => (trodAll_cons_mk (shut_bool Tryz.underlying4 _) trodAll_mk0)) (fun sp _ => (trodAll_cons_mk (shut_int Tryz.underlying5 w0) trodAll_mk0)) (fun _ _ => rfl)
    (hg.frame _) (ok_one (by kernel_rfl) rfl (okWide_bool_mk Tryz.underlying4 _))⟩

theorem over : Rows.filesAloneRow.holds Tryz.pinned (OpenSpec.ofChange Rows.filesAloneSpec) :=
  OpenClaim.holds_of_wide 3 Tryz.f3 rfl rfl rfl rfl rfl rfl rfl ⟨rfl, rfl, rfl, rfl, rfl⟩ rfl rfl rfl rfl rfl (by kernel_rfl) Tryz.func3 (by kernel_rfl)
    (of_decide_eq_true (by kernel_rfl)) (by unfold Func.isWrapper; first | (rw [if_pos (by decide +kernel)]; kernel_rfl) | (rw [if_neg (by decide +kernel)]; exact ⟨rfl, rfl⟩))
    (fun os started H enc _ => lifted os started H enc)

theorem proved : Rows.FilesAloneSaid :=
  over
#print axioms proved
end Go.Proofs.YtjmdogihfombmaaGreat.filesAlone
