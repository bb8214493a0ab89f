/- FilesAlone: the runs, one for each remainder by ten. -/
import Derived.Test.YtjmdogihfombmaaGreatAbEnv
import Derived.Test.YtjmdogihfombmaaGreatRows
import Derived.KernelRfl
namespace Go.Proofs.YtjmdogihfombmaaGreat.runs
open Go.Ab

def okRet : CRes → Bool
  | .ret (.bool true) _ _ => true
  | _ => false

theorem okRet_spec {r : CRes} (h : okRet r = true) : ∃ par σ, r = .ret (.bool true) par σ := by
  unfold okRet at h
  split at h
  · exact ⟨_, _, rfl⟩
  · cases h

/-- The number's remainder by ten is k. -/
noncomputable def hook (k : Int) (op : BinOp) (x y : Value) : Option Value :=
  match op, x, y with
  | .rem, .complex .f64 0 _, .int .u8 10 => some (.int .u8 k)
  | _, _, _ => none

/-- `known` returns true. -/
noncomputable def sum (f : Nat) (args : List Value) : Option Value :=
  match args with
  | [] => bif Nat.beq f 4 then some (.bool true) else none
  | _ => none

theorem knows : okRet (callF Tryz.prog (envOf Tryz.prog 300 133 (fun _ _ _ => none) (fun _ _ => none)) 100000 4 [] none ⟨0, .leaf, []⟩) = true := by kernel_rfl

noncomputable def run (k : Int) : Bool := okRet (callF Tryz.prog (envOf Tryz.prog 300 133 (hook k) sum) 100000 3 [.complex .f64 0 0] none ⟨0, .leaf, []⟩)


theorem t1 : typesOk Tryz.prog.types.toList = true := by kernel_rfl
theorem t2 : fieldsOk (envOf Tryz.prog 300 133 (fun _ _ _ => none) (fun _ _ => none)) (List.range 300) = true := by kernel_rfl
theorem t3 : funcsOk Tryz.prog.funcs.toList = true := by kernel_rfl
theorem t4 : Nat.ble Tryz.prog.types.toList.length 300 = true := by kernel_rfl
theorem t5 : Nat.ble Tryz.prog.funcs.toList.length 300 = true := by kernel_rfl
theorem t6 : Tryz.prog.follows .mixedOrders = true := by kernel_rfl

end Go.Proofs.YtjmdogihfombmaaGreat.runs
