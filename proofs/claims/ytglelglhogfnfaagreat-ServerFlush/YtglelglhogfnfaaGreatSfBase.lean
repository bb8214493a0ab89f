/- ServerFlush: the tables of what is known of the tags. -/
import Derived.Test.YtglelglhogfnfaaGreatAbKeys
import Derived.Test.YtglelglhogfnfaaGreatAbFast3
import Derived.Test.YtglelglhogfnfaaGreatRows
import Derived.KernelRfl
namespace Go.Proofs.YtglelglhogfnfaaGreat.runs
open Go.Ab
noncomputable section

def okRet : CRes → Bool
  | .ret (.bool true) _ _ => true
  | _ => false

theorem okRet_spec {r : CRes} (h : okRet r = true) : ∃ par σ, r = .ret (.bool true) par σ := by
  unfold okRet at h
  split at h
  · exact ⟨_, _, rfl⟩
  · cases h

abbrev S (i : Nat) : Value := .complex .f64 i 0
abbrev I (n : Int) : Value := .int .i64 n
abbrev U (n : Int) : Value := .int .u64 n
abbrev B (n : Int) : Value := .int .u8 n
abbrev T : Value := .bool true
abbrev F : Value := .bool false

/-- 0, 1: the tags; 2, 3: as uint64; 4, 5: shifted by 8; 6, 7: low bytes; 8, 9: high bytes; 10, 11: the low bytes as uint64; 12, 13: the high parts; 20: a request to create; 21: a flush; 22: its answer; 23: a request for a stat. -/
def encB : List (BinOp × Value × Value × Value) :=
  [(.shr, S 2, U 0, S 2), (.shr, S 3, U 0, S 3), (.shr, S 2, U 8, S 4), (.shr, S 3, U 8, S 5), (.shr, S 2, I 0, S 2), (.shr, S 3, I 0, S 3), (.shr, S 2, I 8, S 4), (.shr, S 3, I 8, S 5),
    (.shl, S 10, I 0, S 10), (.shl, S 11, I 0, S 11), (.shl, S 4, I 8, S 12), (.shl, S 5, I 8, S 13), (.or, U 0, S 10, S 10), (.or, U 0, S 11, S 11), (.or, S 10, S 12, S 2), (.or, S 11, S 13, S 3)]
def encC : List (Nat × Nat × Value × Value) :=
  [(22, 28, S 0, S 2), (22, 28, S 1, S 3), (28, 5, S 2, S 6), (28, 5, S 3, S 7), (28, 5, S 4, S 8), (28, 5, S 5, S 9), (5, 28, S 6, S 10), (5, 28, S 7, S 11), (5, 28, S 8, S 4), (5, 28, S 9, S 5), (28, 22, S 2, S 0), (28, 22, S 3, S 1)]
def tab : SymTab where
  bins := (.eql, S 0, S 1, F) :: (.eql, S 1, S 0, F) :: (.eql, S 0, S 0, T) :: (.eql, S 1, S 1, T) :: (.neq, S 22, S 22, F) :: encB
  convs := encC
/-- The tags are one. -/
def tabE : SymTab where
  bins := [(.eql, S 0, S 0, T)]
def lays : List (Nat × List Value) := [(20, [B 19, B 0, B 0, B 0, B 114, S 6, S 8, B 1, B 0, B 0, B 0, B 1, B 0, B 102, B 164, B 1, B 0, B 0, B 0]),
  (21, [B 9, B 0, B 0, B 0, B 108, S 7, S 9, S 6, S 8]), (22, [B 7, B 0, B 0, B 0, B 109, S 7, S 9]), (23, [B 11, B 0, B 0, B 0, B 124, S 6, S 8, B 1, B 0, B 0, B 0])]
def keq (b : Bool) (x y : Value) : Option Bool :=
  match b, x, y with
  | true, .complex .f64 i 0, .complex .f64 j 0 => bif Nat.ble i 1 && Nat.ble j 1 then some (Nat.beq i j) else none
  | _, _, _ => none

/-- Sorted keys. -/
def sumK (f : Nat) (args : List Value) (σ : St) : Option (Value × St) := bif Nat.beq f 40 then sumKeys 77 args σ else none
/-- `known` returns true; sorted keys. -/
def sum (f : Nat) (args : List Value) (σ : St) : Option (Value × St) := bif Nat.beq f 4 && args.isEmpty then some (.bool true, σ) else sumK f args σ

abbrev noKeq : Bool → Value → Value → Option Bool := fun _ _ _ => none
abbrev E0 : Env := envOf Tryz.prog 510 354 (fun _ _ => none) noKeq sumK
abbrev env (T : SymTab) : Env := envL (envOf Tryz.prog 510 354 (symOf T) keq sum) lays
def run (T : SymTab) (args : List Value) : Bool := okRet ((Ms.lv Tryz.prog (env T) 100000).callF 3 args none St.none)

theorem t1 : typesOk Tryz.prog.types.toList = true := by kernel_rfl
theorem t2 : fieldsOk (envOf Tryz.prog 510 354 (fun _ _ => none) noKeq fun _ _ _ => none) (List.range 510) = true := by kernel_rfl
theorem t3 : funcsOk Tryz.prog.funcs.toList = true := by kernel_rfl
theorem t4 : Nat.ble Tryz.prog.types.toList.length 510 = true := by kernel_rfl
theorem t5 : Nat.ble Tryz.prog.funcs.toList.length 510 = true := by kernel_rfl
theorem t6 : Tryz.prog.follows .mixedOrders = true := by kernel_rfl

end
end Go.Proofs.YtglelglhogfnfaaGreat.runs
