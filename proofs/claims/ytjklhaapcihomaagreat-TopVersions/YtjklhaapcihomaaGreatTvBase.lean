/- TopVersions: the tables of what is known of the size. -/
import Derived.Test.YtjklhaapcihomaaGreatAbLay
import Derived.Test.YtjklhaapcihomaaGreatAbFast3
import Derived.Test.YtjklhaapcihomaaGreatRows
import Derived.KernelRfl
namespace Go.Proofs.YtjklhaapcihomaaGreat.runs
open Go.Ab
noncomputable section

def okRet : CRes → Bool
  | .ret (.bool true) _ _ => true
  | _ => false

theorem okRet_spec {r : CRes} (h : okRet r = true) : ∃ par σ, r = .ret (.bool true) par σ := by
  unfold okRet at h
  split at h
  · exact ⟨_, _, rfl⟩
  · cases h

abbrev S (i : Nat) : Value := .complex .f64 i 0
abbrev I (n : Int) : Value := .int .i64 n
abbrev U (n : Int) : Value := .int .u64 n
abbrev W (n : Int) : Value := .int .u32 n
abbrev T : Value := .bool true
abbrev F : Value := .bool false

/-- 0: the size; 1: as uint64; 2, 3, 4: shifted; 5 to 8: its bytes; 9, 10, 11: as uint64; 12, 13, 14: shifted back; 15, 16: the first two, three together; 17: as int. -/
def encB : List (BinOp × Value × Value × Value) :=
  [(.shr, S 1, U 0, S 1), (.shr, S 1, U 8, S 2), (.shr, S 1, U 16, S 3), (.shr, S 1, U 24, S 4), (.shr, S 1, I 0, S 1), (.shr, S 1, I 8, S 2), (.shr, S 1, I 16, S 3), (.shr, S 1, I 24, S 4),
    (.shl, S 9, I 0, S 9), (.shl, S 10, I 8, S 12), (.shl, S 11, I 16, S 13), (.shl, S 4, I 24, S 14), (.or, U 0, S 9, S 9), (.or, S 9, S 12, S 15), (.or, S 15, S 13, S 16), (.or, S 16, S 14, S 1)]
def encC : List (Nat × Nat × Value × Value) :=
  [(22, 30, S 0, S 1), (30, 5, S 1, S 5), (30, 5, S 2, S 6), (30, 5, S 3, S 7), (30, 5, S 4, S 8), (5, 30, S 5, S 9), (5, 30, S 6, S 10), (5, 30, S 7, S 11), (5, 30, S 8, S 4), (30, 22, S 1, S 0)]
def tabLo : SymTab where
  bins := (.lss, S 0, W 160, T) :: (.gtr, S 0, W 8192, F) :: encB
  convs := encC
def tabMid : SymTab where
  bins := (.lss, S 0, W 160, F) :: (.gtr, S 0, W 8192, F) :: (.eql, S 0, S 0, T) :: (.eql, S 0, W 0, F) :: (.eql, S 17, I 0, F) :: (.lss, S 17, I 0, F) :: (.gtr, U 11, S 1, F) :: encB
  convs := (22, 3, S 0, S 17) :: (3, 30, S 17, S 1) :: encC
  mins := [(S 0, W 8192, S 0)]
def tabHi : SymTab where
  bins := (.lss, S 0, W 160, F) :: (.gtr, S 0, W 8192, T) :: encB
  convs := encC
  mins := [(S 0, W 8192, W 8192)]

/-- `known` returns true. -/
def sum (f : Nat) (args : List Value) : Option Value :=
  match args with
  | [] => bif Nat.beq f 4 then some (.bool true) else none
  | _ => none

abbrev noKeq : Bool → Value → Value → Option Bool := fun _ _ _ => none
abbrev env (T : SymTab) : Env := envOf Tryz.prog 450 307 (symOf T) noKeq sum
def run (T : SymTab) (args : List Value) : Bool := okRet ((Ms.lv Tryz.prog (env T) 100000).callF 3 args none St.none)

theorem t1 : typesOk Tryz.prog.types.toList = true := by kernel_rfl
theorem t2 : fieldsOk (envOf Tryz.prog 450 307 (fun _ _ => none) noKeq fun _ _ => none) (List.range 450) = true := by kernel_rfl
theorem t3 : funcsOk Tryz.prog.funcs.toList = true := by kernel_rfl
theorem t4 : Nat.ble Tryz.prog.types.toList.length 450 = true := by kernel_rfl
theorem t5 : Nat.ble Tryz.prog.funcs.toList.length 450 = true := by kernel_rfl
theorem t6 : Tryz.prog.follows .mixedOrders = true := by kernel_rfl

end
end Go.Proofs.YtjklhaapcihomaaGreat.runs
