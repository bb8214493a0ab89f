/- FilesGone: the tables of what is known of the texts, and the runs. -/
import Derived.Test.YtpfchicebkkllaaGreatAbSym
import Derived.Test.YtpfchicebkkllaaGreatAbFast3
import Derived.Test.YtpfchicebkkllaaGreatRows
import Derived.KernelRfl
namespace Go.Proofs.YtpfchicebkkllaaGreat.runs
open Go.Ab
noncomputable section

def okRet : CRes → Bool
  | .ret (.bool true) _ _ => true
  | _ => false

theorem okRet_spec {r : CRes} (h : okRet r = true) : ∃ par σ, r = .ret (.bool true) par σ := by
  unfold okRet at h
  split at h
  · exact ⟨_, _, rfl⟩
  · cases h

abbrev S (i : Nat) : Value := .complex .f64 i 0
abbrev I (n : Int) : Value := .int .i64 n
abbrev U (n : Int) : Value := .int .u64 n
abbrev T : Value := .bool true
abbrev F : Value := .bool false
abbrev E : Value := .string ⟨#[]⟩

/-- 0, 1: the texts; 2: the number; 3, 4: the texts' lengths; 5: the first one's as uint64; 6: both texts; 7, 8: their length; 9: 4096 less the first one's length; 10, 11: the lengths as uint32; 12: the second one's as uint64. -/
def tab (r : Int) : SymTab where
  bins := [(.rem, S 2, .int .u8 10, .int .u8 r),
    (.gtr, S 3, I 300, F), (.gtr, S 4, I 300, F), (.gtr, S 3, I 4096, F), (.gtr, S 3, I 16384, F), (.gtr, S 4, I 4096, F), (.gtr, S 4, I 16384, F), (.gtr, S 7, I 16384, F), (.gtr, S 5, U 4096, F), (.gtr, S 4, S 9, F), (.gtr, I 0, S 9, F),
    (.leq, S 3, S 3, T), (.neq, S 6, S 6, F), (.neq, S 0, S 0, F), (.neq, S 1, S 1, F),
    (.sub, I 4096, S 3, S 9), (.sub, S 3, S 3, I 0), (.sub, S 3, I 0, S 3),
    (.add, I 0, S 3, S 3), (.add, I 0, S 4, S 4), (.add, I 0, S 7, S 7), (.add, S 3, S 4, S 7), (.add, S 0, S 1, S 6), (.add, S 0, E, S 0), (.add, E, S 0, S 0), (.add, S 1, E, S 1), (.add, E, S 1, S 1), (.add, S 6, E, S 6),
    (.eql, S 0, E, F), (.eql, S 1, E, F)]
  lens := [(9, S 0, S 3), (9, S 1, S 4), (9, S 6, S 7)]
  mins := [(S 3, I 0, I 0), (S 4, I 0, I 0), (S 7, S 3, S 3), (U 0, S 8, U 0), (U 0, S 5, U 0), (U 0, S 12, U 0), (U 1000, S 8, S 8), (U 1000, S 5, S 5), (U 1000, S 12, S 12)]
  convs := [(3, 32, S 3, S 11), (3, 32, S 4, S 10), (3, 27, S 3, S 5), (3, 27, S 4, S 12), (3, 27, S 7, S 8), (27, 3, S 5, S 3)]
  slices := [(9, S 0, none, some (S 3), S 0), (9, S 6, none, some (S 8), S 6), (9, S 6, some (I 0), none, S 6), (9, S 0, some (S 3), none, E), (9, S 0, none, some (S 5), S 0), (9, S 1, none, some (S 12), S 1), (9, S 0, some (I 0), none, S 0), (9, S 1, some (I 0), none, S 1)]

/-- The first text is too long; the second one is. -/
def tabA : SymTab where
  bins := [(.gtr, S 3, I 300, T)]
  lens := [(9, S 0, S 3)]
def tabB : SymTab where
  bins := [(.gtr, S 3, I 300, F), (.gtr, S 4, I 300, T)]
  lens := [(9, S 0, S 3), (9, S 1, S 4)]

/-- `known` returns true. -/
def sum (f : Nat) (args : List Value) : Option Value :=
  match args with
  | [] => bif Nat.beq f 4 then some (.bool true) else none
  | _ => none

abbrev noKeq : Bool → Value → Value → Option Bool := fun _ _ _ => none
abbrev env (T : SymTab) : Env := envOf Tryz.prog 300 130 (symOf T) noKeq sum
def run (T : SymTab) (args : List Value) : Bool := okRet ((Ms.lv Tryz.prog (env T) 100000).callF 3 args none St.none)

theorem knows : okRet ((Ms.lv Tryz.prog (envOf Tryz.prog 300 130 (fun _ _ => none) noKeq fun _ _ => none) 100000).callF 4 [] none St.none) = true := by kernel_rfl
theorem t1 : typesOk Tryz.prog.types.toList = true := by kernel_rfl
theorem t2 : fieldsOk (envOf Tryz.prog 300 130 (fun _ _ => none) noKeq fun _ _ => none) (List.range 300) = true := by kernel_rfl
theorem t3 : funcsOk Tryz.prog.funcs.toList = true := by kernel_rfl
theorem t4 : Nat.ble Tryz.prog.types.toList.length 300 = true := by kernel_rfl
theorem t5 : Nat.ble Tryz.prog.funcs.toList.length 300 = true := by kernel_rfl
theorem t6 : Tryz.prog.follows .mixedOrders = true := by kernel_rfl
theorem runA : run tabA [S 0, S 1, S 2] = true := by kernel_rfl
theorem runB : run tabB [S 0, S 1, S 2] = true := by kernel_rfl

end
end Go.Proofs.YtpfchicebkkllaaGreat.runs
