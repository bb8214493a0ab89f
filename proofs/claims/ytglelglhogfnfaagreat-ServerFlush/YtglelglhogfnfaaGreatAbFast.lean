/- The same interpreter, laid for the kernel: small bodies, recursors themselves; every run of it is a run of the interpreter. -/
import Derived.Test.YtglelglhogfnfaaGreatAbMono
namespace Go.Ab

noncomputable section

theorem nat_rec_lit {β : Sort _} (a : β) (f : Nat → β → β) (n : Nat) : (Nat.rec (motive := fun _ => β) a f (n + 1)) = f n (Nat.rec (motive := fun _ => β) a f n) := rfl

def constR (v : Value) : Value :=
  match v with
  | .int k n => .int k n
  | .string s => .string s
  | v => bif closed v then v else poison

def evalR (τ : Tr Value) (o : Operand) : Value :=
  Operand.rec (motive := fun _ => Value) (fun t => Option.rec (motive := fun _ => Value) undef (fun v => v) (τ.get t)) constR (fun _ => poison) (fun f => .func (.func f) #[] #[]) o

theorem evalR_eq (τ : Tr Value) : evalR τ = evalO τ := by
  funext o
  cases o with
  | tmp t => show Option.rec undef (fun v => v) (τ.get t) = (τ.get t).getD undef; cases τ.get t <;> rfl
  | _ => rfl

/-! ## One operation -/

abbrev OpK := (Operand → Value) → St → OR

def kMove (x : Operand) : OpK := fun ρ σ => .val (ρ x) σ
def kPickV (ρ : Operand → Value) (a b : Operand) (σ : St) : Value → OR
  | .bool t => .val (if t then ρ a else ρ b) σ
  | _ => .fail
def kPick (c a b : Operand) : OpK := fun ρ σ => kPickV ρ a b σ (ρ c)
def kAlloc (E : Env) (e : Nat) : OpK := fun _ σ => match E.zero e with
    | some z => bif cellsAll z.cells.toList then newCells σ z.cells.toList 0 else .fail
    | none => .fail
def kBox (_ : Nat) (x : Operand) : OpK := fun ρ σ => bif cellsAll (ρ x).cells.toList then newCells σ (ρ x).cells.toList 0 else .fail
def kBuild (E : Env) (t : Nat) (parts : Array (Nat × Operand)) : OpK := fun ρ σ => OR.ofVal σ (aBuild E t (parts.toList.map fun (i, x) => (i, ρ x)))
def kBuildSlice (E : Env) (t len : Nat) (parts : Array (Nat × Operand)) : OpK := fun ρ σ => aBuildSlice E σ t len (parts.toList.map fun (i, x) => (i, ρ x))
def kLoadV (E : Env) (σ : St) (t : Nat) : Value → OR
  | .pointer (some a) => OR.ofVal σ (loadVar E σ t a)
  | _ => .fail
def kLoad (E : Env) (t : Nat) (a : Operand) : OpK := fun ρ σ => kLoadV E σ t (ρ a)
def kStoreV (E : Env) (σ : St) (t : Nat) (x : Value) : Value → OR
  | .pointer (some a) => OR.ofSt (storeVar E σ t a x)
  | _ => .fail
def kStore (E : Env) (t : Nat) (a x : Operand) : OpK := fun ρ σ => kStoreV E σ t (ρ x) (ρ a)
def kNilCheckV (E : Env) (σ : St) : Value → OR
  | .complex .f64 l 1 => .val (.complex .f64 l 1) σ
  | .pointer none | .nilIface | .nilFunc | .complex .. => .fail
  | .func (.method name) first captured => match first.toList with
    | .iface t v :: _ => bif aNotNil E t v name then .val (.func (.method name) first captured) σ else .fail
    | _ => .fail
  | v => .val v σ
def kNilCheck (E : Env) (x : Operand) : OpK := fun ρ σ => kNilCheckV E σ (ρ x)
def kBinOp (P : Program) (E : Env) (op : BinOp) (t : Nat) (x y : Operand) (_ : Nat) : OpK := fun ρ σ => OR.ofVal σ (aBin P E σ op t x y (ρ x) (ρ y))
def kUnOp (op : UnOp) (_ : Nat) (x : Operand) : OpK := fun ρ σ => OR.ofVal σ (aUn op (ρ x))
def kConvert (E : Env) (s d : Nat) (x : Operand) : OpK := fun ρ σ => aConv E σ s d (ρ x)
def kMakeIface (E : Env) (t : Nat) (x : Operand) : OpK := fun ρ σ => match E.under t with
    | some (.interface _) => .fail
    | some _ => .val (.iface t (ρ x)) σ
    | none => .fail
def kMakeFunc (fn : Fn) (first captured : Array Operand) : OpK := fun ρ σ => .val (.func fn (first.map ρ) (captured.map ρ)) σ
def kMakeMap (E : Env) (t : Nat) (r : Option Operand) : OpK := fun ρ σ => match r with
    | none => .val (.map (some σ.next)) (σ.new (.map [] [] 0))
    | some r => match E.under t, ρ r with
      | some (.map _ _), .int _ _ => .val (.map (some σ.next)) (σ.new (.map [] [] 0))
      | _, _ => .fail
def kMakeChan (E : Env) (t : Nat) (s : Operand) : OpK := fun ρ σ => match E.under t, ρ s with
    | some (.chan _ e), .int _ n => match E.bytes e with
      | some b => bif decide (0 ≤ n) && decide (n ≤ 9223372036854775807) && decide ((b : Int) * n ≤ 281474976710544) then .val (.chan (some σ.next)) (σ.new (.chan n.toNat [])) else .fail
      | none => .fail
    | _, _ => .fail
def kMakeSlice (E : Env) (t : Nat) (l c : Operand) : OpK := fun ρ σ => aMakeSlice E σ t (ρ l) (ρ c)
def kSlice (E : Env) (t : Nat) (x : Operand) (lo hi mx : Option Operand) : OpK := fun ρ σ => OR.ofVal σ (aSlice E σ t (ρ x) (lo.map ρ) (hi.map ρ) (mx.map ρ))
def kFieldAddr (E : Env) (s : Nat) (x : Operand) (f : Nat) : OpK := fun ρ σ => OR.ofVal σ (aFieldAddr E s (ρ x) f)
def kField (E : Env) (t : Nat) (x : Operand) (f : Nat) : OpK := fun ρ σ => OR.ofVal σ (aField E t (ρ x) f)
def kIndexAddr (E : Env) (t : Nat) (x i : Operand) : OpK := fun ρ σ => OR.ofVal σ (aIndexAddr E t (ρ x) (ρ i))
def kIndex (E : Env) (t : Nat) (x i : Operand) : OpK := fun ρ σ => OR.ofVal σ (aIndex E t (ρ x) (ρ i))
def kLookup (P : Program) (E : Env) (t : Nat) (x i : Operand) (ok : Bool) : OpK := fun ρ σ => OR.ofVal σ (aLookup P E σ t (ρ x) (ρ i) ok)
def kMapUpdate (P : Program) (E : Env) (t : Nat) (m k x : Operand) : OpK := fun ρ σ => OR.ofSt (aMapUpdate P E σ t (ρ m) (ρ k) (ρ x))
def kTypeAssert (E : Env) (x : Operand) (_ a : Nat) (ok : Bool) : OpK := fun ρ σ => OR.ofVal σ (aTypeAssert E (ρ x) a ok)
def kExtractV (σ : St) (i : Nat) : Value → OR
  | .tuple vs => OR.ofVal σ vs[i]?
  | _ => .fail
def kExtract (t : Operand) (i : Nat) : OpK := fun ρ σ => kExtractV σ i (ρ t)
def kCall (P : Program) (E : Env) (c : Call) : OpK := fun ρ σ => aCall P E σ ρ c
def kDefer (c : Call) : OpK := fun ρ σ => match aDefer ρ c with
    | some d => .defer d σ
    | none => .fail
def kPanic (x : Operand) : OpK := fun ρ σ => match ρ x with
    | .iface t v => .panic (.iface t v) σ
    | _ => .fail
def kSend (ch x : Operand) : OpK := fun ρ _ => .comm [{ chan := ρ ch, send := some (ρ x), zero := .tuple #[] }] true .send
def kRecv (E : Env) (t : Nat) (ch : Operand) (ok : Bool) : OpK := fun ρ _ => match E.under t with
    | some (.chan _ e) => match E.zero e with
      | some z => .comm [{ chan := ρ ch, send := none, zero := z }] true (.recv ok)
      | none => .fail
    | _ => .fail
def kSelect (E : Env) (cases : Array SelectCase) (blocking : Bool) : OpK := fun ρ _ =>
    match cases.toList.mapM fun s => (E.zero s.elem).map fun z => ({ chan := ρ s.chan, send := s.send.map ρ, zero := z } : CommCase) with
    | some cs => .comm cs blocking .select
    | none => .fail
def kRange (E : Env) (t : Nat) (x : Operand) : OpK := fun ρ σ => aRange E σ t (ρ x)
def kNext (x : Operand) (s : Bool) : OpK := fun ρ σ => bif s then .fail else aNext σ (ρ x)
def kEntry (x : Operand) : OpK := fun ρ σ => aEntry σ (ρ x)
def kFail : OpK := fun _ _ => .fail

def op0R (P : Program) (E : Env) (o : Op) : OpK :=
  Op.rec (motive := fun _ => OpK) kMove kMove kPick (kAlloc E) kBox (kBuild E) (kBuildSlice E) (kMapUpdate P E) (kLoad E) (kStore E) (fun _ => kFail) (fun _ => kFail) (kNilCheck E) (kBinOp P E) kUnOp (kConvert E)
    (fun _ _ => kFail) (kMakeIface E) kMakeFunc (kMakeMap E) (kMakeChan E) (kMakeSlice E) (kSlice E) (kFieldAddr E) (kField E) (kIndexAddr E) (kIndex E) (kLookup P E) (kMapUpdate P E) (fun _ _ _ => kFail) (fun _ _ _ _ => kFail) (kRange E)
    kNext kEntry (kTypeAssert E) kExtract (kCall P E) (fun _ => kFail) kDefer kPanic kSend (kRecv E) (kSelect E) o

def failR (E : Env) (o : Op) (ρ : Operand → Value) (σ : St) : OR := bif symOp o then OR.ofVal σ (E.sym o (o.operands.toList.map ρ)) else .fail

def opR (P : Program) (E : Env) (o : Op) (ρ : Operand → Value) (σ : St) : OR :=
  OR.rec (motive := fun _ => OR) OR.val OR.enter OR.round OR.defer OR.recover OR.comm OR.panic (failR E o ρ σ) (op0R P E o ρ σ)

theorem op0R_eq (P : Program) (E : Env) (ρ : Operand → Value) (o : Oper) (σ : St) : op0R P E o.op ρ σ = aop0 P E ρ o σ := by
  unfold aop0
  cases o.op <;> first
    | rfl
    | (rename_i c a b; show kPickV ρ a b σ (ρ c) = _; cases ρ c <;> rfl)
    | (rename_i t a x; show kStoreV E σ t (ρ x) (ρ a) = _; cases ρ a <;> (try rfl); rename_i p; cases p <;> rfl)
    | (rename_i t a; show kLoadV E σ t (ρ a) = _; cases ρ a <;> (try rfl); rename_i p; cases p <;> rfl)
    | (rename_i x; show kNilCheckV E σ (ρ x) = _; unfold kNilCheckV; rfl)
    | (rename_i t i; show kExtractV σ i (ρ t) = _; cases ρ t <;> rfl)

theorem opR_eq (P : Program) (E : Env) (ρ : Operand → Value) (o : Oper) (σ : St) : opR P E o.op ρ σ = aop P E ρ o σ := by
  unfold opR aop orSym failR
  rw [op0R_eq]
  cases aop0 P E ρ o σ <;> rfl

end
end Go.Ab
