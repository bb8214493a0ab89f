/- The quick run: operations in a row, code, calls; each run of it is one of the interpreter with enough fuel. -/
import Derived.Test.YtglelglhogfnfaaGreatAbFast
namespace Go.Ab

noncomputable section

/-! ## What is run -/

structure Ms where
  exec : Code → Fr → St → Res
  callF : Nat → List Value → Option FrameMode → St → CRes
  leave : Func → Fr → FrameMode → St → CRes

abbrev FrK := Fr → St → Res

def fPut (k : FrK) (dst : Option Nat) (v : Value) (n : Nat) (t : Tr Value) (d : List Deferred) (p : Option FrameMode) (σ : St) : Res :=
  Option.rec (motive := fun _ => Res) (k ⟨n, t, d, p⟩ σ)
    (fun i => Bool.rec (motive := fun _ => Res) (.fail "dst") (k ⟨n, t.set i (some v), d, p⟩ σ) (Nat.ble (Nat.succ i) n)) dst

def fCall (k : FrK) (dst : Option Nat) (n : Nat) (t : Tr Value) (d : List Deferred) (p : Option FrameMode) (r : CRes) : Res :=
  CRes.rec (motive := fun _ => Res) (fun v _ σ' => fPut k dst v n t d p σ') (fun chain _ σ' => .done (.panic chain) ⟨n, t, d, p⟩ σ') (fun w => .fail w) r

def fComm (k : FrK) (dst : Option Nat) (n : Nat) (t : Tr Value) (d : List Deferred) (p : Option FrameMode) (r : OR) : Res :=
  match r with
  | .val v σ' => fPut k dst v n t d p σ'
  | _ => .fail "comm"

/-! rounds -/

def roundB (l : Nat) (d : List Deferred) (p : Option FrameMode) : Res → SRes
  | .done e _ σ3 => roundEnd l d p e σ3
  | .fail w => .fail w

def roundO (m : Ms) (body : Code) (l : Nat) (d : List Deferred) (p : Option FrameMode) (fr : Fr) : Option St → SRes
  | some σ2 => roundB l d p (m.exec body fr σ2)
  | none => .fail "round"

def roundA (m : Ms) (body : Code) (l : Nat) (d : List Deferred) (p : Option FrameMode) : Res → SRes
  | .done .normal fr σ1 => roundO m body l d p fr (begun σ1 l)
  | _ => .fail "assign"

def roundF (m : Ms) (as bd : Code) (l : Nat) (d : List Deferred) (p : Option FrameMode) (σ : St) : Option Fr → SRes
  | some fr => roundA m bd l d p (m.exec as fr σ)
  | none => .fail "round"

def roundS (m : Ms) (l : Nat) (args : List Value) (d : List Deferred) (p : Option FrameMode) (σ : St) : Option Blk → SRes
  | some (.loop L) => roundF m L.assign L.body l d p σ (roundFr L args)
  | _ => .fail "round"

def fRound (k : FrK) (dst : Option Nat) (n : Nat) (t : Tr Value) (d : List Deferred) (p : Option FrameMode) : SRes → Res
  | .val v d' p' σ' => fPut k dst v n t d' p' σ'
  | .panic ch σ' => .done (.panic ch) ⟨n, t, d, p⟩ σ'
  | .fail w => .fail w

def fRes (m : Ms) (k : FrK) (dst : Option Nat) (n : Nat) (t : Tr Value) (d : List Deferred) (p : Option FrameMode) (σ : St) (r : OR) : Res :=
  OR.rec (motive := fun _ => Res)
    (fun v σ' => fPut k dst v n t d p σ')
    (fun f args _ => fCall k dst n t d p (m.callF f args none σ))
    (fun l args => fRound k dst n t d p (roundS m l args d p σ (σ.get l)))
    (fun df _ => bif isRound p then .fail "round" else fPut k dst undef n t (df :: d) p σ)
    (fun _ => bif isRound p then .fail "round" else fPut k dst (recoverP p).1 n t d (recoverP p).2 σ)
    (fun cs bl sh => fComm k dst n t d p (aComm σ cs bl sh))
    (fun v _ => .done (.panic [{ v, recovered := false }]) ⟨n, t, d, p⟩ σ)
    (.fail "op") r

def fGuard (_ : Ms) (go : FrK) (k : FrK) (dst : Option Nat) (n : Nat) (t : Tr Value) (d : List Deferred) (p : Option FrameMode) (σ : St) : Option Bool → Res
  | some true => go ⟨n, t, d, p⟩ σ
  | some false => fPut k dst undef n t d p σ
  | none => .fail "guard"

def fGo (P : Program) (E : Env) (m : Ms) (o : Oper) (k : FrK) (fr : Fr) (σ : St) : Res :=
  Fr.rec (motive := fun _ => Res) (fun n t d p => fRes m k o.dst n t d p σ (opR P E o.op (evalR t) σ)) fr

def fOp (P : Program) (E : Env) (m : Ms) (ops : Array Oper) (o : Oper) (k : FrK) (fr : Fr) (σ : St) : Res :=
  Fr.rec (motive := fun _ => Res) (fun n t d p =>
    Option.rec (motive := fun _ => Res) (fRes m k o.dst n t d p σ (opR P E o.op (evalR t) σ)) (fun _ => fGuard m (fGo P E m o k) k o.dst n t d p σ (aWanted ops t o)) o.guard) fr

def fOps (P : Program) (E : Env) (m : Ms) (ops : Array Oper) (l : List Oper) : FrK :=
  List.rec (motive := fun _ => FrK) (fun fr σ => .done .normal fr σ) (fun o _ ih => fOp P E m ops o ih) l

/-! drawn regions -/

abbrev DrK := Fr → St → St → DRes

def dMore (r : Rec) : DRes → DRes
  | .all rs fr'' σ'' => .all (r :: rs) fr'' σ''
  | .panic rs ch fr'' σ'' left => .panic (r :: rs) ch fr'' σ'' left
  | .fail w => .fail w

def dPut (k : DrK) (r : Rec) (n : Nat) (t : Tr Value) : DRes :=
  Option.rec (motive := fun _ => DRes) (dMore r (k ⟨n, t, r.ds', r.par'⟩ r.out (match r.k with | .eff => r.out | _ => r.base)))
    (fun i => Bool.rec (motive := fun _ => DRes) (.fail "dst") (dMore r (k ⟨n, t.set i (some r.v), r.ds', r.par'⟩ r.out (match r.k with | .eff => r.out | _ => r.base))) (Nat.ble (Nat.succ i) n)) r.o.dst

def dPanic (chain : List PanicEntry) (fr : Fr) (σ' : St) (rest : List Oper) : Cls → DRes
  | .eff => .panic [] chain fr σ' rest
  | _ => .fail "panic"

def dCall (k : DrK) (rest : List Oper) (o : Oper) (n : Nat) (t : Tr Value) (d : List Deferred) (p : Option FrameMode) (σ base : St) : CRes → DRes
  | .ret v _ σ' => dPut k { o, k := cls o.op, wanted := true, v, tmps := t, σ, base, ds := d, par := p, out := σ', ds' := d, par' := p } n t
  | .panicked chain _ σ' => dPanic chain ⟨n, t, d, p⟩ σ' rest (cls o.op)
  | .fail w => .fail w

def dComm (k : DrK) (o : Oper) (n : Nat) (t : Tr Value) (d : List Deferred) (p : Option FrameMode) (σ base : St) : OR → DRes
  | .val v σ' => dPut k { o, k := cls o.op, wanted := true, v, tmps := t, σ, base, ds := d, par := p, out := σ', ds' := d, par' := p } n t
  | _ => .fail "comm"

def dRound (k : DrK) (rest : List Oper) (o : Oper) (n : Nat) (t : Tr Value) (d : List Deferred) (p : Option FrameMode) (σ base : St) : SRes → DRes
  | .val v d' p' σ' => dPut k { o, k := cls o.op, wanted := true, v, tmps := t, σ, base, ds := d, par := p, out := σ', ds' := d', par' := p' } n t
  | .panic chain σ' => dPanic chain ⟨n, t, d, p⟩ σ' rest (cls o.op)
  | .fail w => .fail w

def dRes (m : Ms) (k : DrK) (rest : List Oper) (o : Oper) (n : Nat) (t : Tr Value) (d : List Deferred) (p : Option FrameMode) (σ base : St) : OR → DRes
  | .val v σ' => dPut k { o, k := cls o.op, wanted := true, v, tmps := t, σ, base, ds := d, par := p, out := σ', ds' := d, par' := p } n t
  | .enter f args _ => dCall k rest o n t d p σ base (m.callF f args none σ)
  | .round l args => dRound k rest o n t d p σ base (roundS m l args d p σ (σ.get l))
  | .defer df _ => bif isRound p then .fail "round" else dPut k { o, k := cls o.op, wanted := true, v := undef, tmps := t, σ, base, ds := d, par := p, out := σ, ds' := df :: d, par' := p } n t
  | .recover _ => bif isRound p then .fail "round" else dPut k { o, k := cls o.op, wanted := true, v := (recoverP p).1, tmps := t, σ, base, ds := d, par := p, out := σ, ds' := d, par' := (recoverP p).2 } n t
  | .comm cs bl sh => dComm k o n t d p σ base (aComm σ cs bl sh)
  | .panic v _ => dPanic [{ v, recovered := false }] ⟨n, t, d, p⟩ σ rest (cls o.op)
  | .fail => .fail "op"

def dOp (P : Program) (E : Env) (m : Ms) (_ : Array Oper) (o : Oper) (rest : List Oper) (k : DrK) (n : Nat) (t : Tr Value) (d : List Deferred) (p : Option FrameMode) (σ base : St) : Option Bool → DRes
  | some true => dRes m k rest o n t d p σ base (opR P E o.op (evalR t) σ)
  | some false => dPut k { o, k := cls o.op, wanted := false, v := undef, tmps := t, σ, base, ds := d, par := p, out := σ, ds' := d, par' := p } n t
  | none => .fail "guard"

def dOps (P : Program) (E : Env) (m : Ms) (ops : Array Oper) (l : List Oper) : DrK :=
  List.rec (motive := fun _ => DrK) (fun fr σ _ => .all [] fr σ) (fun o rest ih fr σ base => Fr.rec (motive := fun _ => DRes) (fun n t d p => dOp P E m ops o rest ih n t d p σ base (aWanted ops t o)) fr) l

def drawnEnd (P : Program) (E : Env) (bf : List Nat) : DRes → Res
  | .all rs fr' σ' => bif readsOk P E bf rs rs 0 then .done .normal fr' σ' else .fail "order"
  | .panic rs chain fr' σ' left =>
    bif readsOk P E bf rs rs 0 && leftOk bf rs.length left (rs.length + 1) then .done (.panic chain) { fr' with tmps := poisoned rs fr'.tmps } σ' else .fail "order"
  | .fail w => .fail w

/-! code -/

def thenK (k : FrK) (r : Res) : Res :=
  Res.rec (motive := fun _ => Res) (fun e fr σ => AEx.rec (motive := fun _ => Res) (k fr σ) (fun i => .done (.exit i) fr σ) (.done .ret fr σ) (fun c => .done (.panic c) fr σ) e) (fun w => .fail w) r

def blockK (id : Nat) (r : Res) : Res :=
  Res.rec (motive := fun _ => Res) (fun e fr σ => AEx.rec (motive := fun _ => Res) (.done .normal fr σ) (fun i => Bool.rec (motive := fun _ => Res) (.done (.exit i) fr σ) (.done .normal fr σ) (Nat.beq i id)) (.done .ret fr σ) (fun c => .done (.panic c) fr σ) e) (fun w => .fail w) r

def condK (a b : FrK) (fr : Fr) (σ : St) : Value → Res
  | .bool c => Bool.rec (motive := fun _ => Res) (b fr σ) (a fr σ) c
  | _ => .fail "cond"

def fRegion (P : Program) (E : Env) (m : Ms) (ops : Array Oper) (draw : Bool) : FrK :=
  Bool.rec (motive := fun _ => FrK) (fOps P E m ops ops.toList) (fun fr σ => drawnEnd P E (bfGo [] ops.toList) (dOps P E m ops ops.toList fr σ σ)) draw

def fRangeC (fr : Fr) (nx : Nat) : CRes → Res
  | .ret _ _ σ' => loopEnd (nx + 1) (mark nx fr) σ'
  | .panicked ch _ σ' => .done (.panic ch) (mark nx fr) σ'
  | .fail w => .fail w

def fRangeO (m : Ms) (σ1 : St) (fr : Fr) (nx : Nat) : OR → Res
  | .enter f args _ => fRangeC fr nx (m.callF f args none σ1)
  | _ => .fail "loop"

def fRange (E : Env) (m : Ms) (g : Operand) (ps : Array Nat) (as bd : Code) (fr : Fr) (σ : St) : Res :=
  bif isRound fr.par then .fail "nested" else fRangeO m (loopSt σ fr ps as bd) fr σ.next (loopCall E (loopSt σ fr ps as bd) (σ.next + 1) (evalR fr.tmps g))

def fExec (P : Program) (E : Env) (m : Ms) (c : Code) : FrK :=
  Code.rec (motive := fun _ => FrK) (fun fr σ => .done .normal fr σ) (fun _ ops draw => fRegion P E m ops draw) (fun _ _ ka kb fr σ => thenK kb (ka fr σ))
    (fun x _ _ ka kb fr σ => condK ka kb fr σ (evalR fr.tmps x)) (fun id _ ka fr σ => blockK id (ka fr σ)) (fun a ka fr σ => thenK (m.exec (.loop a)) (ka fr σ))
    (fun g ps as bd _ _ fr σ => fRange E m g ps as bd fr σ) (fun id fr σ => .done (.exit id) fr σ) (fun _ _ _ _ => .fail "code") (fun _ _ _ => .fail "code") (fun _ _ _ => .fail "code")
    (fun fr σ => .done .ret fr σ) (fun _ _ _ => .fail "code") c

/-! calls -/

def bodyK (m : Ms) (fn : Func) (r : Res) : CRes :=
  Res.rec (motive := fun _ => CRes) (fun e fr σ => AEx.rec (motive := fun _ => CRes) (m.leave fn fr .returning σ) (fun _ => .fail "exit") (m.leave fn fr .returning σ) (fun ch => m.leave fn fr (.panicking ch) σ) e) (fun w => .fail w) r

def bodyC (m : Ms) (fn : Func) (args : List Value) (par : Option FrameMode) (σ : St) : Option Code → CRes
  | some c => bodyK m fn (m.exec c ⟨Nat.max fn.ntmps args.length, laid args 0 .leaf, [], par⟩ σ)
  | none => .fail "body"

def bodyF (m : Ms) (args : List Value) (par : Option FrameMode) (σ : St) : Option Func → CRes
  | some fn => bodyC m fn args par σ fn.body
  | none => .fail "func"

def sumK (E : Env) (m : Ms) (f : Nat) (args : List Value) (σ : St) : Option (Value × St) → CRes
  | some r => sumRes σ r
  | none => bodyF m args none σ (E.func f)

def fCallF (E : Env) (m : Ms) (f : Nat) (args : List Value) (par : Option FrameMode) (σ : St) : CRes :=
  Option.rec (motive := fun _ => CRes) (sumK E m f args σ (E.sum f args σ)) (fun u => bodyF m args (some u) σ (E.func f)) par

def leaveV (par : Option FrameMode) (σ : St) : Option (List Value) → CRes
  | some vs => .ret (tupled vs) par σ
  | none => .fail "results"

def leaveR (E : Env) (fr : Fr) (u : FrameMode) (σ : St) (rs : List ResultVar) : CRes :=
  match u with
  | .returning => leaveV fr.par σ (resultsOf E σ fr.tmps rs)
  | .panicking ch => .panicked ch fr.par σ
  | .run => .fail "run"

def leaveC (m : Ms) (fn : Func) (fr : Fr) (ds : List Deferred) : CRes → CRes
  | .ret _ (some u') σ'' => m.leave fn { fr with defers := ds } (settle u') σ''
  | .panicked ch (some u') σ'' => m.leave fn { fr with defers := ds } (raised u' ch) σ''
  | .fail w => .fail w
  | _ => .fail "par"

def leaveK (m : Ms) (fn : Func) (fr : Fr) (ds : List Deferred) (u : FrameMode) (σ : St) : OR → CRes
  | .enter f args _ => leaveC m fn fr ds (m.callF f args (some u) σ)
  | _ => .fail "deferred"

def leaveU (E : Env) (m : Ms) (fn : Func) (fr : Fr) (d : Deferred) (ds : List Deferred) (u : FrameMode) (σ : St) : CRes :=
  match u with
  | .run => .fail "run"
  | u => leaveK m fn fr ds u σ (aTarget E σ d.target d.args.toList)

def leaveCol (m : Ms) (fn : Func) (fr : Fr) (ds : List Deferred) (i : Nat) (u : FrameMode) (σ : St) : Option Blk → CRes
  | some (.dfr false) => match u with
    | .run => .fail "run"
    | u => m.leave fn { fr with defers := ds } u (σ.put i (.dfr true))
  | _ => .fail "collected"

def leaveD (E : Env) (m : Ms) (fn : Func) (fr : Fr) (d : Deferred) (ds : List Deferred) (u : FrameMode) (σ : St) : Target → CRes
  | .collected i => leaveCol m fn fr ds i u σ (σ.get i)
  | _ => leaveU E m fn fr d ds u σ

def fLeave (E : Env) (m : Ms) (fn : Func) (fr : Fr) (u : FrameMode) (σ : St) : CRes :=
  match fr.defers with
  | [] => leaveR E fr u σ fn.results.toList
  | d :: ds => leaveD E m fn fr d ds u σ d.target

def Ms.next (P : Program) (E : Env) (m : Ms) : Ms := ⟨fExec P E m, fCallF E m, fLeave E m⟩
def Ms.none : Ms := ⟨fun _ _ _ => .fail "fuel", fun _ _ _ _ => .fail "fuel", fun _ _ _ _ => .fail "fuel"⟩
def Ms.lv (P : Program) (E : Env) (n : Nat) : Ms := Nat.rec (motive := fun _ => Ms) Ms.none (fun _ m => Ms.next P E m) n

end
end Go.Ab
