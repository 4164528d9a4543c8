/- Operations of the interpreter, made for quick evaluation: what is known of an operation by its text alone is found once. -/
import Derived.Test.YtedibiiolneooaaDoorC36

namespace Go.Can
open Go

inductive FOp where
  | mov (x : Operand)
  | pick (c a b : Operand)
  | alloc (z : List Value) (t : TypeId)
  | load1 (x : Operand)
  | loadN (n : Nat) (x : Operand)
  | store (n : Nat) (x v : Operand)
  | nilChk (x : Operand)
  | bin (op : BinOp) (x y : Operand)
  | addOff (n : Nat) (x : Operand)
  | idxS (es : Nat) (x i : Operand)
  | idxA (len n : Nat) (x i : Operand)
  | extr (n : Nat) (x : Operand)
  | lenS (x : Operand)
  | lenT (x : Operand)
  | idxT (x i : Operand)
  | callS (g : FuncId) (args : List Operand)
  | callV (f : Operand) (args : List Operand)
  | konst (v : Value)
  | not (x : Operand)
  | slow

def isConst : Operand → Bool
  | .const _ => true
  | _ => false

def constEv : Operand → Value
  | .const v => v
  | _ => undef

def fBuild (P : Program) (t : TypeId) (parts : Array (Nat × Operand)) (o : Oper) : FOp :=
  match zeroB P t with
  | some _ =>
    match parts.toList.all (fun p => isConst p.2) with
    | true => (match pureRun P (execOp constEv o) with | some (.ok (.value v)) => .konst v | _ => .slow)
    | false => .slow
  | none => .slow

def fLoad (P : Program) (t : TypeId) (x : Operand) : FOp :=
  match isAggB P t, sizeB P t with
  | some false, _ => .load1 x
  | some true, some (n + 1) => .loadN (n + 1) x
  | _, _ => .slow

def fStore (P : Program) (t : TypeId) (x v : Operand) : FOp :=
  match sizeB P t with
  | some n => .store n x v
  | none => .slow

def fField (P : Program) (s : TypeId) (x : Operand) (f : Nat) : FOp :=
  match P.underlying s with
  | some (.struct fields) =>
    match fields[f]? with
    | some fd =>
      match sizeB P fd.type with
      | some (_ + 1) => .addOff fd.offset x
      | _ => .slow
    | none => .slow
  | _ => .slow

def fIndex (P : Program) (t : TypeId) (x ix : Operand) : FOp :=
  match P.underlying t with
  | some (.slice e) =>
    match sizeB P e with
    | some es => .idxS es x ix
    | none => .slow
  | some (.array len e) =>
    match sizeB P e with
    | some n => .idxA len n x ix
    | none => .slow
  | _ => .slow

def fCall (P : Program) (c : Call) : FOp :=
  match c.callee with
  | .builtin .len =>
    match (c.argTypes[0]?).bind P.underlying, c.args.toList with
    | some (.slice _), [x] => .lenS x
    | some .string, [x] => .lenT x
    | _, _ => .slow
  | .value (.func g) =>
    match P.funcs[g]? with
    | some fn => (match fn.body with | some _ => .callS g c.args.toList | none => .slow)
    | none => .slow
  | .value f => .callV f c.args.toList
  | _ => .slow

def fIdx (P : Program) (t : TypeId) (x ix : Operand) : FOp :=
  match P.underlying t with
  | some .string => .idxT x ix
  | _ => .slow

def fAlloc (P : Program) (t : TypeId) : FOp :=
  match zeroB P t with
  | some z => .alloc z.cells.toList t
  | none => .slow

def fop (P : Program) (o : Oper) : FOp :=
  match o.op with
  | .move x => .mov x
  | .assign x => .mov x
  | .pick c a b => .pick c a b
  | .alloc t => fAlloc P t
  | .load t x => fLoad P t x
  | .store t x v => fStore P t x v
  | .nilCheck x => .nilChk x
  | .binOp op _ x y _ => .bin op x y
  | .fieldAddr s x f => fField P s x f
  | .indexAddr t x ix => fIndex P t x ix
  | .extract x n => .extr n x
  | .index t x ix => fIdx P t x ix
  | .call c => fCall P c
  | .build t parts => fBuild P t parts o
  | .unOp .not _ x => .not x
  | _ => .slow

/-! ## What they do -/

noncomputable def movF (t : Tr Value) (x : Operand) (H : Heap) : Option Res :=
  match x with
  | .tmp n => (match getF t n with | some v => some (.val v H) | none => some (.val undef H))
  | .const v => some (.val v H)
  | .global g => some (.val (.pointer (some ⟨g, 0, none⟩)) H)
  | .func f => some (.val (.func (.func f) #[] #[]) H)

noncomputable def pickF (t : Tr Value) (c a b : Operand) (H : Heap) : Option Res :=
  match evF t c with
  | .bool true => movF t a H
  | .bool false => movF t b H
  | _ => none

noncomputable def ptrF (v : Value) (k : Nat → Nat → Option Res) : Option Res :=
  match v with
  | .pointer (some ⟨c, off, none⟩) => k c off
  | _ => none

noncomputable def load1F (x : Value) (H : Heap) : Option Res :=
  ptrF x fun c off =>
    match readF H c with
    | some b =>
      (match nthF b.cells off with
      | some v => (match known v with | true => some (.val v H) | false => none)
      | none => none)
    | none => none

noncomputable def loadNF (n : Nat) (x : Value) (H : Heap) : Option Res :=
  ptrF x fun c off =>
    match readF H c with
    | some b =>
      (match takeK n (dropF off b.cells) with
      | some l => some (.val (.agg ⟨l⟩) H)
      | none => none)
    | none => none

noncomputable def storeF (n : Nat) (x v : Value) (H : Heap) : Option Res :=
  ptrF x fun c off =>
    match v.cells with
    | ⟨l⟩ =>
      match Nat.beq (lenF l (nat_lit 0)) n with
      | true => (match wrF H c off l with | some H' => some (.skip H') | none => none)
      | false => none

noncomputable def nilChkF (P : Program) (t : Tr Value) (x : Operand) (o : Oper) (H : Heap) : Option Res :=
  match evF t x with
  | .pointer (some a) => some (.val (.pointer (some a)) H)
  | _ => cop P (evF t) o H

noncomputable def binOpF (P : Program) (t : Tr Value) (op : BinOp) (x y : Operand) (o : Oper) (H : Heap) : Option Res :=
  match binF op (evF t x) (evF t y) with
  | some v => some (.val v H)
  | none => cop P (evF t) o H

noncomputable def idxSF (es : Nat) (x i : Value) (H : Heap) : Option Res :=
  match x with
  | .slice (some ⟨c, off, some e⟩) len _ =>
    (match i with
    | .int _ (.ofNat n) =>
      (match Nat.ble (Nat.succ n) len, Nat.beq e es with
      | true, true => some (.val (.pointer (some ⟨c, succF (Nat.add off (Nat.mul n e)) fun m => m, none⟩)) H)
      | _, _ => none)
    | _ => none)
  | _ => none

noncomputable def idxAF (len sz : Nat) (x i : Value) (H : Heap) : Option Res :=
  ptrF x fun c off =>
    match i with
    | .int _ (.ofNat n) =>
      (match Nat.ble (Nat.succ n) len with
      | true => some (.val (.pointer (some ⟨c, succF (Nat.add off (Nat.mul n sz)) fun m => m, none⟩)) H)
      | false => none)
    | _ => none

noncomputable def extrF (n : Nat) (x : Value) (H : Heap) : Option Res :=
  match x with
  | .tuple ⟨l⟩ => (match nthF l n with | some v => some (.val v H) | none => none)
  | _ => none

noncomputable def lenSF (P : Program) (t : Tr Value) (x : Operand) (o : Oper) (H : Heap) : Option Res :=
  match evF t x with
  | .slice _ n _ => some (.val (goInt n) H)
  | _ => cop P (evF t) o H

noncomputable def lenTF (P : Program) (t : Tr Value) (x : Operand) (o : Oper) (H : Heap) : Option Res :=
  match evF t x with
  | .string s => some (.val (goInt (Int.ofNat (lenF s.data.toList (nat_lit 0)))) H)
  | _ => cop P (evF t) o H

noncomputable def idxTF (P : Program) (t : Tr Value) (x i : Operand) (o : Oper) (H : Heap) : Option Res :=
  match evF t x, evF t i with
  | .string s, .int _ (.ofNat n) =>
    (match nthF s.data.toList n with
    | some b => some (.val (.int .u8 (Int.ofNat b.toNat)) H)
    | none => cop P (evF t) o H)
  | _, _ => cop P (evF t) o H

noncomputable def callVF (P : Program) (t : Tr Value) (f : Operand) (args : List Operand) (o : Oper) (H : Heap) : Option Res :=
  match evF t f with
  | .func (.func g) ⟨l⟩ ⟨m⟩ =>
    (match P.funcs[g]? with
    | some fn => (match fn.body with | some _ => some (.enter g ⟨appF l (appF (mapF (evF t) args) m)⟩ H) | none => cop P (evF t) o H)
    | none => none)
  | _ => cop P (evF t) o H

noncomputable def notV (v : Value) : Option Value :=
  match v with
  | .bool b => some (.bool (!b))
  | _ => none

noncomputable def notF (P : Program) (t : Tr Value) (x : Operand) (o : Oper) (H : Heap) : Option Res :=
  match notV (evF t x) with
  | some v => some (.val v H)
  | none => cop P (evF t) o H

noncomputable def runF (P : Program) (t : Tr Value) (f : FOp) (o : Oper) (H : Heap) : Option Res :=
  match f with
  | .mov x => movF t x H
  | .pick c a b => pickF t c a b H
  | .alloc z ty => some (.val (ptr H.next) (newF H z ty true false))
  | .load1 x => load1F (evF t x) H
  | .loadN n x => loadNF n (evF t x) H
  | .store n x v => storeF n (evF t x) (evF t v) H
  | .nilChk x => nilChkF P t x o H
  | .bin op x y => binOpF P t op x y o H
  | .addOff n x => ptrF (evF t x) fun c off => some (.val (.pointer (some ⟨c, succF (Nat.add off n) fun m => m, none⟩)) H)
  | .idxS es x i => idxSF es (evF t x) (evF t i) H
  | .idxA len n x i => idxAF len n (evF t x) (evF t i) H
  | .extr n x => extrF n (evF t x) H
  | .lenS x => lenSF P t x o H
  | .lenT x => lenTF P t x o H
  | .idxT x i => idxTF P t x i o H
  | .callS g args => some (.enter g ⟨mapF (evF t) args⟩ H)
  | .callV f args => callVF P t f args o H
  | .konst v => some (.val v H)
  | .not x => notF P t x o H
  | .slow => cop P (evF t) o H

/-! ## Code -/

noncomputable def putF (a : CAct) (d : Option Tmp) (v : Value) : CAct :=
  match d with
  | some d => { t := setF v a.t d, defers := a.defers }
  | none => a

noncomputable def execOneF (P : Program) (cal : Cal) (o : Oper) (a : CAct) (H : Heap) : Option (Except Value CAct × Heap) :=
  match runF P a.t (fop P o) o H with
  | some (.val v H') => some (.ok (putF a o.dst v), H')
  | some (.skip H') => some (.ok (putF a o.dst undef), H')
  | some (.pan v H') => some (.error v, H')
  | some (.defer d H') => some (.ok (putF { a with defers := d :: a.defers } o.dst undef), H')
  | some (.enter f args H') =>
    match cal f args H' with
    | some (.ret v, H'') => some (.ok (putF a o.dst v), H'')
    | some (.pan v, H'') => some (.error v, H'')
    | none => none
  | none => none

/-- The temporary that an operation's guard asks, and what it must be. -/
def guardT (ops : Array Oper) (o : Oper) : Option (Option Tmp × Bool) :=
  match o.guard with
  | none => none
  | some (j, want) => some ((ops[j]?).bind (·.dst), want)

noncomputable def wantedF (ops : Array Oper) (a : CAct) (o : Oper) : Option Bool :=
  match guardT ops o with
  | none => some true
  | some (none, _) => some false
  | some (some d, want) =>
    match getF a.t d with
    | some (.bool b) => some (b == want)
    | some (.chan _) => none
    | some _ => some false
    | none => wantedC ops a o

noncomputable def opsF (P : Program) (cal : Cal) (ops : Array Oper) (l : List Oper) : CAct → Heap → Option (X × CAct × Heap) :=
  List.rec (motive := fun _ => CAct → Heap → Option (X × CAct × Heap)) (fun a H => some (.normal, a, H))
    (fun o _ ih a H =>
      match wantedF ops a o with
      | some true =>
        (match execOneF P cal o a H with
        | some (.ok a', H') => ih a' H'
        | some (.error v, H') => some (.pan v, a, H')
        | none => none)
      | some false => ih (putF a o.dst undef) H
      | none => none) l

/-- In a region that draws: a panic must come at the one place. -/
noncomputable def opsDF (P : Program) (cal : Cal) (ops : Array Oper) (l : List Oper) : Nat → CAct → Heap → Option (X × CAct × Heap) :=
  List.rec (motive := fun _ => Nat → CAct → Heap → Option (X × CAct × Heap)) (fun _ a H => some (.normal, a, H))
    (fun o _ ih i a H =>
      match wantedF ops a o with
      | some true =>
        (match execOneF P cal o a H with
        | some (.ok a', H') => ih (Nat.succ i) a' H'
        | some (.error v, H') =>
          if cls P o = .eff && ((List.range' (i + 1) (ops.size - (i + 1))).all (fun j => ahead (Region.before ops) i j) && (List.range i).all (fun j => ahead (Region.before ops) j i)) then some (.pan v, a, H') else none
        | none => none)
      | some false => ih (Nat.succ i) (putF a o.dst undef) H
      | none => none) l

/-- As opsDF, with what held ahead of each operation, the last one first. -/
noncomputable def opsTF (P : Program) (cal : Cal) (ops : Array Oper) (l : List Oper) : Nat → CAct → Heap → List (CAct × Heap) → Option (X × CAct × Heap × List (CAct × Heap)) :=
  List.rec (motive := fun _ => Nat → CAct → Heap → List (CAct × Heap) → Option (X × CAct × Heap × List (CAct × Heap))) (fun _ a H tr => some (.normal, a, H, (a, H) :: tr))
    (fun o _ ih i a H tr =>
      match wantedF ops a o with
      | some true =>
        (match execOneF P cal o a H with
        | some (.ok a', H') => ih (Nat.succ i) a' H' ((a, H) :: tr)
        | some (.error v, H') =>
          if cls P o = .eff && ((List.range' (i + 1) (ops.size - (i + 1))).all (fun j => ahead (Region.before ops) i j) && (List.range i).all (fun j => ahead (Region.before ops) j i)) then some (.pan v, a, H', (a, H) :: tr) else none
        | none => none)
      | some false => ih (Nat.succ i) (putF a o.dst undef) H ((a, H) :: tr)
      | none => none) l

noncomputable def floatOkF (P : Program) (ops : Array Oper) (tr : List (CAct × Heap)) (f : Nat × Nat) : Bool :=
  match ops[f.1]?, nthF tr f.1, nthF tr f.2, nthF tr (f.2 + 1) with
  | some oi, some (ai, Hi), some (_, Hk), some (_, Hk') =>
    (match wantedF ops ai oi with
    | some true => sameRes (runF P ai.t (fop P oi) oi Hi) (runF P ai.t (fop P oi) oi Hk) && sameRes (runF P ai.t (fop P oi) oi Hi) (runF P ai.t (fop P oi) oi Hk')
    | _ => true)
  | _, _, _, _ => true

noncomputable def allP (p : Nat × Nat → Bool) (l : List (Nat × Nat)) : Bool :=
  List.rec (motive := fun _ => Bool) true (fun x _ ih => match p x with | true => ih | false => false) l

noncomputable def regF (P : Program) (cal : Cal) (ops : Array Oper) (draw : Bool) (a : CAct) (H : Heap) : Option (X × CAct × Heap) :=
  match draw with
  | false => opsF P cal ops ops.toList a H
  | true =>
    match floats P ops with
    | [] => opsDF P cal ops ops.toList (nat_lit 0) a H
    | fl =>
      match opsTF P cal ops ops.toList (nat_lit 0) a H [] with
      | some (x, a', H', tr) => (match allP (floatOkF P ops tr.reverse) fl with | true => some (x, a', H') | false => none)
      | none => none

noncomputable def iterF (step : CAct → Heap → Option (X × CAct × Heap)) (k : Nat) : CAct → Heap → Option (X × CAct × Heap) :=
  Nat.rec (motive := fun _ => CAct → Heap → Option (X × CAct × Heap)) (fun _ _ => none)
    (fun _ ih a H =>
      match step a H with
      | some (x, a', H') => (match x with | .normal => ih a' H' | x => some (x, a', H'))
      | none => none) k

noncomputable def execF (P : Program) (cal : Cal) (k : Nat) (c : Code) : CAct → Heap → Option (X × CAct × Heap) :=
  Code.rec (motive := fun _ => CAct → Heap → Option (X × CAct × Heap))
    (fun a H => some (.normal, a, H))
    (fun _ ops draw a H => regF P cal ops draw a H)
    (fun _ _ ex ey a H =>
      match ex a H with
      | some (x, a', H') => (match x with | .normal => ey a' H' | x => some (x, a', H'))
      | none => none)
    (fun c _ _ ex ey a H =>
      match evF a.t c with
      | .bool true => ex a H
      | .bool false => ey a H
      | _ => none)
    (fun id _ eb a H =>
      match eb a H with
      | some (x, a', H') =>
        (match x with
        | .exit i => (match Nat.beq i id with | true => some (.normal, a', H') | false => some (.exit i, a', H'))
        | x => some (x, a', H'))
      | none => none)
    (fun _ eb a H => iterF eb k a H)
    (fun _ _ _ _ _ _ _ _ => none)
    (fun id a H => some (.exit id, a, H))
    (fun _ eb a H =>
      match eb a H with
      | some (x, a', H') => (match x with | .goto _ => none | x => some (x, a', H'))
      | none => none)
    (fun _ a H => some (.normal, a, H))
    (fun l a H => some (.goto l, a, H))
    (fun a H => some (.ret, a, H))
    (fun _ _ _ => none) c

noncomputable def initF (l : List Value) : Nat → Tr Value → Tr Value :=
  List.rec (motive := fun _ => Nat → Tr Value → Tr Value) (fun _ t => t) (fun v _ ih i t => ih (Nat.succ i) (setF v t i)) l

/-- What a function's code is: none: it may not be entered. -/
def bodyF (P : Program) (bad : List Nat) (f : Nat) : Option (Func × Code) :=
  if bad.contains f then none else
  match P.funcs[f]? with
  | none => none
  | some fn =>
    match fn.body with
    | none => none
    | some c => some (fn, c)

noncomputable def resQ (P : Program) (a : CAct) (H : Heap) (l : List ResultVar) : Option (List Value) :=
  List.rec (motive := fun _ => Option (List Value)) (some [])
    (fun r _ ih => match resultC P a H r with
      | some v => (match ih with | some vs => some (v :: vs) | none => none)
      | none => none) l

noncomputable def leaveF (P : Program) (bad : List Nat) (k : Nat) (fn : Func) (a : CAct) (u : UM) (H : Heap) : Option (End × Heap) :=
  match a.defers, u with
  | [], .ret =>
    (match resQ P a H fn.results.toList with
    | some [v] => some (.ret v, H)
    | some vs => some (.ret (.tuple ⟨vs⟩), H)
    | none => none)
  | [], .pan v false => some (.pan v, H)
  | ds, u => leave P bad (call P bad k) k fn a ds u H

noncomputable def callF (P : Program) (bad : List Nat) (n : Nat) : Cal :=
  Nat.rec (motive := fun _ => Cal) (fun _ _ _ => none)
    (fun n ih f args H =>
      match bodyF P bad f with
      | none => none
      | some (fn, c) =>
        match execF P ih n c { t := initF args.toList (nat_lit 0) .nil, defers := [] } H with
        | some (x, a, H') =>
          (match x with
          | .normal => leaveF P bad n fn a .ret H'
          | .ret => leaveF P bad n fn a .ret H'
          | .pan v => leaveF P bad n fn a (.pan v false) H'
          | _ => none)
        | none => none) n

end Go.Can
