/- The interpreter in which the program's code is run; how its heap stands to the world. -/
import Derived.Calls
import Derived.Below
import Derived.Laws.IdiomCopy
import Derived.Orders

namespace Go.Can

inductive Tr (α : Type) where
  | nil
  | node (l : Tr α) (v : Option α) (r : Tr α)

namespace Tr
variable {α : Type}

def get : Tr α → Nat → Option α
  | .nil, _ => none
  | .node _ v _, 0 => v
  | .node l _ r, n + 1 => if n % 2 = 0 then l.get (n / 2) else r.get (n / 2)

def put : Nat → Tr α → Nat → α → Tr α
  | _, .nil, 0, x => .node .nil (some x) .nil
  | _, .node l _ r, 0, x => .node l (some x) r
  | 0, t, _ + 1, _ => t
  | k + 1, .nil, n + 1, x => if n % 2 = 0 then .node (put k .nil (n / 2) x) none .nil else .node .nil none (put k .nil (n / 2) x)
  | k + 1, .node l v r, n + 1, x => if n % 2 = 0 then .node (put k l (n / 2) x) v r else .node l v (put k r (n / 2) x)

def set (t : Tr α) (n : Nat) (x : α) : Tr α := put n t n x

theorem get_nil (n : Nat) : (Tr.nil : Tr α).get n = none := by cases n <;> rfl

theorem get_put : ∀ (k : Nat) (t : Tr α) (n : Nat) (x : α) (m : Nat), n ≤ k → (put k t n x).get m = if m = n then some x else t.get m := by
  intro k
  induction k with
  | zero =>
    intro t n x m hn
    obtain rfl : n = 0 := by omega
    cases t <;> cases m <;> simp [put, get]
  | succ k ih =>
    intro t n x m hn
    cases n with
    | zero => cases t <;> cases m <;> simp [put, get]
    | succ n =>
      have hle : n / 2 ≤ k := by omega
      cases t with
      | nil =>
        by_cases h : n % 2 = 0
        · simp only [put, h, if_true]
          cases m with
          | zero => simp [get]
          | succ m =>
            by_cases h' : m % 2 = 0
            · have e : (m / 2 = n / 2) ↔ (m + 1 = n + 1) := by omega
              simp [get, h', ih _ _ _ _ hle, e]
            · have e : ¬ (m + 1 = n + 1) := by omega
              simp [get, h']; omega
        · simp only [put, h, if_false]
          cases m with
          | zero => simp [get]
          | succ m =>
            by_cases h' : m % 2 = 0
            · simp [get, h']; omega
            · have e : (m / 2 = n / 2) ↔ (m + 1 = n + 1) := by omega
              simp [get, h', ih _ _ _ _ hle, e]
      | node l v r =>
        by_cases h : n % 2 = 0
        · simp only [put, h, if_true]
          cases m with
          | zero => simp [get]
          | succ m =>
            by_cases h' : m % 2 = 0
            · have e : (m / 2 = n / 2) ↔ (m + 1 = n + 1) := by omega
              simp [get, h', ih _ _ _ _ hle, e]
            · simp [get, h']; omega
        · simp only [put, h, if_false]
          cases m with
          | zero => simp [get]
          | succ m =>
            by_cases h' : m % 2 = 0
            · simp [get, h']; omega
            · have e : (m / 2 = n / 2) ↔ (m + 1 = n + 1) := by omega
              simp [get, h', ih _ _ _ _ hle, e]

theorem get_set (t : Tr α) (n : Nat) (x : α) (m : Nat) : (t.set n x).get m = if m = n then some x else t.get m := get_put n t n x m (Nat.le_refl _)
theorem get_set_same (t : Tr α) (n : Nat) (x : α) : (t.set n x).get n = some x := by simp [get_set]
theorem get_set_ne (t : Tr α) {n m : Nat} (x : α) (h : m ≠ n) : (t.set n x).get m = t.get m := by simp [get_set, h]
end Tr

end Go.Can

namespace Go.Can
open Go

mutual
/-- A value without addresses. -/
def flat : Value → Bool
  | .bool _ | .int _ _ | .float _ _ | .complex _ _ _ | .string _ | .nilFunc | .nilIface => true
  | .pointer a | .slice a _ _ => a.isNone
  | .map r | .chan r => r.isNone
  | .func fn first captured => (match fn with | .yield _ => false | _ => true) && flatA first && flatA captured
  | .iface _ v => flat v
  | .agg cs | .tuple cs => flatA cs
def flatA : Array Value → Bool
  | ⟨l⟩ => flatL l
def flatL : List Value → Bool
  | [] => true
  | v :: l => flat v && flatL l
end

/-- A computation that asks nothing of the world. -/
def pureRun {α : Type} (P : Program) : Sem α → Option (Except Value α)
  | .pure a => some (.ok a)
  | .program k => pureRun P (k P)
  | .mark _ k => pureRun P k
  | .halt (.panic v) => some (.error v)
  | _ => none

theorem pureRun_ok {α : Type} {P : Program} : ∀ {s : Sem α} {a : α}, pureRun P s = some (.ok a) → ∀ w, s.run P w = .ok a w := by
  intro s
  induction s with
  | pure a => intro b h w; simp [pureRun] at h; subst h; rfl
  | program k ih => intro b h w; exact ih P h w
  | mark m k ih => intro b h w; exact ih h w
  | halt x => intro b h w; cases x <;> simp [pureRun] at h
  | _ => intro b h w; simp [pureRun] at h

theorem pureRun_error {α : Type} {P : Program} : ∀ {s : Sem α} {v : Value}, pureRun P s = some (.error v) → ∀ w, s.run P w = .halt (.panic v) w := by
  intro s
  induction s with
  | pure a => intro b h w; simp [pureRun] at h
  | program k ih => intro b h w; exact ih P h w
  | mark m k ih => intro b h w; exact ih h w
  | halt x =>
    intro b h w
    cases x <;> simp [pureRun] at h
    subst h; rfl
  | _ => intro b h w; simp [pureRun] at h


/-! ## The heap -/

structure Blk where
  cells : List Value
  elem : TypeId
  fam : Nat
  ver : Nat
  ro : Bool
  frz : Nat
  strish : Bool
  exact : Bool

inductive CObj where
  | cells (b : Blk)
  | map (es : List MapEntry)
  | siter (s : ByteArray) (pos : Nat)

structure Heap where
  next : Nat
  t : Tr CObj
  fam : Tr (Nat × Nat)

def Heap.blk (H : Heap) (c : Nat) : Option Blk :=
  match H.t.get c with
  | some (.cells b) => some b
  | _ => none

def Heap.live (H : Heap) (b : Blk) : Bool :=
  b.ro || (match H.fam.get b.fam with
    | some (_, fl) => decide (fl ≤ b.ver)
    | none => false)

def Heap.read (H : Heap) (c : Nat) : Option Blk :=
  match H.blk c with
  | some b => if H.live b then some b else none
  | none => none

/-- A new block, of a family of its own. -/
def Heap.new (H : Heap) (cells : List Value) (elem : TypeId) (exact strish : Bool) : Heap :=
  { next := H.next + 1, t := H.t.set H.next (.cells { cells, elem, fam := H.next, ver := 0, ro := false, frz := 0, strish, exact }), fam := H.fam.set H.next (0, 0) }

def Heap.newObj (H : Heap) (o : CObj) : Heap := { H with next := H.next + 1, t := H.t.set H.next o }

/-- A cell of which nothing is known. -/
def unk : Value := .chan (some 0)

def known : Value → Bool
  | .chan (some _) => false
  | _ => true

def okCell : Value → Bool
  | .agg _ | .tuple _ | .chan _ => false
  | _ => true

def splice (l : List Value) (off : Nat) (vs : List Value) : List Value := l.take off ++ vs ++ l.drop (off + vs.length)

/-- Values written over cells of a block: of the newest of its family alone; the elder ones can't be read any more. -/
def Heap.wr (H : Heap) (c off : Nat) (vs : List Value) : Option Heap :=
  match H.read c with
  | some b =>
    if b.ro then none else
    match H.fam.get b.fam with
    | some (top, _) =>
      if b.ver = top ∧ off + vs.length ≤ b.cells.length ∧ b.frz ≤ off ∧ vs.all okCell = true ∧ vs.isEmpty = false then
        some { H with t := H.t.set c (.cells { b with cells := splice b.cells off vs }), fam := H.fam.set b.fam (top, top) }
      else none
    | none => none
  | none => none

/-- What an append that may go to new memory or not makes. -/
def Heap.grow (H : Heap) (b : Blk) (off len : Nat) (new : List Value) : Option Heap :=
  if b.ro then none else
  match H.fam.get b.fam with
  | some (top, fl) =>
    if b.ver = top ∧ off + len ≤ b.cells.length ∧ b.frz ≤ off + len then
      some { next := H.next + 1, t := H.t.set H.next (.cells { b with cells := (b.cells.drop off).take len ++ new, ver := top + 1, frz := b.frz - off }),
             fam := H.fam.set b.fam (top + 1, if off = 0 ∧ len = b.cells.length then fl else top + 1) }
    else none
  | none => none

/-! ## Operations -/

inductive Res where
  | val (v : Value) (H : Heap)
  | skip (H : Heap)
  | pan (v : Value) (H : Heap)
  | enter (f : FuncId) (args : Array Value) (H : Heap)
  | defer (d : Deferred) (H : Heap)

def isAggB (P : Program) (t : TypeId) : Option Bool :=
  match P.underlying t with
  | some (.struct _) | some (.array _ _) => some true
  | some _ => some false
  | none => none

def sizeB (P : Program) (t : TypeId) : Option Nat := (P.info? t).map (·.size)

def loadC (P : Program) (t : TypeId) (x : Value) (H : Heap) : Option Value :=
  match x with
  | .pointer (some ⟨c, off, none⟩) =>
    match H.read c, isAggB P t, sizeB P t with
    | some b, some true, some n => if off + n ≤ b.cells.length ∧ ((b.cells.drop off).take n).all known = true then some (.agg ((b.cells.drop off).take n).toArray) else none
    | some b, some false, _ =>
      match b.cells[off]? with
      | some v => if known v then some v else none
      | none => none
    | _, _, _ => none
  | _ => none

def storeC (P : Program) (t : TypeId) (x v : Value) (H : Heap) : Option Heap :=
  match x with
  | .pointer (some ⟨c, off, none⟩) => if some v.cells.size = sizeB P t then H.wr c off v.cells.toList else none
  | _ => none

def zeroB (P : Program) (t : TypeId) : Option Value :=
  match P.info? t with
  | some i => match i.zero with
    | some z => if flat z then some z else none
    | none => none
  | none => none

def sliceElem (P : Program) (t : TypeId) : Option TypeId :=
  match P.underlying t with
  | some (.slice e) => some e
  | _ => none

/-- The first cells of a slice or a string, so many elements. -/
def firstC (size n : Nat) (x : Value) (H : Heap) : Option (List Value) :=
  match x with
  | .slice (some ⟨c, off, some es⟩) _ _ =>
    match H.read c with
    | some b => if es = size ∧ off + n * size ≤ b.cells.length then some ((b.cells.drop off).take (n * size)) else none
    | none => none
  | .slice none len _ => if len = 0 then some [] else none
  | .string s => if size = 1 ∧ n ≤ s.size then some ((s.extract 0 n).data.toList.map fun b => .int .u8 b.toNat) else none
  | _ => none

def lenC : Value → Option Nat
  | .slice _ n _ => some n
  | .string s => some s.size
  | _ => none

def notInt (P : Program) (t : Option TypeId) : Bool :=
  match t with
  | some t => (match P.underlying t with | some (.int _) | none => false | _ => true)
  | none => true

def appendC (P : Program) (argTypes : Array TypeId) (s x : Value) (H : Heap) : Option (Value × Heap) :=
  match argTypes[0]? with
  | none => none
  | some sT =>
    match sliceElem P sT with
    | none => none
    | some e =>
      match P.info? e with
      | none => none
      | some i =>
        if i.size = 0 ∨ i.bytes = 0 ∨ 2 ^ 20 < i.bytes ∨ notInt P argTypes[1]? = false ∨ (zeroB P e).map (fun z => z.cells.size) ≠ some i.size then none else
        match lenC x with
        | none => none
        | some n =>
          match s with
          | .slice none len cap =>
            if len ≠ 0 ∨ cap ≠ 0 then none else
            if n = 0 then some (s, H) else
            if 2 ^ 46 < n * i.bytes then none else
            match firstC i.size n x H with
            | none => none
            | some new => some (.slice (some ⟨H.next, 0, some i.size⟩) n n, H.new new e false false)
          | .slice (some ⟨c, off, some es⟩) len cap =>
            if es ≠ i.size then none else
            if n = 0 then some (s, H) else
            match firstC i.size n x H with
            | none => none
            | some new =>
              if len + n ≤ cap then
                match H.wr c (off + len * es) new with
                | some H' => some (.slice (some ⟨c, off, some es⟩) (len + n) cap, H')
                | none => none
              else
              if 2 ^ 46 < (len + n) * i.bytes then none else
              match H.read c with
              | none => none
              | some b =>
                if b.exact then
                  if off + len * es ≤ b.cells.length then
                    some (.slice (some ⟨H.next, 0, some es⟩) (len + n) (len + n), H.new ((b.cells.drop off).take (len * es) ++ new) e false false)
                  else none
                else
                match (if b.elem = e ∧ new.all okCell = true then H.grow b off (len * es) new else none) with
                | some H' => some (.slice (some ⟨H.next, 0, some es⟩) (len + n) (len + n), H')
                | none => none
          | _ => none

def copyC (P : Program) (argTypes : Array TypeId) (d x : Value) (H : Heap) : Option (Value × Heap) :=
  match argTypes[0]? with
  | none => none
  | some dT =>
    match sliceElem P dT with
    | none => none
    | some e =>
      match sizeB P e, lenC x with
      | some size, some n =>
        match d with
        | .slice none len _ => if len = 0 then some (goInt 0, H) else none
        | .slice (some ⟨c, off, some es⟩) len _ =>
          if es ≠ size then none else
          if Nat.min n len = 0 then some (goInt 0, H) else
          match firstC size (Nat.min n len) x H with
          | none => none
          | some new =>
            match H.wr c off new with
            | some H' => some (goInt (Nat.min n len), H')
            | none => none
        | _ => none
      | _, _ => none

def bytesC : List Value → Option (List UInt8)
  | [] => some []
  | .int .u8 n :: l => if 0 ≤ n ∧ n < 256 then (bytesC l).map (UInt8.ofNat n.toNat :: ·) else none
  | _ => none

/-- A value with addresses in an operation that looks at no memory. -/
def eqC (P : Program) (t : TypeId) (x y : Value) : Option Bool :=
  match P.underlying t, x, y with
  | some (.pointer _), .pointer none, .pointer (some _) | some (.pointer _), .pointer (some _), .pointer none => some false
  | some (.pointer e), .pointer (some ⟨a, i, none⟩), .pointer (some ⟨b, j, none⟩) => if a = b ∧ i = j ∧ (sizeB P e).isSome = true then some true else none
  | some (.interface _), .nilIface, .iface _ _ | some (.interface _), .iface _ _, .nilIface => some false
  | some (.slice _), .slice none _ _, .slice (some _) _ _ | some (.slice _), .slice (some _) _ _, .slice none _ _ => some false
  | some (.map _ _), .map none, .map (some _) | some (.map _ _), .map (some _), .map none => some false
  | some (.func _ _ _), .nilFunc, .func _ _ _ | some (.func _ _ _), .func _ _ _, .nilFunc => some false
  | _, _, _ => none

def intC : Value → Option Int
  | .int _ n => some n
  | _ => none

def bndC (y : Nat) (v : Value) : Option Nat :=
  match intC v with
  | some i => if 0 ≤ i ∧ i ≤ y then some i.toNat else none
  | none => none

/-- 's[lo:hi:max]' of a slice or of an array behind a pointer. -/
def boundsC (len cap : Nat) (lo hi mx : Option Value) : Option (Nat × Nat × Nat) :=
  match (match mx with | none => some cap | some v => bndC cap v) with
  | none => none
  | some m =>
    match (match hi with | none => if mx.isNone then some len else none | some v => bndC m v) with
    | none => none
    | some h =>
      match (match lo with | none => some 0 | some v => bndC h v) with
      | none => none
      | some l => some (l, h, m)

def sliceC (P : Program) (t : TypeId) (x : Value) (lo hi mx : Option Value) (H : Heap) : Option Value :=
  match P.underlying t, x with
  | some (.slice e), .slice (some ⟨c, off, some es⟩) len cap =>
    match sizeB P e, boundsC len cap lo hi mx with
    | some size, some (l, h, m) => if size = es ∧ len ≤ cap then some (.slice (some ⟨c, off + l * es, some es⟩) (h - l) (m - l)) else none
    | _, _ => none
  | some (.array n e), .pointer (some ⟨c, off, none⟩) =>
    match sizeB P e, boundsC n n lo hi mx, H.read c with
    | some size, some (l, h, m), some b =>
      if size ≠ 0 ∧ off + n * size ≤ b.cells.length then some (.slice (some ⟨c, off + l * size, some size⟩) (h - l) (m - l)) else none
    | _, _, _ => none
  | _, _ => none

end Go.Can

namespace Go.Can
open Go

def genC (P : Program) (ev : Operand → Value) (o : Oper) (H : Heap) : Option Res :=
  if o.op.operands.all (fun x => flat (ev x)) then
    match pureRun P (execOp ev o) with
    | some (.ok (.value v)) => if flat v then some (.val v H) else none
    | some (.error v) => if flat v then some (.pan v H) else none
    | _ => none
  else none

def nfC (P : Program) (ev : Operand → Value) (o : Oper) (H : Heap) : Option Res :=
  match pureRun P (execOp ev o) with
  | some (.ok (.value v)) => some (.val v H)
  | _ => none

def MapEntry.of (k v : Value) : MapEntry := { key := k, val := v, born := 0 }

def mapUpdC (P : Program) (t : TypeId) (m k v : Value) (H : Heap) : Option Heap :=
  match P.underlying t, m with
  | some (.map kt _), .map (some r) =>
    match H.t.get r with
    | some (.map es) =>
      if flat k = false then none else
      match pureRun P (Instr.checkKey false 10000 kt k), pureRun P (Instr.findKey kt k es) with
      | some (.ok _), some (.ok (some (i, _))) =>
        if Instr.sameBits 10000 (((es[i]?).map (·.key)).getD k) k then some { H with t := H.t.set r (.map (es.modify i fun e => { e with key := k, val := v })) } else none
      | some (.ok _), some (.ok none) => some { H with t := H.t.set r (.map (es ++ [MapEntry.of k v])) }
      | _, _ => none
    | _ => none
  | _, _ => none

def lookC (P : Program) (t : TypeId) (m k : Value) (commaOk : Bool) (H : Heap) : Option Value :=
  match P.underlying t, m with
  | some (.map kt et), .map (some r) =>
    match H.t.get r with
    | some (.map es) =>
      if flat k = false then none else
      match pureRun P (Instr.checkKey es.isEmpty 10000 kt k), pureRun P (Instr.findKey kt k es) with
      | some (.ok _), some (.ok (some (_, v))) => some (if commaOk then .tuple #[v, .bool true] else v)
      | some (.ok _), some (.ok none) =>
        match zeroB P et with
        | some z => some (if commaOk then .tuple #[z, .bool false] else z)
        | none => none
      | _, _ => none
    | _ => none
  | _, _ => none

def delC (P : Program) (t : TypeId) (m k : Value) (H : Heap) : Option Heap :=
  match P.underlying t, m with
  | some (.map kt _), .map (some r) =>
    match H.t.get r with
    | some (.map es) =>
      if flat k = false then none else
      match pureRun P (Instr.checkKey es.isEmpty 10000 kt k), pureRun P (Instr.findKey kt k es) with
      | some (.ok _), some (.ok (some (i, _))) => some { H with t := H.t.set r (.map (es.eraseIdx i)) }
      | some (.ok _), some (.ok none) => some { H with t := H.t.set r (.map es) }
      | _, _ => none
    | _ => none
  | _, _ => none

def makeSliceC (P : Program) (t : TypeId) (len cap : Value) (H : Heap) : Option (Value × Heap) :=
  match sliceElem P t, intC len, intC cap with
  | some e, some l, some c =>
    match P.info? e, zeroB P e with
    | some i, some z =>
      if 0 ≤ l ∧ l ≤ c ∧ c * i.bytes ≤ 2 ^ 46 ∧ c ≤ 2 ^ 46 ∧ z.cells.size = i.size ∧ i.size ≠ 0 then
        some (.slice (some ⟨H.next, 0, some i.size⟩) l.toNat c.toNat,
          H.new (((List.range (c.toNat * i.size)).map fun j => z.cells.getD (j % z.cells.size) undef)) e true false)
      else none
    | _, _ => none
  | _, _, _ => none

def buildSliceC (P : Program) (t : TypeId) (len : Nat) (parts : Array (Nat × Value)) (H : Heap) : Option (Value × Heap) :=
  match sliceElem P t with
  | some e =>
    match P.info? e, zeroB P e with
    | some i, some z =>
      if len * i.size ≤ 2 ^ 24 ∧ z.cells.size = i.size ∧ i.size ≠ 0 then
        match Instr.fill (fun j => some (j * i.size, i.size)) ((List.range (len * i.size)).map fun j => z.cells.getD (j % z.cells.size) undef).toArray parts.toList with
        | some cells => some (.slice (some ⟨H.next, 0, some i.size⟩) len len, H.new cells.toList e true false)
        | none => none
      else none
    | _, _ => none
  | none => none

def convC (P : Program) (ev : Operand → Value) (o : Oper) (src dst : TypeId) (x : Value) (H : Heap) : Option Res :=
  match P.underlying src, P.underlying dst, x with
  | some .string, some (.slice e), .string s =>
    match P.underlying e with
    | some (.int .u8) => some (.val (.slice (some ⟨H.next, 0, some 1⟩) s.size s.size) (H.new (s.data.toList.map fun b => .int .u8 b.toNat) e false true))
    | _ => none
  | some (.slice e), some .string, .slice (some ⟨c, off, some es⟩) len _ =>
    match P.underlying e, H.read c with
    | some (.int .u8), some b =>
      if es = 1 ∧ off + len ≤ b.cells.length then
        match bytesC ((b.cells.drop off).take len) with
        | some l => some (.val (.string ⟨l.toArray⟩) H)
        | none => none
      else none
    | _, _ => none
  | some (.pointer t), some .unsafePointer, .pointer (some ⟨c, off, none⟩) =>
    match H.read c, sizeB P t with
    | some b, some n => if n ≠ 0 ∧ off < b.cells.length then some (.val x H) else none
    | _, _ => none
  | some .unsafePointer, some (.pointer u), .pointer (some ⟨c, 0, none⟩) =>
    match H.read c, sizeB P u with
    | some b, some n => if n ≠ 0 ∧ b.elem = u ∧ b.exact = true ∧ b.cells.length = n then some (.val x H) else none
    | _, _ => none
  | _, _, _ => genC P ev o H

def unsafeStringC (P : Program) (argTypes : Array TypeId) (p n : Value) (H : Heap) : Option (Value × Heap) :=
  match argTypes[0]?, p, n with
  | some pt, .pointer (some ⟨c, off, none⟩), .int .i64 n =>
    match P.underlying pt with
    | some (.pointer e) =>
      if n < 1 ∨ P.cellsOf e ≠ 1 then none else
      match H.read c with
      | some b =>
        if b.ro = false ∧ b.elem = e ∧ off + n.toNat ≤ b.cells.length ∧ b.strish = false ∧ (H.fam.get b.fam).map (·.1) = some b.ver ∧ n ≤ 2 ^ 62 then
          match bytesC ((b.cells.drop off).take n.toNat) with
          | some l => some (.string ⟨l.toArray⟩, { H with t := H.t.set c (.cells { b with frz := max b.frz (off + n.toNat) }) })
          | none => none
        else none
      | none => none
    | _ => none
  | _, _, _ => none

def builtinC (P : Program) (ev : Operand → Value) (o : Oper) (b : Builtin) (c : Call) (H : Heap) : Option Res :=
  let x := ev (c.args.getD 0 (.const undef))
  let y := ev (c.args.getD 1 (.const undef))
  match b with
  | .len =>
    match (c.argTypes[0]?).bind P.underlying, x with
    | some (.slice _), .slice _ n _ => if c.args.size = 1 then some (.val (goInt n) H) else none
    | some (.map _ _), .map (some r) =>
      match H.t.get r with
      | some (.map es) => if c.args.size = 1 then some (.val (goInt es.length) H) else none
      | _ => none
    | _, _ => genC P ev o H
  | .cap =>
    match (c.argTypes[0]?).bind P.underlying, x with
    | some (.slice _), .slice (some ⟨r, _, some _⟩) _ n =>
      match H.read r with
      | some b => if b.exact ∧ c.args.size = 1 ∧ n ≠ 0 then some (.val (goInt n) H) else none
      | none => none
    | _, _ => genC P ev o H
  | .append => if c.args.size = 2 then (appendC P c.argTypes x y H).map fun (v, H') => .val v H' else none
  | .copy => if c.args.size = 2 then (copyC P c.argTypes x y H).map fun (v, H') => .val v H' else none
  | .delete =>
    match c.argTypes[0]?, x with
    | some t, .map (some _) => if c.args.size = 2 then (delC P t x y H).map fun H' => .val (.tuple #[]) H' else none
    | _, _ => none
  | .unsafeSliceData =>
    match x with
    | .slice (some ⟨r, off, some _⟩) _ n => if n ≠ 0 ∧ c.args.size = 1 then some (.val (.pointer (some ⟨r, off, none⟩)) H) else none
    | _ => genC P ev o H
  | .unsafeString =>
    match x with
    | .pointer none => genC P ev o H
    | _ => if c.args.size = 2 then (unsafeStringC P c.argTypes x y H).map fun (v, H') => .val v H' else none
  | .max | .min => genC P ev o H
  | _ => none

def callC (P : Program) (ev : Operand → Value) (o : Oper) (c : Call) (H : Heap) : Option Res :=
  match c.callee with
  | .builtin b => builtinC P ev o b c H
  | .value f =>
    match ev f with
    | .func (.func g) first captured =>
      match P.funcs[g]? with
      | some fn =>
        if fn.body.isSome then some (.enter g (first ++ c.args.map ev ++ captured) H)
        else if fn.name = "internal/bytealg.MakeNoZero" ∧ fn.origin = "" then
          match (first ++ c.args.map ev ++ captured).toList, fn.resultTypes[0]? with
          | [.int .i64 n], some t =>
            match sliceElem P t with
            | some e =>
              if 0 ≤ n ∧ n ≤ 2 ^ 46 ∧ P.cellsOf e = 1 then
                some (.val (.slice (some ⟨H.next, 0, some 1⟩) n.toNat n.toNat) (H.new (List.replicate n.toNat unk) e false false))
              else none
            | none => none
          | _, _ => none
        else if fn.name = "internal/abi.NoEscape" ∧ fn.origin = "" then
          match (first ++ c.args.map ev ++ captured).toList with
          | [.pointer a] => some (.val (.pointer a) H)
          | _ => none
        else if fn.name = "internal/bytealg.IndexByteString" ∧ fn.origin = "" then
          match (first ++ c.args.map ev ++ captured).toList with
          | [.string s, .int .u8 n] =>
            match pureRun P (Extern.BytealgIndexByte.indexByte #[.string s, .int .u8 n]) with
            | some (.ok v) => if flat v then some (.val v H) else none
            | _ => none
          | _ => none
        else none
      | none => none
    | _ => none
  | .invoke _ _ => none

def isIface : TypeDesc → Bool
  | .interface _ => true
  | _ => false

def ptr (c : Nat) : Value := .pointer (some ⟨c, 0, none⟩)

def cop (P : Program) (ev : Operand → Value) (o : Oper) (H : Heap) : Option Res :=
  match o.op with
  | .move x | .assign x => some (.val (ev x) H)
  | .pick c a b =>
    match ev c with
    | .bool t => some (.val (if t then ev a else ev b) H)
    | _ => none
  | .alloc t => (zeroB P t).map fun z => .val (ptr H.next) (H.new z.cells.toList t true false)
  | .box t x => some (.val (ptr H.next) (H.new (ev x).cells.toList t true false))
  | .buildSlice t len parts => (buildSliceC P t len (parts.map fun (i, x) => (i, ev x)) H).map fun (v, H') => .val v H'
  | .load t a => (loadC P t (ev a) H).map fun v => .val v H
  | .store t a x => (storeC P t (ev a) (ev x) H).map .skip
  | .nilCheck x =>
    match ev x with
    | .pointer (some a) => some (.val (.pointer (some a)) H)
    | .func (.func g) f c => some (.val (.func (.func g) f c) H)
    | _ => genC P ev o H
  | .binOp op t x y _ =>
    if flat (ev x) && flat (ev y) then genC P ev o H else
    match op with
    | .eql => (eqC P t (ev x) (ev y)).map fun b => .val (.bool b) H
    | .neq => (eqC P t (ev x) (ev y)).map fun b => .val (.bool !b) H
    | _ => none
  | .fieldAddr s x f =>
    match P.underlying s, ev x with
    | some (.struct fields), .pointer (some ⟨c, off, none⟩) =>
      match fields[f]? with
      | some fd =>
        match sizeB P fd.type with
        | some n => if n ≠ 0 then some (.val (.pointer (some ⟨c, off + fd.offset, none⟩)) H) else none
        | none => none
      | none => none
    | _, _ => none
  | .indexAddr t x ix =>
    match P.underlying t, ev x, intC (ev ix) with
    | some (.slice e), .slice (some ⟨c, off, some es⟩) len _, some i =>
      if 0 ≤ i ∧ i < len ∧ sizeB P e = some es then some (.val (.pointer (some ⟨c, off + i.toNat * es, none⟩)) H) else none
    | some (.array len e), .pointer (some ⟨c, off, none⟩), some i =>
      match sizeB P e with
      | some n => if 0 ≤ i ∧ i < len then some (.val (.pointer (some ⟨c, off + i.toNat * n, none⟩)) H) else none
      | none => none
    | _, _, _ => none
  | .slice t x lo hi mx =>
    match ev x with
    | .string _ => genC P ev o H
    | .slice none _ _ => genC P ev o H
    | _ => (sliceC P t (ev x) (lo.map ev) (hi.map ev) (mx.map ev) H).map fun v => .val v H
  | .convert src dst x => convC P ev o src dst (ev x) H
  | .makeInterface _ _ | .field _ _ _ | .extract _ _ => nfC P ev o H
  | .makeFunc fn _ _ =>
    match fn with
    | .func _ => nfC P ev o H
    | _ => none
  | .build t _ => if (zeroB P t).isSome = true then nfC P ev o H else none
  | .index _ x _ =>
    match ev x with
    | .agg _ => nfC P ev o H
    | _ => genC P ev o H
  | .makeMap t r =>
    match P.underlying t, r.map fun x => intC (ev x) with
    | some (.map _ _), none | some (.map _ _), some (some _) => some (.val (.map (some H.next)) (H.newObj (.map [])))
    | _, _ => none
  | .makeSlice t l c => (makeSliceC P t (ev l) (ev c) H).map fun (v, H') => .val v H'
  | .lookup t x ix ok =>
    match ev x with
    | .map (some r) => (lookC P t (.map (some r)) (ev ix) ok H).map fun v => .val v H
    | _ => genC P ev o H
  | .mapUpdate t m k x | .insert t m k x => (mapUpdC P t (ev m) (ev k) (ev x) H).map .skip
  | .range t x =>
    match P.underlying t, ev x with
    | some .string, .string s => some (.val (ptr H.next) (H.newObj (.siter s 0)))
    | _, _ => none
  | .next it true =>
    match ev it with
    | .pointer (some ⟨r, 0, none⟩) =>
      match H.t.get r with
      | some (.siter s pos) =>
        if pos < s.size then
          some (.val (.tuple #[.bool true, goInt pos, .int .i32 (Utf8.decode s pos).1]) { H with t := H.t.set r (.siter s (pos + (Utf8.decode s pos).2)) })
        else some (.val (.tuple #[.bool false]) H)
      | _ => none
    | _ => none
  | .typeAssert x _ asserted ok =>
    match ev x, P.underlying asserted with
    | .iface t v, some d =>
      if flat v then genC P ev o H else
      if isIface d = true then none else
      if t = asserted then some (.val (if ok then .tuple #[v, .bool true] else v) H)
      else if ok then (zeroB P asserted).map fun z => .val (.tuple #[z, .bool false]) H else none
    | _, _ => genC P ev o H
  | .call c => callC P ev o c H
  | .defer c =>
    match c.callee with
    | .value f =>
      match ev f with
      | .func (.func g) first captured => some (.defer { target := .fn (.func g) captured, args := first ++ c.args.map ev } H)
      | _ => none
    | _ => none
  | .unOp _ _ _ | .panic _ => genC P ev o H
  | _ => none

/-! ## Code -/

structure CAct where
  t : Tr Value
  defers : List Deferred

def CAct.get (a : CAct) (t : Tmp) : Value := (a.t.get t).getD undef
def CAct.put (a : CAct) (d : Option Tmp) (v : Value) : CAct :=
  match d with
  | some d => { a with t := a.t.set d v }
  | none => a
def CAct.eval (a : CAct) : Operand → Value
  | .tmp t => a.get t
  | .const v => v
  | .global g => .pointer (some ⟨g, 0, none⟩)
  | .func f => .func (.func f) #[] #[]

/-- Is the operation wanted? 'none': not to be told. -/
def wantedC (ops : Array Oper) (a : CAct) (o : Oper) : Option Bool :=
  match o.guard with
  | none => some true
  | some (j, want) =>
    match (ops[j]?).bind (·.dst) with
    | none => some false
    | some d =>
      match a.get d with
      | .bool b => some (b == want)
      | .chan _ => none
      | _ => some false

inductive X where
  | normal
  | exit (id : Nat)
  | goto (l : Nat)
  | ret
  | pan (v : Value)

inductive End where
  | ret (v : Value)
  | pan (v : Value)

abbrev Cal := FuncId → Array Value → Heap → Option (End × Heap)

/-- One operation. -/
def execOne (P : Program) (cal : Cal) (o : Oper) (a : CAct) (H : Heap) : Option (Except Value CAct × Heap) :=
  match cop P a.eval o H with
  | some (.val v H') => some (.ok (a.put o.dst v), H')
  | some (.skip H') => some (.ok (a.put o.dst undef), H')
  | some (.pan v H') => some (.error v, H')
  | some (.defer d H') => some (.ok (({ a with defers := d :: a.defers } : CAct).put o.dst undef), H')
  | some (.enter f args H') =>
    match cal f args H' with
    | some (.ret v, H'') => some (.ok (a.put o.dst v), H'')
    | some (.pan v, H'') => some (.error v, H'')
    | none => none
  | none => none

def execOps (P : Program) (cal : Cal) (ops : Array Oper) : List Nat → CAct → Heap → Option (X × CAct × Heap)
  | [], a, H => some (.normal, a, H)
  | i :: is, a, H =>
    match ops[i]? with
    | none => execOps P cal ops is a H
    | some o =>
      match wantedC ops a o with
      | some true =>
        match execOne P cal o a H with
        | some (.ok a', H') => execOps P cal ops is a' H'
        | some (.error v, H') => some (.pan v, a, H')
        | none => none
      | some false => execOps P cal ops is (a.put o.dst undef) H
      | none => none

end Go.Can

namespace Go.Can
open Go

/-! ## Regions that draw their order -/

inductive Cls where
  | pure | read | alloc | eff
  deriving DecidableEq

def cls (P : Program) (o : Oper) : Cls :=
  match o.op with
  | .move _ | .assign _ | .pick _ _ _ | .build _ _ | .nilCheck _ | .unOp _ _ _ | .makeInterface _ _ | .makeFunc _ _ _ | .field _ _ _ | .index _ _ _ | .extract _ _
  | .fieldAddr _ _ _ | .indexAddr _ _ _ | .binOp _ _ _ _ _ | .typeAssert _ _ _ _ => .pure
  | .load _ _ | .lookup _ _ _ _ | .slice _ _ _ _ _ => .read
  | .alloc _ | .box _ _ | .buildSlice _ _ _ | .makeMap _ _ | .makeSlice _ _ _ | .range _ _ => .alloc
  | .convert src dst _ =>
    match P.underlying src, P.underlying dst with
    | some .string, some (.slice _) => .alloc
    | _, _ => .read
  | .call { callee := .builtin b, .. } =>
    match b with
    | .len | .cap => .read
    | .max | .min | .unsafeSliceData => .pure
    | _ => .eff
  | _ => .eff

/-- Is operation i listed ahead of operation j in every order? -/
def ahead (b : Array Nat) (i j : Nat) : Bool := (b.getD j 0).testBit i

def temps (ops : Array Oper) (o : Oper) : List Tmp :=
  o.dst.toList ++ (o.op.operands.toList.filterMap fun | .tmp t => some t | _ => none) ++ (match o.guard with | some (g, _) => ((ops[g]?).bind (·.dst)).toList | none => [])

/-- What a region that draws must be, by its text: this of its operation j .. -/
def drawAt (_ : Program) (_ : Array Oper) (b : Array Nat) (j : Nat) (oj : Oper) : Bool :=
  (b.getD j 0 == oj.after.foldl (fun s e => if Region.binds .any e then s ||| 2 ^ e.on ||| b.getD e.on 0 else s) 0) &&
  (oj.after.all fun e => !Region.binds .any e || decide (e.on < j)) &&
  (match oj.guard with
    | none => true
    | some (g, _) => decide (g < j) && ahead b g j) &&
  (match oj.op with | .select _ _ | .defer _ => false | _ => true)

/-- .. and this of its operations i and j. -/
def drawPair (P : Program) (ops : Array Oper) (b : Array Nat) (i j : Nat) (oi oj : Oper) : Bool :=
  ahead b i j ||
  ((match oi.dst with | some d => !(temps ops oj).contains d | none => true) &&
   (match oj.dst with | some d => !(temps ops oi).contains d | none => true) &&
   !(cls P oi == .eff && cls P oj == .eff) && !(cls P oi == .alloc && cls P oj == .eff) && !(cls P oi == .eff && cls P oj == .alloc))

def drawText (P : Program) (ops : Array Oper) : Bool :=
  let b := Region.before ops
  (List.range ops.size).all fun j =>
    match ops[j]? with
    | none => false
    | some oj => drawAt P ops b j oj &&
      ((List.range j).all fun i =>
        match ops[i]? with
        | none => false
        | some oi => drawPair P ops b i j oi oj)

/-- The orders of a mode come to an end: each operation lies behind those that it waits for. -/
def rankOk (md : Region.Mode) (ops : Array Oper) : Bool :=
  let l := Region.linearise md ops 0
  (List.range ops.size).all fun i =>
    match ops[i]? with
    | none => false
    | some o => l.contains i && o.after.all fun e => !Region.binds md e || (l.contains e.on && decide (l.idxOf e.on < l.idxOf i))

def drawMode (P : Program) (ops : Array Oper) : Bool :=
  if P.follows .mixedOrders || !Region.departs ops then rankOk .any ops else rankOk .text ops && rankOk .gc ops

/-- Reads that may come ahead of an effect or behind it. -/
def floats (P : Program) (ops : Array Oper) : List (Nat × Nat) :=
  let b := Region.before ops
  let n := ops.size
  (List.range n).flatMap fun i =>
    match ops[i]? with
    | none => []
    | some oi =>
      if cls P oi = .read then
        (List.range n).filterMap fun k =>
          match ops[k]? with
          | none => none
          | some ok => if cls P ok = .eff && !ahead b i k && !ahead b k i then some (i, k) else none
      else []

mutual
def veq : Value → Value → Bool
  | .bool a, .bool b => a == b
  | .int j a, .int k b => j == k && a == b
  | .string a, .string b => a == b
  | .pointer a, .pointer b => a == b
  | .slice a n c, .slice b m d => a == b && n == m && c == d
  | .map a, .map b => a == b
  | .nilFunc, .nilFunc => true
  | .nilIface, .nilIface => true
  | .iface t v, .iface u w => t == u && veq v w
  | .func f xs ys, .func g zs ws => f == g && veqA xs zs && veqA ys ws
  | .agg xs, .agg ys => veqA xs ys
  | .tuple xs, .tuple ys => veqA xs ys
  | _, _ => false
def veqA : Array Value → Array Value → Bool
  | ⟨l⟩, ⟨m⟩ => veqL l m
def veqL : List Value → List Value → Bool
  | [], [] => true
  | v :: l, w :: m => veq v w && veqL l m
  | _, _ => false
end

def sameRes (r r' : Option Res) : Bool :=
  match r, r' with
  | some (.val v _), some (.val w _) => veq v w
  | _, _ => false

/-- A read that floats beside an effect reads the same ahead of it and behind it. -/
def floatOk (P : Program) (ops : Array Oper) (tr : List (CAct × Heap)) (f : Nat × Nat) : Bool :=
  match ops[f.1]?, tr[f.1]?, tr[f.2]?, tr[f.2 + 1]? with
  | some oi, some (ai, Hi), some (_, Hk), some (_, Hk') =>
    if wantedC ops ai oi = some true then
      sameRes (cop P ai.eval oi Hi) (cop P ai.eval oi Hk) && sameRes (cop P ai.eval oi Hi) (cop P ai.eval oi Hk')
    else true
  | _, _, _, _ => true

/-- As execOps, with what held ahead of each operation, the last one first. -/
def execTr (P : Program) (cal : Cal) (ops : Array Oper) : List Nat → CAct → Heap → List (CAct × Heap) → Option (X × CAct × Heap × List (CAct × Heap))
  | [], a, H, tr => some (.normal, a, H, (a, H) :: tr)
  | i :: is, a, H, tr =>
    match ops[i]? with
    | none => none
    | some o =>
      match wantedC ops a o with
      | some true =>
        match execOne P cal o a H with
        | some (.ok a', H') => execTr P cal ops is a' H' ((a, H) :: tr)
        | some (.error v, H') =>
          if cls P o = .eff && (is.all (fun j => ahead (Region.before ops) i j) && (List.range i).all (fun j => ahead (Region.before ops) j i)) then some (.pan v, a, H', (a, H) :: tr) else none
        | none => none
      | some false => execTr P cal ops is (a.put o.dst undef) H ((a, H) :: tr)
      | none => none

def execDraw (P : Program) (cal : Cal) (ops : Array Oper) (a : CAct) (H : Heap) : Option (X × CAct × Heap) :=
  match execTr P cal ops (List.range ops.size) a H [] with
  | some (x, a', H', tr) => if (floats P ops).all (floatOk P ops tr.reverse) then some (x, a', H') else none
  | none => none

/-! ## Code -/

def iter (step : CAct → Heap → Option (X × CAct × Heap)) : Nat → CAct → Heap → Option (X × CAct × Heap)
  | 0, _, _ => none
  | k + 1, a, H =>
    match step a H with
    | some (.normal, a', H') => iter step k a' H'
    | r => r

def exec (P : Program) (cal : Cal) (k : Nat) : Code → CAct → Heap → Option (X × CAct × Heap)
  | .skip, a, H | .label _, a, H => some (.normal, a, H)
  | .region _ ops false, a, H => execOps P cal ops (List.range ops.size) a H
  | .region _ ops true, a, H => execDraw P cal ops a H
  | .seq x y, a, H =>
    match exec P cal k x a H with
    | some (.normal, a', H') => exec P cal k y a' H'
    | r => r
  | .cond c x y, a, H =>
    match a.eval c with
    | .bool true => exec P cal k x a H
    | .bool false => exec P cal k y a H
    | _ => none
  | .block id b, a, H =>
    match exec P cal k b a H with
    | some (.exit i, a', H') => if i = id then some (.normal, a', H') else some (.exit i, a', H')
    | r => r
  | .loop b, a, H => iter (exec P cal k b) k a H
  | .exit id, a, H => some (.exit id, a, H)
  | .scope b, a, H =>
    match exec P cal k b a H with
    | some (.goto _, _, _) => none
    | r => r
  | .goto l, a, H => some (.goto l, a, H)
  | .ret, a, H => some (.ret, a, H)
  | .rangeFunc _ _ _ _, _, _ => none
  | .refuse _, _, _ => none

/-! ## Deferred calls, 'recover' -/

/-- What a frame that runs its deferred calls is at: returning, or panicking (has the panic been recovered?). -/
inductive UM where
  | ret
  | pan (v : Value) (recovered : Bool)

def isRecover (o : Oper) : Bool :=
  match o.op with
  | .call { callee := .builtin .recover, .. } => true
  | _ => false

def execOpsS (P : Program) (cal : Cal) (ops : Array Oper) : List Nat → CAct → Heap → UM → Option (X × CAct × Heap × UM)
  | [], a, H, u => some (.normal, a, H, u)
  | i :: is, a, H, u =>
    match ops[i]? with
    | none => execOpsS P cal ops is a H u
    | some o =>
      match wantedC ops a o with
      | some true =>
        if isRecover o then
          match u with
          | .pan v false => execOpsS P cal ops is (a.put o.dst v) H (.pan v true)
          | u => execOpsS P cal ops is (a.put o.dst .nilIface) H u
        else
        match execOne P cal o a H with
        | some (.ok a', H') => execOpsS P cal ops is a' H' u
        | some (.error v, H') => some (.pan v, a, H', u)
        | none => none
      | some false => execOpsS P cal ops is (a.put o.dst undef) H u
      | none => none

def hasRecover : Code → Bool
  | .region _ ops _ => ops.any isRecover
  | .seq x y | .cond _ x y => hasRecover x || hasRecover y
  | .block _ b | .loop b | .scope b => hasRecover b
  | .rangeFunc _ _ x y => hasRecover x || hasRecover y
  | _ => false

def execS (P : Program) (cal : Cal) (k : Nat) : Code → CAct → Heap → UM → Option (X × CAct × Heap × UM)
  | .seq x y, a, H, u =>
    match execS P cal k x a H u with
    | some (.normal, a', H', u') => execS P cal k y a' H' u'
    | r => r
  | .cond c x y, a, H, u =>
    match a.eval c with
    | .bool true => execS P cal k x a H u
    | .bool false => execS P cal k y a H u
    | _ => none
  | .region _ ops false, a, H, u => execOpsS P cal ops (List.range ops.size) a H u
  | c, a, H, u => if hasRecover c then none else (exec P cal k c a H).map fun (x, a', H') => (x, a', H', u)

def initAct (args : Array Value) : CAct := { t := (args.toList.zipIdx).foldl (fun t (v, i) => t.set i v) .nil, defers := [] }

def resultC (P : Program) (a : CAct) (H : Heap) : ResultVar → Option Value
  | .tmp t => some (a.get t)
  | .cell x t => loadC P t (a.get x) H

def resultsC (P : Program) (fn : Func) (a : CAct) (H : Heap) : Option Value :=
  (fn.results.toList.mapM (resultC P a H)).map fun vs => match vs with | [v] => v | _ => .tuple vs.toArray

/-- A deferred call: how it ends, what its caller is at behind it. -/
def callS (P : Program) (bad : List Nat) (cal : Cal) (k : Nat) (f : FuncId) (args : Array Value) (u : UM) (H : Heap) : Option (End × UM × Heap) :=
  if bad.contains f then none else
  match P.funcs[f]? with
  | none => none
  | some fn =>
    match fn.body with
    | none => none
    | some c =>
      if hasRecover c then
        match execS P cal k c (initAct args) H u with
        | some (x, a, H', u') =>
          if a.defers.isEmpty then
            match x with
            | .normal | .ret => (resultsC P fn a H').map fun v => (.ret v, u', H')
            | .pan v => some (.pan v, u', H')
            | _ => none
          else none
        | none => none
      else
        match exec P cal k c (initAct args) H with
        | some (x, a, H') =>
          if a.defers.isEmpty then
            match x with
            | .normal | .ret => (resultsC P fn a H').map fun v => (.ret v, u, H')
            | .pan v => some (.pan v, u, H')
            | _ => none
          else none
        | none => none

def leave (P : Program) (bad : List Nat) (cal : Cal) (k : Nat) (fn : Func) (a : CAct) : List Deferred → UM → Heap → Option (End × Heap)
  | [], .ret, H => (resultsC P fn a H).map fun v => (.ret v, H)
  | [], .pan v false, H => some (.pan v, H)
  | [], .pan _ true, _ => none
  | d :: ds, u, H =>
    match d.target with
    | .fn (.func g) captured =>
      match callS P bad cal k g (d.args ++ captured) u H with
      | some (.ret _, .pan _ true, H') => leave P bad cal k fn a ds .ret H'
      | some (.ret _, u', H') => leave P bad cal k fn a ds u' H'
      | some (.pan v, .ret, H') => leave P bad cal k fn a ds (.pan v false) H'
      | _ => none
    | _ => none

def call (P : Program) (bad : List Nat) : Nat → Cal
  | 0, _, _, _ => none
  | n + 1, f, args, H =>
    if bad.contains f then none else
    match P.funcs[f]? with
    | none => none
    | some fn =>
      match fn.body with
      | none => none
      | some c =>
        match exec P (call P bad n) n c (initAct args) H with
        | some (.normal, a, H') | some (.ret, a, H') => leave P bad (call P bad n) n fn a a.defers .ret H'
        | some (.pan v, a, H') => leave P bad (call P bad n) n fn a a.defers (.pan v false) H'
        | _ => none

/-! ## What is asked of the program's text, once -/

def okOperand (P : Program) : Operand → Bool
  | .const v => flat v
  | .global g => decide (g < P.globals.size)
  | _ => true

def okOper (P : Program) (nt : Nat) (o : Oper) : Bool :=
  (match o.dst with | some d => decide (d < nt) | none => true) && o.op.operands.all (okOperand P)

def okCode (P : Program) (nt : Nat) : Code → Bool
  | .region _ ops _ => ops.all (okOper P nt)
  | .seq x y => okCode P nt x && okCode P nt y
  | .cond c x y => okOperand P c && okCode P nt x && okCode P nt y
  | .block _ b | .loop b | .scope b => okCode P nt b
  | _ => true

/-- The regions that draw are such as the interpreter can run. -/
def drawsOk (P : Program) : Code → Bool
  | .region _ ops true => drawText P ops && drawMode P ops
  | .seq x y | .cond _ x y => drawsOk P x && drawsOk P y
  | .block _ b | .loop b | .scope b => drawsOk P b
  | _ => true

def drawsFunc (P : Program) (fn : Func) : Bool := match fn.body with | some c => drawsOk P c | none => true

/-- .. in all functions but these. -/
def drawsProg (P : Program) (bad : List Nat) : Bool :=
  (List.range P.funcs.size).all fun i => bad.contains i || (match P.funcs[i]? with | some fn => drawsFunc P fn | none => true)

def okFunc (P : Program) (fn : Func) : Bool :=
  fn.name != "runtime.NumGoroutine" && (match fn.body with | some c => okCode P fn.ntmps c | none => true)

def okProg (P : Program) : Bool := P.funcs.all (okFunc P)

end Go.Can

namespace Go.Can
open Go

structure RB where
  blk : Nat
  off : Nat
  size : Nat
  ro : Bool
  exact : Bool

abbrev Rho := Nat → Option RB

def Ext (ρ ρ' : Rho) : Prop := ∀ c rb, ρ c = some rb → ρ' c = some rb
theorem Ext.refl (ρ : Rho) : Ext ρ ρ := fun _ _ h => h
theorem Ext.trans {ρ ρ' ρ'' : Rho} (h : Ext ρ ρ') (h' : Ext ρ' ρ'') : Ext ρ ρ'' := fun c rb hc => h' c rb (h c rb hc)

inductive VR (ρ : Rho) : Value → Value → Prop where
  | unk (r : Nat) (v : Value) : v.cells = #[v] → VR ρ (.chan (some r)) v
  | bool (b : Bool) : VR ρ (.bool b) (.bool b)
  | int (k : IntKind) (n : Int) : VR ρ (.int k n) (.int k n)
  | float (k : FloatKind) (n : Nat) : VR ρ (.float k n) (.float k n)
  | complex (k : FloatKind) (n m : Nat) : VR ρ (.complex k n m) (.complex k n m)
  | string (s : ByteArray) : VR ρ (.string s) (.string s)
  | nilFunc : VR ρ .nilFunc .nilFunc
  | nilIface : VR ρ .nilIface .nilIface
  | ptrNone : VR ρ (.pointer none) (.pointer none)
  | ptr {c : Nat} {rb : RB} (off : Nat) : ρ c = some rb → VR ρ (.pointer (some ⟨c, off, none⟩)) (.pointer (some ⟨rb.blk, rb.off + off, none⟩))
  | sliceNone (n k : Nat) : VR ρ (.slice none n k) (.slice none n k)
  | slice {c : Nat} {rb : RB} (off es n k k' : Nat) (a : Addr) : ρ c = some rb → a = ⟨rb.blk, rb.off + off, none⟩ ∨ (k' = 0 ∧ a.block = rb.blk ∧ a.spot = none) →
      k ≤ k' → rb.off + off + k' * es ≤ rb.size ∨ k' = 0 → (rb.exact = true → k' = k) → n ≤ k' → VR ρ (.slice (some ⟨c, off, some es⟩) n k) (.slice (some a) n k')
  | mapNone : VR ρ (.map none) (.map none)
  | map {c : Nat} {rb : RB} : ρ c = some rb → VR ρ (.map (some c)) (.map (some rb.blk))
  | chanNone : VR ρ (.chan none) (.chan none)
  | func (fn : Fn) (l l' m m' : List Value) : (∀ i, fn ≠ .yield i) → l.length = l'.length → m.length = m'.length →
      (∀ (i : Nat) v v', l[i]? = some v → l'[i]? = some v' → VR ρ v v') → (∀ (i : Nat) v v', m[i]? = some v → m'[i]? = some v' → VR ρ v v') →
      VR ρ (.func fn ⟨l⟩ ⟨m⟩) (.func fn ⟨l'⟩ ⟨m'⟩)
  | iface (t : TypeId) {v v' : Value} : VR ρ v v' → VR ρ (.iface t v) (.iface t v')
  | agg (l l' : List Value) : l.length = l'.length → (∀ (i : Nat) v v', l[i]? = some v → l'[i]? = some v' → VR ρ v v') → VR ρ (.agg ⟨l⟩) (.agg ⟨l'⟩)
  | tuple (l l' : List Value) : l.length = l'.length → (∀ (i : Nat) v v', l[i]? = some v → l'[i]? = some v' → VR ρ v v') → VR ρ (.tuple ⟨l⟩) (.tuple ⟨l'⟩)

/-- Lists of values, one by one. -/
structure VRs (ρ : Rho) (l l' : List Value) : Prop where
  len : l.length = l'.length
  at_ : ∀ (i : Nat) v v', l[i]? = some v → l'[i]? = some v' → VR ρ v v'

theorem VR.mono {ρ ρ' : Rho} (h : Ext ρ ρ') {v v' : Value} (hv : VR ρ v v') : VR ρ' v v' := by
  induction hv with
  | unk r v hc => exact .unk r v hc
  | bool b => exact .bool b
  | int k n => exact .int k n
  | float k n => exact .float k n
  | complex k n m => exact .complex k n m
  | string s => exact .string s
  | nilFunc => exact .nilFunc
  | nilIface => exact .nilIface
  | ptrNone => exact .ptrNone
  | ptr off hc => exact .ptr off (h _ _ hc)
  | sliceNone n k => exact .sliceNone n k
  | slice off es n k k' a hc ha h1 h2 h3 h4 => exact .slice off es n k k' a (h _ _ hc) ha h1 h2 h3 h4
  | mapNone => exact .mapNone
  | map hc => exact .map (h _ _ hc)
  | chanNone => exact .chanNone
  | func fn l l' m m' hy h1 h2 _ _ ih1 ih2 => exact .func fn l l' m m' hy h1 h2 ih1 ih2
  | iface t _ ih => exact .iface t ih
  | agg l l' h1 _ ih => exact .agg l l' h1 ih
  | tuple l l' h1 _ ih => exact .tuple l l' h1 ih

theorem VRs.mono {ρ ρ' : Rho} (h : Ext ρ ρ') {l l' : List Value} (hl : VRs ρ l l') : VRs ρ' l l' := ⟨hl.len, fun i v v' a b => (hl.at_ i v v' a b).mono h⟩
theorem VRs.nil (ρ : Rho) : VRs ρ [] [] := ⟨rfl, fun i v v' h => by simp at h⟩
theorem VRs.cons {ρ : Rho} {v v' : Value} {l l' : List Value} (h : VR ρ v v') (hl : VRs ρ l l') : VRs ρ (v :: l) (v' :: l') := by
  refine ⟨by simp [hl.len], fun i a a' h1 h2 => ?_⟩
  cases i with
  | zero => simp at h1 h2; subst h1 h2; exact h
  | succ i => simp at h1 h2; exact hl.at_ i a a' h1 h2
theorem VRs.head {ρ : Rho} {v v' : Value} {l l' : List Value} (h : VRs ρ (v :: l) (v' :: l')) : VR ρ v v' := h.at_ 0 v v' rfl rfl
theorem VRs.tail {ρ : Rho} {v v' : Value} {l l' : List Value} (h : VRs ρ (v :: l) (v' :: l')) : VRs ρ l l' :=
  ⟨by have := h.len; simp at this; exact this, fun i a a' h1 h2 => h.at_ (i + 1) a a' (by simpa using h1) (by simpa using h2)⟩
theorem VRs.append {ρ : Rho} {l l' m m' : List Value} (h : VRs ρ l l') (h' : VRs ρ m m') : VRs ρ (l ++ m) (l' ++ m') := by
  refine ⟨by simp [h.len, h'.len], fun i v v' h1 h2 => ?_⟩
  by_cases hi : i < l.length
  · rw [List.getElem?_append_left hi] at h1
    rw [List.getElem?_append_left (by rw [← h.len]; exact hi)] at h2
    exact h.at_ i v v' h1 h2
  · rw [List.getElem?_append_right (by omega)] at h1
    rw [List.getElem?_append_right (by rw [← h.len]; omega)] at h2
    rw [← h.len] at h2
    exact h'.at_ _ v v' h1 h2
theorem VRs.take {ρ : Rho} {l l' : List Value} (h : VRs ρ l l') (n : Nat) : VRs ρ (l.take n) (l'.take n) := by
  refine ⟨by simp [h.len], fun i v v' h1 h2 => ?_⟩
  rw [List.getElem?_take] at h1 h2
  split at h1 <;> simp_all
  exact h.at_ i v v' h1 h2
theorem VRs.drop {ρ : Rho} {l l' : List Value} (h : VRs ρ l l') (n : Nat) : VRs ρ (l.drop n) (l'.drop n) := by
  refine ⟨by simp [h.len], fun i v v' h1 h2 => ?_⟩
  rw [List.getElem?_drop] at h1 h2
  exact h.at_ _ v v' h1 h2
theorem VRs.get {ρ : Rho} {l l' : List Value} (h : VRs ρ l l') {i : Nat} {v : Value} (hv : l[i]? = some v) : ∃ v', l'[i]? = some v' ∧ VR ρ v v' := by
  have hi : i < l'.length := by rw [← h.len]; exact (List.getElem?_eq_some_iff.1 hv).1
  exact ⟨l'[i], List.getElem?_eq_getElem hi, h.at_ i v _ hv (List.getElem?_eq_getElem hi)⟩
theorem VRs.map {ρ : Rho} {α : Type} (xs : List α) (f g : α → Value) (h : ∀ x ∈ xs, VR ρ (f x) (g x)) : VRs ρ (xs.map f) (xs.map g) := by
  refine ⟨by simp, fun i v v' h1 h2 => ?_⟩
  simp only [List.getElem?_map, Option.map_eq_some_iff] at h1 h2
  obtain ⟨x, hx, rfl⟩ := h1
  obtain ⟨y, hy, rfl⟩ := h2
  rw [hx] at hy; injection hy with hy; subst hy
  exact h x (List.mem_of_getElem? hx)

theorem flatL_at : ∀ {l : List Value} {i : Nat} {v : Value}, flatL l = true → l[i]? = some v → flat v = true := by
  intro l
  induction l with
  | nil => intro i v _ h; simp at h
  | cons x l ih =>
    intro i v h hv
    simp only [flatL, Bool.and_eq_true] at h
    cases i with
    | zero => simp at hv; subst hv; exact h.1
    | succ i => simp at hv; exact ih h.2 hv

/-- A value without addresses is the same on both sides. -/
theorem VR.eq_of_flat {ρ : Rho} {v v' : Value} (h : VR ρ v v') (hf : flat v = true) : v' = v := by
  induction h with
  | unk r v _ => simp [flat] at hf
  | ptr off hc => simp [flat] at hf
  | slice => simp [flat] at hf
  | map hc => simp [flat] at hf
  | func fn l l' m m' hy h1 h2 hl hm ih1 ih2 =>
    simp only [flat, flatA, Bool.and_eq_true] at hf
    congr 2
    · exact (List.ext_getElem? fun i => by
        by_cases hi : i < l.length
        · rw [List.getElem?_eq_getElem hi, List.getElem?_eq_getElem (by omega)]
          exact congrArg some (ih1 i _ _ (List.getElem?_eq_getElem hi) (List.getElem?_eq_getElem (by omega)) (flatL_at hf.1.2 (List.getElem?_eq_getElem hi))).symm
        · rw [List.getElem?_eq_none (by omega), List.getElem?_eq_none (by omega)]).symm
    · exact (List.ext_getElem? fun i => by
        by_cases hi : i < m.length
        · rw [List.getElem?_eq_getElem hi, List.getElem?_eq_getElem (by omega)]
          exact congrArg some (ih2 i _ _ (List.getElem?_eq_getElem hi) (List.getElem?_eq_getElem (by omega)) (flatL_at hf.2 (List.getElem?_eq_getElem hi))).symm
        · rw [List.getElem?_eq_none (by omega), List.getElem?_eq_none (by omega)]).symm
  | iface t _ ih => simp only [flat] at hf; rw [ih hf]
  | agg l l' h1 hl ih =>
    simp only [flat, flatA] at hf
    congr 2
    exact (List.ext_getElem? fun i => by
      by_cases hi : i < l.length
      · rw [List.getElem?_eq_getElem hi, List.getElem?_eq_getElem (by omega)]
        exact congrArg some (ih i _ _ (List.getElem?_eq_getElem hi) (List.getElem?_eq_getElem (by omega)) (flatL_at hf (List.getElem?_eq_getElem hi))).symm
      · rw [List.getElem?_eq_none (by omega), List.getElem?_eq_none (by omega)]).symm
  | tuple l l' h1 hl ih =>
    simp only [flat, flatA] at hf
    congr 2
    exact (List.ext_getElem? fun i => by
      by_cases hi : i < l.length
      · rw [List.getElem?_eq_getElem hi, List.getElem?_eq_getElem (by omega)]
        exact congrArg some (ih i _ _ (List.getElem?_eq_getElem hi) (List.getElem?_eq_getElem (by omega)) (flatL_at hf (List.getElem?_eq_getElem hi))).symm
      · rw [List.getElem?_eq_none (by omega), List.getElem?_eq_none (by omega)]).symm
  | _ => rfl

mutual
theorem VR.of_flat (ρ : Rho) : ∀ v : Value, flat v = true → VR ρ v v
  | .bool b, _ => .bool b
  | .int k n, _ => .int k n
  | .float k n, _ => .float k n
  | .complex k n m, _ => .complex k n m
  | .string s, _ => .string s
  | .nilFunc, _ => .nilFunc
  | .nilIface, _ => .nilIface
  | .pointer none, _ => .ptrNone
  | .pointer (some _), h => by simp [flat] at h
  | .slice none n k, _ => .sliceNone n k
  | .slice (some _) _ _, h => by simp [flat] at h
  | .map none, _ => .mapNone
  | .map (some _), h => by simp [flat] at h
  | .chan none, _ => .chanNone
  | .chan (some _), h => by simp [flat] at h
  | .func fn ⟨l⟩ ⟨m⟩, h => by
    simp only [flat, flatA, Bool.and_eq_true] at h
    exact .func fn l l m m (fun i e => by subst e; simp at h) rfl rfl
      (fun i v v' h1 h2 => by rw [h1] at h2; injection h2 with h2; subst h2; exact VR.of_flatL ρ l h.1.2 i v h1)
      (fun i v v' h1 h2 => by rw [h1] at h2; injection h2 with h2; subst h2; exact VR.of_flatL ρ m h.2 i v h1)
  | .iface t v, h => .iface t (VR.of_flat ρ v (by simpa [flat] using h))
  | .agg ⟨l⟩, h => .agg l l rfl fun i v v' h1 h2 => by
      rw [h1] at h2; injection h2 with h2; subst h2; exact VR.of_flatL ρ l (by simpa [flat, flatA] using h) i v h1
  | .tuple ⟨l⟩, h => .tuple l l rfl fun i v v' h1 h2 => by
      rw [h1] at h2; injection h2 with h2; subst h2; exact VR.of_flatL ρ l (by simpa [flat, flatA] using h) i v h1
theorem VR.of_flatL (ρ : Rho) : ∀ l : List Value, flatL l = true → ∀ (i : Nat) (v : Value), l[i]? = some v → VR ρ v v
  | [], _, i, v, h => by simp at h
  | x :: l, hf, 0, v, h => by
    simp only [flatL, Bool.and_eq_true] at hf
    simp at h; subst h; exact VR.of_flat ρ _ hf.1
  | x :: l, hf, i + 1, v, h => by
    simp only [flatL, Bool.and_eq_true] at hf
    simp at h; exact VR.of_flatL ρ l hf.2 i v h
end

theorem VR.cells {ρ : Rho} {v v' : Value} (h : VR ρ v v') : VRs ρ v.cells.toList v'.cells.toList := by
  have one : ∀ {a b : Value}, VR ρ a b → VRs ρ [a] [b] := fun h => VRs.cons h (VRs.nil ρ)
  cases h with
  | unk r _ hc => rw [hc]; exact one (.unk r v' hc)
  | agg l l' h1 hl => exact ⟨h1, hl⟩
  | bool b => exact one (.bool b)
  | int k n => exact one (.int k n)
  | float k n => exact one (.float k n)
  | complex k n m => exact one (.complex k n m)
  | string s => exact one (.string s)
  | nilFunc => exact one .nilFunc
  | nilIface => exact one .nilIface
  | ptrNone => exact one .ptrNone
  | ptr off hc => exact one (.ptr off hc)
  | sliceNone n k => exact one (.sliceNone n k)
  | slice off es n k k' a hc ha h1 h2 h3 h4 => exact one (.slice off es n k k' a hc ha h1 h2 h3 h4)
  | mapNone => exact one .mapNone
  | map hc => exact one (.map hc)
  | chanNone => exact one .chanNone
  | func fn l l' m m' hy h1 h2 hl hm => exact one (.func fn l l' m m' hy h1 h2 hl hm)
  | iface t h => exact one (.iface t h)
  | tuple l l' h1 hl => exact one (.tuple l l' h1 hl)

end Go.Can

namespace Go.Can
open Go

def topOf (H : Heap) (b : Blk) : Prop := ∃ fl, H.fam.get b.fam = some (b.ver, fl)

structure HWf (H : Heap) : Prop where
  nx : ∀ c o, H.t.get c = some o → c < H.next
  fx : ∀ f x, H.fam.get f = some x → f < H.next
  fam : ∀ c b, H.t.get c = some (.cells b) → b.ro = false → ∃ top fl, H.fam.get b.fam = some (top, fl) ∧ b.ver ≤ top
  ver : ∀ c d b b', H.t.get c = some (.cells b) → H.t.get d = some (.cells b') → b.ro = false → b'.ro = false → b.fam = b'.fam → b.ver = b'.ver → c = d
  len : ∀ c d b b', H.t.get c = some (.cells b) → H.t.get d = some (.cells b') → b.ro = false → b'.ro = false → b.fam = b'.fam → H.live b = true → topOf H b' →
    b.cells.length ≤ b'.cells.length

/-- What of a row of the world's may be frozen. -/
def FrzOk (size off frz : Nat) (strish : Bool) (fr : Nat × Nat) : Prop := fr.1 ≤ fr.2 ∧ ∀ j, fr.1 ≤ j → j < fr.2 → (j < size ∧ j < off + frz) ∨ (strish = true ∧ size ≤ j)

structure CellsRel (ρ : Rho) (H : Heap) (w : World) (rb : RB) (b : Blk) (cs : Array Value) (t : TypeId) (fr : Nat × Nat) : Prop where
  ro : rb.ro = b.ro
  exact : rb.exact = b.exact
  there : w.heap[rb.blk]? = some (.cells cs t fr)
  size : cs.size = rb.size
  elem : b.ro = false ∨ b.exact = true → t = b.elem
  whole : b.exact = true → rb.off = 0 ∧ b.cells.length = rb.size
  vals : H.live b = true → ∀ i v, b.cells[i]? = some v → ∃ v', cs[rb.off + i]? = some v' ∧ VR ρ v v'
  frz : b.ro = false → topOf H b → FrzOk cs.size rb.off b.frz b.strish fr

structure Rel (ρ : Rho) (H : Heap) (w : World) : Prop where
  wf : HWf H
  lt : ∀ c rb, ρ c = some rb → c < H.next ∧ rb.blk < w.heap.size
  cells : ∀ c rb b, ρ c = some rb → H.t.get c = some (.cells b) → ∃ cs t fr, CellsRel ρ H w rb b cs t fr
  map : ∀ c rb es, ρ c = some rb → H.t.get c = some (.map es) → rb.ro = false ∧ ∃ es' clock, w.heap[rb.blk]? = some (.map es' clock) ∧
    es.length = es'.size ∧ ∀ (i : Nat) (e e' : MapEntry), es[i]? = some e → es'[i]? = some e' → flat e.key = true ∧ e'.key = e.key ∧ VR ρ e.val e'.val
  siter : ∀ c rb s pos, ρ c = some rb → H.t.get c = some (.siter s pos) → rb.ro = false ∧ rb.off = 0 ∧ w.heap[rb.blk]? = some (.stringIter s pos)
  sep : ∀ c d rc rd, ρ c = some rc → ρ d = some rd → c ≠ d → rc.blk = rd.blk → (rc.ro = true ∧ rd.ro = true) ∨
    (∃ b b', H.t.get c = some (.cells b) ∧ H.t.get d = some (.cells b') ∧ b.ro = false ∧ b'.ro = false ∧ b.fam = b'.fam ∧ (H.live b = true → H.live b' = true → rc.off = rd.off))

/-- What a piece of the run has done. -/
structure Post (ρ : Rho) (H : Heap) (w : World) (ρ' : Rho) (H' : Heap) (w' : World) : Prop where
  ext : Ext ρ ρ'
  rel : Rel ρ' H' w'
  new : ∀ c rb, ρ' c = some rb → ρ c = none → H.next ≤ c ∧ rb.ro = false ∧ (w.heap.size ≤ rb.blk ∨ ∃ d rd, ρ d = some rd ∧ rd.blk = rb.blk ∧ rd.ro = false)
  next : H.next ≤ H'.next
  size : w.heap.size ≤ w'.heap.size
  frame : ∀ k, k < w.heap.size → (∀ c rb, ρ c = some rb → rb.blk = k → rb.ro = true) → w'.heap[k]? = w.heap[k]?
  os : w'.os = w.os
  tape : w'.tape = w.tape
  output : w'.output = w.output

theorem Post.refl {ρ : Rho} {H : Heap} {w : World} (h : Rel ρ H w) : Post ρ H w ρ H w :=
  ⟨Ext.refl ρ, h, fun c rb h1 h2 => (by rw [h1] at h2; cases h2), Nat.le_refl _, Nat.le_refl _, fun _ _ _ => rfl, rfl, rfl, rfl⟩

theorem Post.trans {ρ ρ' ρ'' : Rho} {H H' H'' : Heap} {w w' w'' : World} (h : Post ρ H w ρ' H' w') (k : Post ρ' H' w' ρ'' H'' w'') : Post ρ H w ρ'' H'' w'' := by
  refine ⟨h.ext.trans k.ext, k.rel, fun c rb h1 h2 => ?_, Nat.le_trans h.next k.next, Nat.le_trans h.size k.size, fun b hb hro => ?_,
    k.os.trans h.os, k.tape.trans h.tape, k.output.trans h.output⟩
  · cases hc : ρ' c with
    | none =>
      obtain ⟨a, b, d⟩ := k.new c rb h1 hc
      refine ⟨Nat.le_trans h.next a, b, ?_⟩
      rcases d with d | ⟨e, re, g1, g2, g3⟩
      · exact .inl (Nat.le_trans h.size d)
      · cases he : ρ e with
        | some re' =>
          have := h.ext e re' he
          rw [g1] at this; injection this with this; subst this
          exact .inr ⟨e, re, he, g2, g3⟩
        | none =>
          obtain ⟨_, _, d⟩ := h.new e re g1 he
          rcases d with d | ⟨f, rf, q1, q2, q3⟩
          · exact .inl (by omega)
          · exact .inr ⟨f, rf, q1, q2.trans g2, q3⟩
    | some rb' =>
      have := k.ext c rb' hc
      rw [h1] at this; injection this with this; subst this
      exact h.new c rb hc h2
  · refine (k.frame b (Nat.lt_of_lt_of_le hb h.size) fun c rb hc hbk => ?_).trans (h.frame b hb hro)
    cases hc0 : ρ c with
    | none =>
      obtain ⟨_, _, d⟩ := h.new c rb hc hc0
      rcases d with d | ⟨f, rf, q1, q2, q3⟩
      · omega
      · have := hro f rf q1 (q2.trans hbk); rw [q3] at this; cases this
    | some rb0 =>
      have := h.ext c rb0 hc0
      rw [hc] at this; injection this with this; subst this
      exact hro c rb hc0 hbk

/-- Nothing but the heap counts. -/
theorem Rel.of_heap {ρ : Rho} {H : Heap} {w w' : World} (h : Rel ρ H w) (hh : w'.heap = w.heap) : Rel ρ H w' := by
  refine ⟨h.wf, fun c rb hc => by rw [hh]; exact h.lt c rb hc, fun c rb b hc hb => ?_, fun c rb es hc he => by rw [hh]; exact h.map c rb es hc he,
    fun c rb s pos hc hs => by rw [hh]; exact h.siter c rb s pos hc hs, h.sep⟩
  obtain ⟨cs, t, fr, r⟩ := h.cells c rb b hc hb
  exact ⟨cs, t, fr, r.ro, r.exact, by rw [hh]; exact r.there, r.size, r.elem, r.whole, r.vals, r.frz⟩

theorem Post.drew {ρ : Rho} {H : Heap} {w : World} (h : Rel ρ H w) (n : Nat) : Post ρ H w ρ H { w with drawn := n } :=
  ⟨Ext.refl ρ, h.of_heap rfl, fun c rb h1 h2 => (by rw [h1] at h2; cases h2), Nat.le_refl _, Nat.le_refl _, fun _ _ _ => rfl, rfl, rfl, rfl⟩

/-! ## Reading -/

theorem read_some {H : Heap} {c : Nat} {b : Blk} (h : H.read c = some b) : H.t.get c = some (.cells b) ∧ H.live b = true := by
  unfold Heap.read Heap.blk at h
  cases ho : H.t.get c with
  | none => simp [ho] at h
  | some o =>
    cases o with
    | cells b' =>
      simp only [ho] at h
      split at h
      · injection h with h; subst h; exact ⟨rfl, by assumption⟩
      · cases h
    | map es => simp [ho] at h
    | siter s p => simp [ho] at h

theorem Rel.readable {ρ : Rho} {H : Heap} {w : World} (h : Rel ρ H w) {c : Nat} {rb : RB} {b : Blk} (hc : ρ c = some rb) (hr : H.read c = some b) :
    ∃ cs t fr, CellsRel ρ H w rb b cs t fr ∧ (∀ i v, b.cells[i]? = some v → ∃ v', w.cell? ⟨rb.blk, rb.off + i, none⟩ = some v' ∧ VR ρ v v') := by
  obtain ⟨hg, hl⟩ := read_some hr
  obtain ⟨cs, t, fr, r⟩ := h.cells c rb b hc hg
  refine ⟨cs, t, fr, r, fun i v hv => ?_⟩
  obtain ⟨v', h1, h2⟩ := r.vals hl i v hv
  exact ⟨v', by simp [World.cell?, r.there, h1], h2⟩

/-- Cells of a readable block, as a list of the world's own. -/
theorem Rel.cellsAt {ρ : Rho} {H : Heap} {w : World} (h : Rel ρ H w) {c : Nat} {rb : RB} {b : Blk} (hc : ρ c = some rb) (hr : H.read c = some b) (off n : Nat)
    (hn : off + n ≤ b.cells.length) :
    ∃ l : List Value, l.length = n ∧ VRs ρ ((b.cells.drop off).take n) l ∧ ∀ j v, l[j]? = some v → w.cell? ⟨rb.blk, rb.off + off + j, none⟩ = some v := by
  obtain ⟨cs, t, fr, r, hv⟩ := h.readable hc hr
  have key : ∀ j, j < n → ∃ v', w.cell? ⟨rb.blk, rb.off + off + j, none⟩ = some v' ∧ ∀ v, b.cells[off + j]? = some v → VR ρ v v' := by
    intro j hj
    have hlt : off + j < b.cells.length := by omega
    obtain ⟨v', h1, h2⟩ := hv (off + j) _ (List.getElem?_eq_getElem hlt)
    refine ⟨v', by rw [Nat.add_assoc]; exact h1, fun v hvv => ?_⟩
    rw [List.getElem?_eq_getElem hlt] at hvv; injection hvv with hvv; subst hvv; exact h2
  let f : Nat → Value := fun j => if hj : j < n then (key j hj).choose else undef
  refine ⟨(List.range n).map f, by simp, ⟨by simp; omega, fun i v v' h1 h2 => ?_⟩, fun j v hjv => ?_⟩
  · have hi : i < n := by
      have := (List.getElem?_eq_some_iff.1 h2).1; simpa using this
    rw [List.getElem?_take_of_lt hi, List.getElem?_drop] at h1
    simp only [List.getElem?_map, List.getElem?_range hi, Option.map_some, Option.some.injEq] at h2
    subst h2
    simp only [f, hi, dif_pos]
    exact (key i hi).choose_spec.2 v h1
  · have hi : j < n := by
      have := (List.getElem?_eq_some_iff.1 hjv).1; simpa using this
    simp only [List.getElem?_map, List.getElem?_range hi, Option.map_some, Option.some.injEq] at hjv
    subst hjv
    simp only [f, hi, dif_pos]
    exact (key j hi).choose_spec.1

end Go.Can

namespace Go.Can
open Go

theorem splice_length (l : List Value) (off : Nat) (vs : List Value) (h : off + vs.length ≤ l.length) : (splice l off vs).length = l.length := by
  simp [splice]; omega

theorem splice_get (l : List Value) (off : Nat) (vs : List Value) (h : off + vs.length ≤ l.length) (i : Nat) :
    (splice l off vs)[i]? = if off ≤ i ∧ i < off + vs.length then vs[i - off]? else l[i]? := by
  unfold splice
  by_cases h1 : i < off
  · rw [if_neg (by omega), List.append_assoc, List.getElem?_append_left (by simp; omega), List.getElem?_take_of_lt h1]
  · by_cases h2 : i < off + vs.length
    · rw [if_pos (by omega), List.getElem?_append_left (by simp; omega), List.getElem?_append_right (by simp; omega)]
      simp [Nat.min_eq_left (show off ≤ l.length by omega)]
    · rw [if_neg (by omega), List.getElem?_append_right (by simp; omega), List.getElem?_drop]
      congr 1
      simp [Nat.min_eq_left (show off ≤ l.length by omega)]; omega

theorem setCells_same (b : Nat) : ∀ (vs : List Value) (o : Nat) (w : World), (w.setCells b o vs).heap.size = w.heap.size ∧ (w.setCells b o vs).os = w.os ∧
    (w.setCells b o vs).tape = w.tape ∧ (w.setCells b o vs).output = w.output ∧ ∀ k, k ≠ b → (w.setCells b o vs).heap[k]? = w.heap[k]? := by
  intro vs
  induction vs with
  | nil => intro o w; exact ⟨rfl, rfl, rfl, rfl, fun _ _ => rfl⟩
  | cons v r ih =>
    intro o w
    obtain ⟨h1, h2, h3, h4, h5⟩ := ih (o + 1) (w.setCell ⟨b, o, none⟩ v)
    refine ⟨h1.trans (by simp [World.setCell]), h2, h3, h4, fun k hk => (h5 k hk).trans ?_⟩
    simp only [World.setCell, Array.getElem?_modify]
    rw [if_neg (by omega)]

theorem setCells_heap (b : Nat) : ∀ (vs : List Value) (o : Nat) (w : World) (cs : Array Value) (t : TypeId) (fr : Nat × Nat), w.heap[b]? = some (.cells cs t fr) →
    o + vs.length ≤ cs.size → (w.setCells b o vs).heap[b]? = some (.cells ⟨splice cs.toList o vs⟩ t fr) := by
  intro vs
  induction vs with
  | nil => intro o w cs t fr h _; simp [World.setCells, splice, h]
  | cons v r ih =>
    intro o w cs t fr h hle
    simp only [List.length_cons] at hle
    have h1 : (w.setCell ⟨b, o, none⟩ v).heap[b]? = some (.cells (cs.setIfInBounds o v) t fr) := by
      simp [World.setCell, Array.getElem?_modify, h]
    have := ih (o + 1) _ _ _ _ h1 (by simp; omega)
    rw [World.setCells, this]
    congr 2
    apply Array.ext'
    refine List.ext_getElem? fun i => ?_
    rw [splice_get _ _ _ (by simp; omega), splice_get _ _ _ (by simp; omega)]
    simp only [List.length_cons, Array.toList_setIfInBounds, List.getElem?_set]
    by_cases hi : i = o
    · subst hi
      rw [if_neg (by omega), if_pos (by omega)]
      simp; omega
    · by_cases h2 : o + 1 ≤ i ∧ i < o + 1 + r.length
      · rw [if_pos h2, if_pos (by omega)]
        obtain ⟨k, rfl⟩ : ∃ k, i = o + 1 + k := ⟨i - (o + 1), by omega⟩
        rw [show o + 1 + k - o = k + 1 by omega, show o + 1 + k - (o + 1) = k by omega]; simp
      · rw [if_neg h2, if_neg (by omega), if_neg (by omega)]

theorem VR.one {ρ : Rho} {v v' : Value} (h : VR ρ v v') (ho : okCell v = true) : v'.oneCell' = true := by
  cases h <;> simp_all [okCell, Value.oneCell']

theorem live_iff {H : Heap} {b : Blk} (hro : b.ro = false) : H.live b = true ↔ ∃ top fl, H.fam.get b.fam = some (top, fl) ∧ fl ≤ b.ver := by
  unfold Heap.live
  cases h : H.fam.get b.fam with
  | none => simp [hro]
  | some x =>
    obtain ⟨t, f⟩ := x
    simp only [hro, Bool.false_or, decide_eq_true_eq, Option.some.injEq, Prod.mk.injEq]
    exact ⟨fun h => ⟨t, f, ⟨rfl, rfl⟩, h⟩, fun ⟨_, _, ⟨_, h2⟩, h3⟩ => by omega⟩

theorem wr_spec {H H' : Heap} {c off : Nat} {vs : List Value} (h : H.wr c off vs = some H') :
    ∃ b fl, H.read c = some b ∧ b.ro = false ∧ H.fam.get b.fam = some (b.ver, fl) ∧ fl ≤ b.ver ∧ off + vs.length ≤ b.cells.length ∧ b.frz ≤ off ∧ vs.all okCell = true ∧
      0 < vs.length ∧ H' = { H with t := H.t.set c (.cells { b with cells := splice b.cells off vs }), fam := H.fam.set b.fam (b.ver, b.ver) } := by
  unfold Heap.wr at h
  split at h
  · rename_i b hb
    split at h
    · cases h
    · rename_i hro
      split at h
      · rename_i top fl hf
        split at h
        · rename_i hc
          obtain ⟨h1, h2, h3, h4, h5⟩ := hc
          injection h with h
          subst h1
          have hro' : b.ro = false := by simpa using hro
          obtain ⟨t, f, e, hle⟩ := (live_iff hro').1 (read_some hb).2
          rw [hf] at e; injection e with e; injection e with e1 e2; subst e1 e2
          exact ⟨b, fl, hb, hro', hf, hle, h2, h3, h4, by cases vs with | nil => simp at h5 | cons x l => simp, h.symm⟩
        · cases h
      · cases h
  · cases h

/-- Which blocks can be read behind a write. -/
theorem wr_live {H : Heap} {b x : Blk} {fl : Nat} {t : Tr CObj} (hf : H.fam.get b.fam = some (b.ver, fl)) (hle : fl ≤ b.ver)
    (h : ({ H with t, fam := H.fam.set b.fam (b.ver, b.ver) } : Heap).live x = true) : H.live x = true ∧ (x.ro = false → x.fam = b.fam → b.ver ≤ x.ver) := by
  cases hx : x.ro with
  | true => exact ⟨by simp [Heap.live, hx], fun h => by cases h⟩
  | false =>
    obtain ⟨top, f, h1, h2⟩ := (live_iff hx).1 h
    simp only [Tr.get_set] at h1
    by_cases he : x.fam = b.fam
    · rw [if_pos he] at h1
      injection h1 with h1; injection h1 with h1 h3
      refine ⟨(live_iff hx).2 ⟨b.ver, fl, by rw [he]; exact hf, by omega⟩, fun _ _ => by omega⟩
    · rw [if_neg he] at h1
      exact ⟨(live_iff hx).2 ⟨top, f, h1, h2⟩, fun _ e => absurd e he⟩

theorem wr_sound {ρ : Rho} {H H' : Heap} {w : World} {c off : Nat} {vs vs' : List Value} {rb : RB} (hR : Rel ρ H w) (hc : ρ c = some rb)
    (h : H.wr c off vs = some H') (hv : VRs ρ vs vs') :
    (∀ j, j < vs'.length → (w.cell? ⟨rb.blk, rb.off + off + j, none⟩).isSome = true) ∧ (∀ j, j < vs'.length → w.frozen? ⟨rb.blk, rb.off + off + j, none⟩ = false) ∧
    (∀ v ∈ vs', v.oneCell' = true) ∧ Post ρ H w ρ H' (w.setCells rb.blk (rb.off + off) vs') := by
  obtain ⟨b, fl, hr, hro, hf, hfl, hlen, hfz, hok, hpos, rfl⟩ := wr_spec h
  obtain ⟨hg, hl⟩ := read_some hr
  obtain ⟨cs, t, fr, r, hcell⟩ := hR.readable hc hr
  have hvl := hv.len
  have hrro : rb.ro = false := r.ro.trans hro
  have hin : rb.off + off + vs'.length ≤ cs.size := by
    obtain ⟨v', h1, _⟩ := r.vals hl (off + vs'.length - 1) b.cells[off + vs'.length - 1] (List.getElem?_eq_getElem (by omega))
    have := (Array.getElem?_eq_some_iff.1 h1).1
    omega
  obtain ⟨s1, s2, s3, s4, s5⟩ := setCells_same rb.blk vs' (rb.off + off) w
  have s6 := setCells_heap rb.blk vs' (rb.off + off) w cs t fr r.there hin
  have hsl := splice_length b.cells off vs hlen
  have hsl' := splice_length cs.toList (rb.off + off) vs' (by simpa using hin)
  -- the elder blocks of the family
  have old : ∀ d x, d ≠ c → H.t.get d = some (.cells x) → x.ro = false → x.fam = b.fam → x.ver < b.ver := by
    intro d x hd hx hxr hxf
    obtain ⟨top, f, h1, h2⟩ := hR.wf.fam d x hx hxr
    rw [hxf, hf] at h1; injection h1 with h1; injection h1 with h1 h3
    have := hR.wf.ver d c x b hx hg hxr hro hxf
    rcases Nat.lt_or_ge x.ver b.ver with h | h
    · exact h
    · exact absurd (this (by omega)) hd
  refine ⟨fun j hj => ?_, fun j hj => ?_, fun v' hv' => ?_, ?_⟩
  · simp only [World.cell?, r.there]
    simp; omega
  · have hlt : rb.off + off + j < cs.size := by omega
    simp only [World.frozen?, r.there]
    cases hfj : (decide (fr.1 ≤ rb.off + off + j) && decide (rb.off + off + j < fr.2)) with
    | false => rfl
    | true =>
      simp only [Bool.and_eq_true, decide_eq_true_eq] at hfj
      rcases (r.frz hro ⟨fl, hf⟩).2 _ hfj.1 hfj.2 with h | h <;> omega
  · obtain ⟨i, hi⟩ := List.mem_iff_getElem?.1 hv'
    have hi' : i < vs.length := by rw [hvl]; exact (List.getElem?_eq_some_iff.1 hi).1
    have hok' := List.all_eq_true.1 hok vs[i] (List.getElem_mem hi')
    exact (hv.at_ i _ _ (List.getElem?_eq_getElem hi') hi).one hok'
  · refine ⟨Ext.refl ρ, ?_, fun d rd h1 h2 => (by rw [h1] at h2; cases h2), Nat.le_refl _, by rw [s1]; exact Nat.le_refl _, fun k _ hk => s5 k (fun e => ?_), s2, s3, s4⟩
    · refine ⟨⟨?_, ?_, ?_, ?_, ?_⟩, ?_, ?_, ?_, ?_, ?_⟩
      · -- nx
        intro d o hd
        simp only [Tr.get_set] at hd
        split at hd
        · rename_i e; subst e; exact hR.wf.nx _ _ hg
        · exact hR.wf.nx _ _ hd
      · -- fx
        intro f x hd
        simp only [Tr.get_set] at hd
        split at hd
        · rename_i e; subst e; exact hR.wf.fx _ _ hf
        · exact hR.wf.fx _ _ hd
      · -- fam
        intro d x hd hxr
        simp only [Tr.get_set] at hd ⊢
        split at hd
        · injection hd with hd; injection hd with hd; subst hd
          exact ⟨b.ver, b.ver, by simp, Nat.le_refl _⟩
        · rename_i hne
          obtain ⟨top, f, h1, h2⟩ := hR.wf.fam d x hd hxr
          by_cases he : x.fam = b.fam
          · exact ⟨b.ver, b.ver, by simp [he], Nat.le_of_lt (old d x hne hd hxr he)⟩
          · exact ⟨top, f, by simp [he, h1], h2⟩
      · -- ver
        intro d e x y hd he hxr hyr hxy hv2
        simp only [Tr.get_set] at hd he
        split at hd <;> split at he
        · rename_i h1 h2; exact h1.trans h2.symm
        · rename_i h1 h2
          injection hd with hd; injection hd with hd; subst hd
          have := old e y h2 he hyr (by simpa using hxy.symm)
          simp at hv2; omega
        · rename_i h1 h2
          injection he with he; injection he with he; subst he
          have := old d x h1 hd hxr (by simpa using hxy)
          simp at hv2; omega
        · exact hR.wf.ver d e x y hd he hxr hyr hxy hv2
      · -- len
        intro d e x y hd he hxr hyr hxy hlx hty
        simp only [Tr.get_set] at hd he
        obtain ⟨f, hty⟩ := hty
        simp only [Tr.get_set] at hty
        have hlx' := wr_live hf hfl hlx
        have hcc : x.fam = b.fam → d ≠ c → H.t.get d = some (.cells x) → False := fun e1 e2 e3 => by
          have := old d x e2 e3 hxr e1
          have := hlx'.2 hxr e1
          omega
        split at hd <;> split at he
        · injection hd with hd; injection hd with hd; injection he with he; injection he with he; subst hd he
          exact Nat.le_refl _
        · rename_i h1 h2
          injection hd with hd; injection hd with hd; subst hd
          simp only at hxy
          rw [if_pos hxy.symm] at hty
          injection hty with hty; injection hty with hty _
          have := old e y h2 he hyr hxy.symm
          omega
        · rename_i h1 h2
          injection he with he; injection he with he; subst he
          exact absurd hd (fun h => hcc hxy h1 h)
        · rename_i h1 h2
          by_cases hyb : y.fam = b.fam
          · exact absurd hd (fun h => hcc (hxy.trans hyb) h1 h)
          · rw [if_neg hyb] at hty
            exact hR.wf.len d e x y hd he hxr hyr hxy hlx'.1 ⟨f, hty⟩
      · -- lt
        intro d rd hd
        rw [s1]; exact hR.lt d rd hd
      · -- cells
        intro d rd x hd hx
        simp only [Tr.get_set] at hx
        split at hx
        · rename_i e; subst e
          injection hx with hx; injection hx with hx; subst hx
          rw [hc] at hd; injection hd with hd; subst hd
          refine ⟨_, t, fr, ⟨r.ro, r.exact, s6, by simp [hsl', r.size], r.elem, fun he => by have := r.whole he; exact ⟨this.1, by simp [hsl, this.2]⟩, fun _ i v hi => ?_, fun h1 h2 => ?_⟩⟩
          · simp only at hi
            rw [splice_get _ _ _ hlen] at hi
            simp only [List.getElem?_toArray]
            rw [splice_get _ _ _ (by simpa using hin)]
            split at hi
            · rename_i h1
              rw [if_pos (by omega)]
              obtain ⟨v', e1, e2⟩ := hv.get hi
              exact ⟨v', by rw [show rb.off + i - (rb.off + off) = i - off by omega]; exact e1, e2⟩
            · rename_i h1
              rw [if_neg (by omega)]
              obtain ⟨v', e1, e2⟩ := r.vals hl i v hi
              exact ⟨v', by simpa using e1, e2⟩
          · have := r.frz hro ⟨fl, hf⟩
            simpa [FrzOk, hsl'] using this
        · rename_i hne
          obtain ⟨cs2, t2, fr2, r2⟩ := hR.cells d rd x hd hx
          by_cases hbk : rd.blk = rb.blk
          · rcases hR.sep d c rd rb hd hc hne hbk with ⟨_, h2⟩ | ⟨y, y', g1, g2, p1, p2, p3, _⟩
            · rw [hrro] at h2; cases h2
            · rw [hx] at g1; injection g1 with g1; injection g1 with g1; subst g1
              rw [hg] at g2; injection g2 with g2; injection g2 with g2; subst g2
              have hlt := old d x hne hx p1 p3
              have e2 : cs2 = cs ∧ t2 = t ∧ fr2 = fr := by
                have := r2.there; rw [hbk, r.there] at this
                injection this with this; injection this with e1 e2 e3
                exact ⟨e1.symm, e2.symm, e3.symm⟩
              obtain ⟨e1, e2, e3⟩ := e2
              subst e1 e2 e3
              refine ⟨_, t2, fr2, ⟨r2.ro, r2.exact, by rw [hbk]; exact s6, by simp [hsl', r2.size], r2.elem, r2.whole, fun hlx => ?_, fun _ h2 => ?_⟩⟩
              · have := (wr_live hf hfl hlx).2 p1 p3; omega
              · obtain ⟨f, h2⟩ := h2
                simp only [Tr.get_set, p3, if_true] at h2
                injection h2 with h2; injection h2 with h2 _; omega
          · refine ⟨cs2, t2, fr2, ⟨r2.ro, r2.exact, by rw [s5 _ hbk]; exact r2.there, r2.size, r2.elem, r2.whole, fun hlx => r2.vals (wr_live hf hfl hlx).1, fun h1 h2 => r2.frz h1 ?_⟩⟩
            obtain ⟨f, h2⟩ := h2
            simp only [Tr.get_set] at h2
            split at h2
            · rename_i e
              injection h2 with h2; injection h2 with h2 _
              exact ⟨fl, by rw [e, hf, h2]⟩
            · exact ⟨f, h2⟩
      · -- map
        intro d rd es hd he
        simp only [Tr.get_set] at he
        split at he
        · cases he
        · rename_i hne
          obtain ⟨hrr, es', clock, h1, h2⟩ := hR.map d rd es hd he
          refine ⟨hrr, es', clock, ?_, h2⟩
          rw [s5 _ (fun e => by
            rw [e, r.there] at h1; cases h1)]
          exact h1
      · -- siter
        intro d rd s pos hd he
        simp only [Tr.get_set] at he
        split at he
        · cases he
        · obtain ⟨hrr, ho, h1⟩ := hR.siter d rd s pos hd he
          refine ⟨hrr, ho, ?_⟩
          rw [s5 _ (fun e => by
            rw [e, r.there] at h1; cases h1)]
          exact h1
      · -- sep
        intro d e rd re hd he hne hbk
        rcases hR.sep d e rd re hd he hne hbk with h1 | ⟨x, y, g1, g2, p1, p2, p3, p4⟩
        · exact .inl h1
        · refine .inr ?_
          simp only [Tr.get_set]
          by_cases hdc : d = c
          · subst hdc
            rw [hg] at g1; injection g1 with g1; injection g1 with g1; subst g1
            have hec : ¬ e = d := fun e => hne e.symm
            exact ⟨{ b with cells := splice b.cells off vs }, y, by simp, by simp [hec, g2], hro, p2, p3, fun l1 l2 => p4 hl (wr_live hf hfl l2).1⟩
          · by_cases hec : e = c
            · subst hec
              rw [hg] at g2; injection g2 with g2; injection g2 with g2; subst g2
              exact ⟨x, { b with cells := splice b.cells off vs }, by simp [hdc, g1], by simp, p1, hro, p3, fun l1 l2 => p4 (wr_live hf hfl l1).1 hl⟩
            · exact ⟨x, y, by simp [hdc, g1], by simp [hec, g2], p1, p2, p3, fun l1 l2 => p4 (wr_live hf hfl l1).1 (wr_live hf hfl l2).1⟩
    · -- frame
      subst e
      have := hk c rb hc rfl
      rw [hrro] at this; cases this

end Go.Can

namespace Go.Can
open Go

def Rho.add (ρ : Rho) (c : Nat) (rb : RB) : Rho := fun d => if d = c then some rb else ρ d
theorem Rho.add_same (ρ : Rho) (c : Nat) (rb : RB) : ρ.add c rb c = some rb := by simp [Rho.add]
theorem Rho.add_ne (ρ : Rho) {c d : Nat} (rb : RB) (h : d ≠ c) : ρ.add c rb d = ρ d := by simp [Rho.add, h]
theorem Rho.add_ext {ρ : Rho} {c : Nat} (rb : RB) (h : ρ c = none) : Ext ρ (ρ.add c rb) := fun d rd hd => by
  by_cases e : d = c
  · subst e; rw [h] at hd; cases hd
  · rw [Rho.add_ne ρ rb e]; exact hd

theorem size_alloc (w : World) (o : Obj) : (w.alloc o).heap.size = w.heap.size + 1 := Array.size_push _
theorem heap_alloc_new (w : World) (o : Obj) : (w.alloc o).heap[w.heap.size]? = some o := by show (w.heap.push o)[w.heap.size]? = _; simp

theorem Rel.unborn {ρ : Rho} {H : Heap} {w : World} (h : Rel ρ H w) : ρ H.next = none := by
  cases hc : ρ H.next with
  | none => rfl
  | some rb => have := (h.lt _ _ hc).1; omega

/-- A new block of the world's that nothing of the interpreter's stands for. -/
theorem Rel.alloc {ρ : Rho} {H : Heap} {w : World} (h : Rel ρ H w) (o : Obj) : Rel ρ H (w.alloc o) := by
  have keep : ∀ k, k < w.heap.size → (w.alloc o).heap[k]? = w.heap[k]? := fun k hk => Go.RowKit.Below.heap_alloc w o k hk
  refine ⟨h.wf, fun c rb hc => ⟨(h.lt c rb hc).1, ?_⟩, fun c rb b hc hb => ?_, fun c rb es hc he => ?_, fun c rb s pos hc hs => ?_, h.sep⟩
  · have := (h.lt c rb hc).2; rw [size_alloc]; omega
  · obtain ⟨cs, t, fr, r⟩ := h.cells c rb b hc hb
    exact ⟨cs, t, fr, r.ro, r.exact, by rw [keep _ (h.lt c rb hc).2]; exact r.there, r.size, r.elem, r.whole, r.vals, r.frz⟩
  · rw [keep _ (h.lt c rb hc).2]; exact h.map c rb es hc he
  · rw [keep _ (h.lt c rb hc).2]; exact h.siter c rb s pos hc hs

theorem new_live {H : Heap} {x : Blk} (cells : List Value) (elem : TypeId) (exact strish : Bool) (hx : x.ro = true ∨ x.fam ≠ H.next) :
    (H.new cells elem exact strish).live x = H.live x := by
  unfold Heap.live
  rcases hx with hx | hx
  · simp [hx]
  · simp only [Heap.new, Tr.get_set, if_neg hx]

/-- A new block of the interpreter's that stands for nothing yet. -/
theorem Rel.new {ρ : Rho} {H : Heap} {w : World} (h : Rel ρ H w) (cells : List Value) (elem : TypeId) (exact strish : Bool) : Rel ρ (H.new cells elem exact strish) w := by
  have hn : ∀ c o, H.t.get c = some o → c ≠ H.next := fun c o hc e => by have := h.wf.nx c o hc; omega
  have hnf : ∀ c b, H.t.get c = some (.cells b) → b.ro = false → b.fam ≠ H.next := fun c b hc hr e => by
    obtain ⟨top, fl, h1, _⟩ := h.wf.fam c b hc hr
    have := h.wf.fx _ _ h1; omega
  have lv : ∀ c b, H.t.get c = some (.cells b) → (H.new cells elem exact strish).live b = H.live b := fun c b hc => by
    cases hr : b.ro with
    | true => exact new_live _ _ _ _ (.inl hr)
    | false => exact new_live _ _ _ _ (.inr (hnf c b hc hr))
  have tp : ∀ c b, H.t.get c = some (.cells b) → b.ro = false → topOf (H.new cells elem exact strish) b → topOf H b := fun c b hc hr ⟨fl, hf⟩ =>
    ⟨fl, by simpa only [Heap.new, Tr.get_set, if_neg (hnf c b hc hr)] using hf⟩
  have hold : ∀ c rb, ρ c = some rb → c ≠ H.next := fun c rb hc e => by have := (h.lt c rb hc).1; omega
  have get_ne : ∀ c, c ≠ H.next → (H.new cells elem exact strish).t.get c = H.t.get c := fun c hc => by simp only [Heap.new, Tr.get_set, if_neg hc]
  refine ⟨⟨?_, ?_, ?_, ?_, ?_⟩, fun c rb hc => ⟨?_, (h.lt c rb hc).2⟩, fun c rb b hc hb => ?_, fun c rb es hc he => ?_, fun c rb s pos hc hs => ?_, fun c d rc rd hc hd hne hbk => ?_⟩
  · intro c o hc
    simp only [Heap.new, Tr.get_set] at hc
    show c < H.next + 1
    split at hc
    · omega
    · have := h.wf.nx c o hc; omega
  · intro f x hf
    simp only [Heap.new, Tr.get_set] at hf
    show f < H.next + 1
    split at hf
    · omega
    · have := h.wf.fx f x hf; omega
  · intro c b hc hr
    simp only [Heap.new, Tr.get_set] at hc ⊢
    split at hc
    · injection hc with hc; injection hc with hc; subst hc
      exact ⟨0, 0, by simp, Nat.le_refl _⟩
    · obtain ⟨top, fl, h1, h2⟩ := h.wf.fam c b hc hr
      exact ⟨top, fl, by rw [if_neg (hnf c b hc hr)]; exact h1, h2⟩
  · intro c d b b' hc hd hb hb' hf hv
    simp only [Heap.new, Tr.get_set] at hc hd
    split at hc <;> split at hd
    · omega
    · injection hc with hc; injection hc with hc; subst hc
      exact absurd hf.symm (hnf d b' hd hb')
    · injection hd with hd; injection hd with hd; subst hd
      exact absurd hf (hnf c b hc hb)
    · exact h.wf.ver c d b b' hc hd hb hb' hf hv
  · intro c d b b' hc hd hb hb' hf hl ht
    simp only [Heap.new, Tr.get_set] at hc hd
    split at hc <;> split at hd
    · injection hc with hc; injection hc with hc; injection hd with hd; injection hd with hd; subst hc hd; exact Nat.le_refl _
    · injection hc with hc; injection hc with hc; subst hc
      exact absurd hf.symm (hnf d b' hd hb')
    · injection hd with hd; injection hd with hd; subst hd
      exact absurd hf (hnf c b hc hb)
    · exact h.wf.len c d b b' hc hd hb hb' hf (by rw [← lv c b hc]; exact hl) (tp d b' hd hb' ht)
  · have := (h.lt c rb hc).1; show c < H.next + 1; omega
  · rw [get_ne c (hold c rb hc)] at hb
    obtain ⟨cs, t, fr, r⟩ := h.cells c rb b hc hb
    exact ⟨cs, t, fr, r.ro, r.exact, r.there, r.size, r.elem, r.whole, fun hl => r.vals (by rw [← lv c b hb]; exact hl), fun hr ht => r.frz hr (tp c b hb hr ht)⟩
  · rw [get_ne c (hold c rb hc)] at he; exact h.map c rb es hc he
  · rw [get_ne c (hold c rb hc)] at hs; exact h.siter c rb s pos hc hs
  · rcases h.sep c d rc rd hc hd hne hbk with h1 | ⟨x, y, g1, g2, p1, p2, p3, p4⟩
    · exact .inl h1
    · exact .inr ⟨x, y, by rw [get_ne c (hold c rc hc)]; exact g1, by rw [get_ne d (hold d rd hd)]; exact g2, p1, p2, p3, fun l1 l2 => p4 (by rw [← lv c x g1]; exact l1) (by rw [← lv d y g2]; exact l2)⟩

/-- The same for a thing that is no row of cells. -/
theorem Rel.newObj {ρ : Rho} {H : Heap} {w : World} (h : Rel ρ H w) (o : CObj) (ho : ∀ b, o ≠ .cells b) : Rel ρ (H.newObj o) w := by
  have hold : ∀ c rb, ρ c = some rb → c ≠ H.next := fun c rb hc e => by have := (h.lt c rb hc).1; omega
  have get_ne : ∀ c, c ≠ H.next → (H.newObj o).t.get c = H.t.get c := fun c hc => by simp only [Heap.newObj, Tr.get_set, if_neg hc]
  have cl : ∀ c b, (H.newObj o).t.get c = some (.cells b) → H.t.get c = some (.cells b) := fun c b hc => by
    simp only [Heap.newObj, Tr.get_set] at hc
    split at hc
    · injection hc with hc; exact absurd hc (ho b)
    · exact hc
  have lv : ∀ b, (H.newObj o).live b = H.live b := fun _ => rfl
  refine ⟨⟨?_, fun f x hf => ?_, fun c b hc hr => h.wf.fam c b (cl c b hc) hr, fun c d b b' hc hd => h.wf.ver c d b b' (cl c b hc) (cl d b' hd),
    fun c d b b' hc hd => h.wf.len c d b b' (cl c b hc) (cl d b' hd)⟩, fun c rb hc => ⟨?_, (h.lt c rb hc).2⟩, fun c rb b hc hb => ?_, fun c rb es hc he => ?_, fun c rb s pos hc hs => ?_,
    fun c d rc rd hc hd hne hbk => ?_⟩
  · intro c x hc
    simp only [Heap.newObj, Tr.get_set] at hc
    show c < H.next + 1
    split at hc
    · omega
    · have := h.wf.nx c x hc; omega
  · have := h.wf.fx f x hf; show f < H.next + 1; omega
  · have := (h.lt c rb hc).1; show c < H.next + 1; omega
  · obtain ⟨cs, t, fr, r⟩ := h.cells c rb b hc (cl c b hb)
    exact ⟨cs, t, fr, r.ro, r.exact, r.there, r.size, r.elem, r.whole, r.vals, r.frz⟩
  · rw [get_ne c (hold c rb hc)] at he; exact h.map c rb es hc he
  · rw [get_ne c (hold c rb hc)] at hs; exact h.siter c rb s pos hc hs
  · rcases h.sep c d rc rd hc hd hne hbk with h1 | ⟨x, y, g1, g2, p1, p2, p3, p4⟩
    · exact .inl h1
    · exact .inr ⟨x, y, by rw [get_ne c (hold c rc hc)]; exact g1, by rw [get_ne d (hold d rd hd)]; exact g2, p1, p2, p3, p4⟩

/-- A row of cells of the interpreter's comes to stand for a row of the world's. -/
theorem Rel.born {ρ : Rho} {H : Heap} {w : World} (h : Rel ρ H w) {c : Nat} {rb : RB} {b : Blk} {cs : Array Value} {t : TypeId} {fr : Nat × Nat}
    (hn : ρ c = none) (hb : H.t.get c = some (.cells b)) (hbro : b.ro = false) (hlt : rb.blk < w.heap.size) (r : CellsRel (ρ.add c rb) H w rb b cs t fr)
    (hk : ∀ d rd, ρ d = some rd → rd.blk = rb.blk → ∃ x, H.t.get d = some (.cells x) ∧ x.ro = false ∧ x.fam = b.fam ∧ (H.live x = true → H.live b = true → rd.off = rb.off)) :
    Rel (ρ.add c rb) H w := by
  have he := Rho.add_ext rb hn
  have cases' : ∀ d rd, ρ.add c rb d = some rd → (d = c ∧ rd = rb) ∨ (d ≠ c ∧ ρ d = some rd) := fun d rd hd => by
    by_cases e : d = c
    · subst e; rw [Rho.add_same] at hd; injection hd with hd; exact .inl ⟨rfl, hd.symm⟩
    · rw [Rho.add_ne ρ rb e] at hd; exact .inr ⟨e, hd⟩
  refine ⟨h.wf, fun d rd hd => ?_, fun d rd x hd hx => ?_, fun d rd es hd hx => ?_, fun d rd s pos hd hx => ?_, fun d e rd re hd hee hne hbk => ?_⟩
  · rcases cases' d rd hd with ⟨rfl, rfl⟩ | ⟨_, h1⟩
    · exact ⟨h.wf.nx _ _ hb, hlt⟩
    · exact h.lt d rd h1
  · rcases cases' d rd hd with ⟨rfl, rfl⟩ | ⟨_, h1⟩
    · rw [hb] at hx; injection hx with hx; injection hx with hx; subst hx; exact ⟨cs, t, fr, r⟩
    · obtain ⟨cs2, t2, fr2, r2⟩ := h.cells d rd x h1 hx
      exact ⟨cs2, t2, fr2, r2.ro, r2.exact, r2.there, r2.size, r2.elem, r2.whole, fun hl i v hv => by
        obtain ⟨v', a1, a2⟩ := r2.vals hl i v hv; exact ⟨v', a1, a2.mono he⟩, r2.frz⟩
  · rcases cases' d rd hd with ⟨rfl, rfl⟩ | ⟨_, h1⟩
    · rw [hb] at hx; cases hx
    · obtain ⟨a0, es', clock, a1, a2, a3⟩ := h.map d rd es h1 hx
      exact ⟨a0, es', clock, a1, a2, fun i e e' x y => by obtain ⟨p, q, s⟩ := a3 i e e' x y; exact ⟨p, q, s.mono he⟩⟩
  · rcases cases' d rd hd with ⟨rfl, rfl⟩ | ⟨_, h1⟩
    · rw [hb] at hx; cases hx
    · exact h.siter d rd s pos h1 hx
  · rcases cases' d rd hd with ⟨rfl, rfl⟩ | ⟨n1, h1⟩ <;> rcases cases' e re hee with ⟨rfl, rfl⟩ | ⟨n2, h2⟩
    · exact absurd rfl hne
    · obtain ⟨x, g1, g2, g3, g4⟩ := hk e re h2 hbk.symm
      exact .inr ⟨b, x, hb, g1, hbro, g2, g3.symm, fun l1 l2 => (g4 l2 l1).symm⟩
    · obtain ⟨x, g1, g2, g3, g4⟩ := hk d rd h1 hbk
      exact .inr ⟨x, b, g1, hb, g2, hbro, g3, g4⟩
    · exact h.sep d e rd re h1 h2 hne hbk

/-- A thing that is no row of cells comes to stand for one of the world's. -/
theorem Rel.bornObj {ρ : Rho} {H : Heap} {w : World} (h : Rel ρ H w) {c : Nat} {rb : RB} {o : CObj} (hn : ρ c = none) (ho : H.t.get c = some o) (hoc : ∀ b, o ≠ .cells b)
    (hlt : rb.blk < w.heap.size) (hk : ∀ d rd, ρ d = some rd → rd.blk ≠ rb.blk)
    (hm : ∀ es, o = .map es → rb.ro = false ∧ es = [] ∧ ∃ clock, w.heap[rb.blk]? = some (.map #[] clock))
    (hs : ∀ s pos, o = .siter s pos → rb.ro = false ∧ rb.off = 0 ∧ w.heap[rb.blk]? = some (.stringIter s pos)) : Rel (ρ.add c rb) H w := by
  have he := Rho.add_ext rb hn
  have cases' : ∀ d rd, ρ.add c rb d = some rd → (d = c ∧ rd = rb) ∨ (d ≠ c ∧ ρ d = some rd) := fun d rd hd => by
    by_cases e : d = c
    · subst e; rw [Rho.add_same] at hd; injection hd with hd; exact .inl ⟨rfl, hd.symm⟩
    · rw [Rho.add_ne ρ rb e] at hd; exact .inr ⟨e, hd⟩
  refine ⟨h.wf, fun d rd hd => ?_, fun d rd x hd hx => ?_, fun d rd es hd hx => ?_, fun d rd s pos hd hx => ?_, fun d e rd re hd hee hne hbk => ?_⟩
  · rcases cases' d rd hd with ⟨rfl, rfl⟩ | ⟨_, h1⟩
    · exact ⟨h.wf.nx _ _ ho, hlt⟩
    · exact h.lt d rd h1
  · rcases cases' d rd hd with ⟨rfl, rfl⟩ | ⟨_, h1⟩
    · rw [ho] at hx; injection hx with hx; exact absurd hx (hoc x)
    · obtain ⟨cs2, t2, fr2, r2⟩ := h.cells d rd x h1 hx
      exact ⟨cs2, t2, fr2, r2.ro, r2.exact, r2.there, r2.size, r2.elem, r2.whole, fun hl i v hv => by
        obtain ⟨v', a1, a2⟩ := r2.vals hl i v hv; exact ⟨v', a1, a2.mono he⟩, r2.frz⟩
  · rcases cases' d rd hd with ⟨rfl, rfl⟩ | ⟨_, h1⟩
    · rw [ho] at hx; injection hx with hx
      obtain ⟨a, rfl, clock, b⟩ := hm es hx
      exact ⟨a, #[], clock, b, rfl, fun i e e' x => by simp at x⟩
    · obtain ⟨a0, es', clock, a1, a2, a3⟩ := h.map d rd es h1 hx
      exact ⟨a0, es', clock, a1, a2, fun i e e' x y => by obtain ⟨p, q, s⟩ := a3 i e e' x y; exact ⟨p, q, s.mono he⟩⟩
  · rcases cases' d rd hd with ⟨rfl, rfl⟩ | ⟨_, h1⟩
    · rw [ho] at hx; injection hx with hx; exact hs s pos hx
    · exact h.siter d rd s pos h1 hx
  · rcases cases' d rd hd with ⟨rfl, rfl⟩ | ⟨n1, h1⟩ <;> rcases cases' e re hee with ⟨rfl, rfl⟩ | ⟨n2, h2⟩
    · exact absurd rfl hne
    · exact absurd hbk.symm (hk e re h2)
    · exact absurd hbk (hk d rd h1)
    · exact h.sep d e rd re h1 h2 hne hbk

/-- A new block on both sides. -/
theorem new_sound {ρ : Rho} {H : Heap} {w : World} (hR : Rel ρ H w) (cells : List Value) (elem : TypeId) (exact strish : Bool) (cs : Array Value) (fr : Nat × Nat)
    (hv : ∀ (i : Nat) v, cells[i]? = some v → ∃ v', cs[i]? = some v' ∧ VR ρ v v') (hfr : fr.1 ≤ fr.2 ∧ ∀ j, fr.1 ≤ j → j < fr.2 → strish = true ∧ cs.size ≤ j) (hex : exact = true → cells.length = cs.size) :
    Post ρ H w (ρ.add H.next ⟨w.heap.size, 0, cs.size, false, exact⟩) (H.new cells elem exact strish) (w.alloc (.cells cs elem fr)) := by
  have hn := hR.unborn
  have he := Rho.add_ext ⟨w.heap.size, 0, cs.size, false, exact⟩ hn
  have h1 := (hR.new cells elem exact strish).alloc (.cells cs elem fr)
  refine ⟨he, ?_, fun c rb h2 h3 => ?_, Nat.le_succ _, by rw [size_alloc]; exact Nat.le_succ _, fun k hk _ => Go.RowKit.Below.heap_alloc w _ k hk, rfl, rfl, rfl⟩
  · refine h1.born (b := { cells, elem, fam := H.next, ver := 0, ro := false, frz := 0, strish, exact }) (cs := cs) (t := elem) (fr := fr) hn (by simp [Heap.new, Tr.get_set]) rfl (by rw [size_alloc]; exact Nat.lt_succ_self _)
      ⟨rfl, rfl, heap_alloc_new w _, rfl, fun _ => rfl, fun h => ⟨rfl, hex h⟩, fun _ i v hi => ?_, fun _ _ => ⟨hfr.1, fun j a1 a2 => .inr (hfr.2 j a1 a2)⟩⟩ (fun d rd hd hbk => ?_)
    · obtain ⟨v', a1, a2⟩ := hv i v hi
      exact ⟨v', by simpa using a1, a2.mono he⟩
    · have := (hR.lt d rd hd).2; simp at hbk; omega
  · by_cases e : c = H.next
    · subst e; rw [Rho.add_same] at h2; injection h2 with h2; subst h2; exact ⟨Nat.le_refl _, rfl, .inl (Nat.le_refl _)⟩
    · rw [Rho.add_ne ρ _ e] at h2; rw [h2] at h3; cases h3

theorem newObj_sound {ρ : Rho} {H : Heap} {w : World} (hR : Rel ρ H w) (o : CObj) (o' : Obj) (h : (o = .map [] ∧ ∃ clock, o' = .map #[] clock) ∨ (∃ s pos, o = .siter s pos ∧ o' = .stringIter s pos)) :
    Post ρ H w (ρ.add H.next ⟨w.heap.size, 0, 0, false, true⟩) (H.newObj o) (w.alloc o') := by
  have hn := hR.unborn
  have he := Rho.add_ext ⟨w.heap.size, 0, 0, false, true⟩ hn
  have hoc : ∀ b, o ≠ .cells b := fun b e => by rcases h with ⟨h, _⟩ | ⟨s, p, h, _⟩ <;> (rw [h] at e; cases e)
  have h1 := (hR.newObj o hoc).alloc o'
  refine ⟨he, ?_, fun c rb h2 h3 => ?_, Nat.le_succ _, by rw [size_alloc]; exact Nat.le_succ _, fun k hk _ => Go.RowKit.Below.heap_alloc w _ k hk, rfl, rfl, rfl⟩
  · refine h1.bornObj (o := o) hn (by simp [Heap.newObj, Tr.get_set]) hoc (by rw [size_alloc]; exact Nat.lt_succ_self _) (fun d rd hd e => ?_) (fun es e => ?_) (fun s pos e => ?_)
    · have := (hR.lt d rd hd).2; simp at e; omega
    · rcases h with ⟨h, clock, h'⟩ | ⟨s, p, h, _⟩
      · rw [h] at e; injection e with e; exact ⟨rfl, e.symm, clock, by rw [h']; exact heap_alloc_new w _⟩
      · rw [h] at e; cases e
    · rcases h with ⟨h, _⟩ | ⟨s', p', h, h'⟩
      · rw [h] at e; cases e
      · rw [h] at e; injection e with e1 e2; subst e1 e2; exact ⟨rfl, rfl, by rw [h']; exact heap_alloc_new w _⟩
  · by_cases e : c = H.next
    · subst e; rw [Rho.add_same] at h2; injection h2 with h2; subst h2; exact ⟨Nat.le_refl _, rfl, .inl (Nat.le_refl _)⟩
    · rw [Rho.add_ne ρ _ e] at h2; rw [h2] at h3; cases h3

end Go.Can

namespace Go.Can
open Go

theorem grow_spec {H H' : Heap} {b : Blk} {off len : Nat} {new : List Value} (h : H.grow b off len new = some H') :
    ∃ fl, b.ro = false ∧ H.fam.get b.fam = some (b.ver, fl) ∧ off + len ≤ b.cells.length ∧ b.frz ≤ off + len ∧
      H' = { next := H.next + 1, t := H.t.set H.next (.cells { b with cells := (b.cells.drop off).take len ++ new, ver := b.ver + 1, frz := b.frz - off }),
             fam := H.fam.set b.fam (b.ver + 1, if off = 0 ∧ len = b.cells.length then fl else b.ver + 1) } := by
  unfold Heap.grow at h
  split at h
  · cases h
  · rename_i hro
    split at h
    · rename_i top fl hf
      split at h
      · rename_i hc
        obtain ⟨h1, h2, h3⟩ := hc
        injection h with h
        subst h1
        exact ⟨fl, by simpa using hro, hf, h2, h3, h.symm⟩
      · cases h
    · cases h

/-- The interpreter's side of a growth, ahead of the world's. -/
theorem Rel.grow {ρ : Rho} {H H' : Heap} {w : World} (h : Rel ρ H w) {c : Nat} {b : Blk} {off len : Nat} {new : List Value} (hb : H.read c = some b)
    (hg : H.grow b off len new = some H') :
    Rel ρ H' w ∧ (∀ d x, H.t.get d = some (.cells x) → H'.t.get d = some (.cells x)) ∧ (∀ d x, H.t.get d = some (.cells x) → H'.live x = true → H.live x = true ∧ (x.ro = false → x.fam = b.fam → off = 0 ∧ len = b.cells.length ∧ x.cells.length ≤ b.cells.length)) := by
  obtain ⟨fl, hro, hf, hle, hfz, rfl⟩ := grow_spec hg
  obtain ⟨hgc, hbl⟩ := read_some hb
  have hbn := h.wf.nx c _ hgc
  obtain ⟨_, fl', e, hfl⟩ := (live_iff hro).1 hbl
  rw [hf] at e; injection e with e; injection e with _ e; subst e
  have hn : ∀ c o, H.t.get c = some o → c ≠ H.next := fun c o hc e => by have := h.wf.nx c o hc; omega
  have get_old : ∀ d x, H.t.get d = some x → (H.t.set H.next (CObj.cells { b with cells := (b.cells.drop off).take len ++ new, ver := b.ver + 1, frz := b.frz - off })).get d = some x :=
    fun d x hd => by rw [Tr.get_set, if_neg (hn d x hd)]; exact hd
  have hver : ∀ d x, H.t.get d = some (.cells x) → x.ro = false → x.fam = b.fam → x.ver ≤ b.ver := fun d x hd hx he => by
    obtain ⟨top, f, h1, h2⟩ := h.wf.fam d x hd hx
    rw [he, hf] at h1; injection h1 with h1; injection h1 with h1 _; omega
  have lv : ∀ d x, H.t.get d = some (.cells x) → ({ next := H.next + 1, t := H.t.set H.next (CObj.cells { b with cells := (b.cells.drop off).take len ++ new, ver := b.ver + 1, frz := b.frz - off }), fam := H.fam.set b.fam (b.ver + 1, if off = 0 ∧ len = b.cells.length then fl else b.ver + 1) } : Heap).live x = true →
      H.live x = true ∧ (x.ro = false → x.fam = b.fam → off = 0 ∧ len = b.cells.length ∧ x.cells.length ≤ b.cells.length) := by
    intro d x hd hx
    cases hxr : x.ro with
    | true => exact ⟨by simp [Heap.live, hxr], fun h => by cases h⟩
    | false =>
      obtain ⟨top, f, h1, h2⟩ := (live_iff hxr).1 hx
      simp only [Tr.get_set] at h1
      by_cases he : x.fam = b.fam
      · rw [if_pos he] at h1
        injection h1 with h1; injection h1 with h1 h3
        have hxv := hver d x hd hxr he
        split at h3
        · rename_i hc0
          have hl : H.live x = true := (live_iff hxr).2 ⟨b.ver, fl, by rw [he]; exact hf, by omega⟩
          exact ⟨hl, fun _ _ => ⟨hc0.1, hc0.2, h.wf.len d c x b hd hgc hxr hro he hl ⟨fl, hf⟩⟩⟩
        · omega
      · rw [if_neg he] at h1
        exact ⟨(live_iff hxr).2 ⟨top, f, h1, h2⟩, fun _ e => absurd e he⟩
  refine ⟨?_, fun d x hd => get_old d _ hd, lv⟩
  have hold : ∀ d rd, ρ d = some rd → d ≠ H.next := fun d rd hd e => by have := (h.lt d rd hd).1; omega
  have get_ne : ∀ d, d ≠ H.next → (H.t.set H.next (CObj.cells { b with cells := (b.cells.drop off).take len ++ new, ver := b.ver + 1, frz := b.frz - off })).get d = H.t.get d := fun d hd => by rw [Tr.get_set, if_neg hd]
  have tp : ∀ d x, H.t.get d = some (.cells x) → x.ro = false → ∀ f, (H.fam.set b.fam (b.ver + 1, if off = 0 ∧ len = b.cells.length then fl else b.ver + 1)).get x.fam = some (x.ver, f) → topOf H x := by
    intro d x hd hx f hf2
    rw [Tr.get_set] at hf2
    split at hf2
    · rename_i e
      injection hf2 with hf2; injection hf2 with hf2 _
      have := hver d x hd hx e; omega
    · exact ⟨f, hf2⟩
  refine ⟨⟨?_, ?_, ?_, ?_, ?_⟩, fun d rd hd => ⟨?_, (h.lt d rd hd).2⟩, fun d rd x hd hx => ?_, fun d rd es hd he => ?_, fun d rd s pos hd hs => ?_, fun d e rd re hd he hne hbk => ?_⟩
  · intro d o hd
    simp only [Tr.get_set] at hd
    show d < H.next + 1
    split at hd
    · omega
    · have := h.wf.nx d o hd; omega
  · intro f x hx
    simp only [Tr.get_set] at hx
    show f < H.next + 1
    split at hx
    · have := h.wf.fx _ _ hf; omega
    · have := h.wf.fx f x hx; omega
  · intro d x hd hx
    simp only [Tr.get_set] at hd ⊢
    split at hd
    · injection hd with hd; injection hd with hd; subst hd
      exact ⟨b.ver + 1, _, by simp; rfl, Nat.le_refl _⟩
    · obtain ⟨top, f, h1, h2⟩ := h.wf.fam d x hd hx
      by_cases e : x.fam = b.fam
      · exact ⟨b.ver + 1, _, by rw [if_pos e], by have := hver d x hd hx e; omega⟩
      · exact ⟨top, f, by rw [if_neg e]; exact h1, h2⟩
  · intro d e x y hd he hx hy hf2 hv
    simp only [Tr.get_set] at hd he
    split at hd <;> split at he
    · omega
    · injection hd with hd; injection hd with hd; subst hd
      have := hver e y he hy hf2.symm
      simp at hv; omega
    · injection he with he; injection he with he; subst he
      have := hver d x hd hx hf2
      simp at hv; omega
    · exact h.wf.ver d e x y hd he hx hy hf2 hv
  · intro d e x y hd he hx hy hf2 hl ht
    obtain ⟨f, ht⟩ := ht
    simp only at ht
    simp only [Tr.get_set] at hd he
    split at hd <;> split at he
    · injection hd with hd; injection hd with hd; injection he with he; injection he with he; subst hd he; exact Nat.le_refl _
    · injection hd with hd; injection hd with hd; subst hd
      simp only [Tr.get_set] at ht
      rw [if_pos hf2.symm] at ht
      injection ht with ht; injection ht with ht _
      have := hver e y he hy hf2.symm; omega
    · injection he with he; injection he with he; subst he
      obtain ⟨a1, a2⟩ := lv d x hd hl
      obtain ⟨b1, b2, b3⟩ := a2 hx hf2
      simp [b1, b2]; omega
    · by_cases e2 : y.fam = b.fam
      · simp only [Tr.get_set] at ht
        rw [if_pos e2] at ht
        injection ht with ht; injection ht with ht _
        have := hver e y he hy e2; omega
      · exact h.wf.len d e x y hd he hx hy hf2 (lv d x hd hl).1 (tp e y he hy f ht)
  · have := (h.lt d rd hd).1; show d < H.next + 1; omega
  · rw [get_ne d (hold d rd hd)] at hx
    obtain ⟨cs, t, fr, r⟩ := h.cells d rd x hd hx
    exact ⟨cs, t, fr, r.ro, r.exact, r.there, r.size, r.elem, r.whole, fun hl => r.vals (lv d x hx hl).1, fun hr ⟨f, ht⟩ => r.frz hr (tp d x hx hr f ht)⟩
  · rw [get_ne d (hold d rd hd)] at he; exact h.map d rd es hd he
  · rw [get_ne d (hold d rd hd)] at hs; exact h.siter d rd s pos hd hs
  · rcases h.sep d e rd re hd he hne hbk with h1 | ⟨x, y, g1, g2, p1, p2, p3, p4⟩
    · exact .inl h1
    · exact .inr ⟨x, y, by rw [get_ne d (hold d rd hd)]; exact g1, by rw [get_ne e (hold e re he)]; exact g2, p1, p2, p3, fun l1 l2 => p4 (lv d x g1 l1).1 (lv e y g2 l2).1⟩

/-- Cells that are written where nothing that can be read lies. -/
theorem Rel.hidden {ρ : Rho} {H : Heap} {w : World} (h : Rel ρ H w) {k s : Nat} {vs : List Value} {cs : Array Value} {t : TypeId} {fr : Nat × Nat} (hk : w.heap[k]? = some (.cells cs t fr))
    (hs : s + vs.length ≤ cs.size) (hh : ∀ c rb b, ρ c = some rb → rb.blk = k → H.t.get c = some (.cells b) → H.live b = true → rb.off + b.cells.length ≤ s) : Rel ρ H (w.setCells k s vs) := by
  obtain ⟨s1, s2, s3, s4, s5⟩ := setCells_same k vs s w
  have s6 := setCells_heap k vs s w cs t fr hk hs
  have hsl := splice_length cs.toList s vs (by simpa using hs)
  refine ⟨h.wf, fun c rb hc => by rw [s1]; exact h.lt c rb hc, fun c rb b hc hb => ?_, fun c rb es hc he => ?_, fun c rb st pos hc he => ?_, h.sep⟩
  · obtain ⟨cs2, t2, fr2, r⟩ := h.cells c rb b hc hb
    by_cases e : rb.blk = k
    · have e2 : cs2 = cs ∧ t2 = t ∧ fr2 = fr := by
        have := r.there; rw [e, hk] at this
        injection this with this; injection this with e1 e2 e3
        exact ⟨e1.symm, e2.symm, e3.symm⟩
      obtain ⟨rfl, rfl, rfl⟩ := e2
      refine ⟨_, t2, fr2, r.ro, r.exact, by rw [e]; exact s6, by simp [hsl, r.size], r.elem, r.whole, fun hl i v hv => ?_, fun h1 h2 => by have := r.frz h1 h2; simpa [FrzOk, hsl] using this⟩
      obtain ⟨v', a1, a2⟩ := r.vals hl i v hv
      have hi := (List.getElem?_eq_some_iff.1 hv).1
      have := hh c rb b hc e hb hl
      refine ⟨v', ?_, a2⟩
      simp only [List.getElem?_toArray]
      rw [splice_get _ _ _ (by simpa using hs), if_neg (by omega)]
      simpa using a1
    · exact ⟨cs2, t2, fr2, r.ro, r.exact, by rw [s5 _ e]; exact r.there, r.size, r.elem, r.whole, r.vals, r.frz⟩
  · obtain ⟨hrr, es', clock, h1, h2⟩ := h.map c rb es hc he
    refine ⟨hrr, es', clock, ?_, h2⟩
    rw [s5 _ (fun e => by rw [e, hk] at h1; cases h1)]; exact h1
  · obtain ⟨hrr, ho, h1⟩ := h.siter c rb st pos hc he
    refine ⟨hrr, ho, ?_⟩
    rw [s5 _ (fun e => by rw [e, hk] at h1; cases h1)]; exact h1

theorem grow_moved {ρ : Rho} {H H' : Heap} {w : World} (hR : Rel ρ H w) {c : Nat} {b : Blk} {off len : Nat} {new : List Value} (hb : H.read c = some b) (hex : b.exact = false)
    (hg : H.grow b off len new = some H') (cs : Array Value) (hv : ∀ (i : Nat) v, ((b.cells.drop off).take len ++ new)[i]? = some v → ∃ v', cs[i]? = some v' ∧ VR ρ v v') :
    Post ρ H w (ρ.add H.next ⟨w.heap.size, 0, cs.size, false, false⟩) H' (w.alloc (.cells cs b.elem)) := by
  obtain ⟨h1, h2, h3⟩ := hR.grow hb hg
  obtain ⟨fl, hro, hf, hle, hfz, rfl⟩ := grow_spec hg
  have hn := hR.unborn
  have he := Rho.add_ext ⟨w.heap.size, 0, cs.size, false, false⟩ hn
  refine ⟨he, ?_, fun d rb h2 h3 => ?_, Nat.le_succ _, by rw [size_alloc]; exact Nat.le_succ _, fun k hk _ => Go.RowKit.Below.heap_alloc w _ k hk, rfl, rfl, rfl⟩
  · refine (h1.alloc (.cells cs b.elem)).born (cs := cs) (t := b.elem) (fr := (0, 0)) (b := { b with cells := (b.cells.drop off).take len ++ new, ver := b.ver + 1, frz := b.frz - off }) hn
      (by simp [Tr.get_set]) hro (by rw [size_alloc]; exact Nat.lt_succ_self _)
      ⟨hro.symm, hex.symm, heap_alloc_new w _, rfl, fun _ => rfl, fun h => by simp [hex] at h, fun _ i v hi => ?_, fun _ _ => ⟨Nat.le_refl _, fun j a1 a2 => by simp at a2⟩⟩ (fun d rd hd hbk => ?_)
    · obtain ⟨v', a1, a2⟩ := hv i v hi
      exact ⟨v', by simpa using a1, a2.mono he⟩
    · have := (hR.lt d rd hd).2; simp at hbk; omega
  · by_cases e : d = H.next
    · subst e; rw [Rho.add_same] at h2; injection h2 with h2; subst h2; exact ⟨Nat.le_refl _, rfl, .inl (Nat.le_refl _)⟩
    · rw [Rho.add_ne ρ _ e] at h2; rw [h2] at h3; cases h3

theorem grow_inplace {ρ : Rho} {H H' : Heap} {w : World} (hR : Rel ρ H w) {c : Nat} {rb : RB} {b : Blk} {off len : Nat} {new new' : List Value} (hc : ρ c = some rb) (hb : H.read c = some b)
    (hex : b.exact = false) (hg : H.grow b off len new = some H') (hv : VRs ρ new new') (_ : ∀ v ∈ new', v.oneCell' = true) (hroom : rb.off + off + len + new'.length ≤ rb.size) :
    (∀ j, j < new'.length → (w.cell? ⟨rb.blk, rb.off + off + len + j, none⟩).isSome = true) ∧ (∀ j, j < new'.length → w.frozen? ⟨rb.blk, rb.off + off + len + j, none⟩ = false) ∧
    Post ρ H w (ρ.add H.next ⟨rb.blk, rb.off + off, rb.size, false, false⟩) H' (w.setCells rb.blk (rb.off + off + len) new') := by
  obtain ⟨h1, h2, h3⟩ := hR.grow hb hg
  obtain ⟨fl, hro, hf, hle, hfz, rfl⟩ := grow_spec hg
  obtain ⟨hgc, hbl⟩ := read_some hb
  obtain ⟨cs, t, fr, r, hcell⟩ := hR.readable hc hb
  have hn := hR.unborn
  have hrro : rb.ro = false := r.ro.trans hro
  have hcn := (hR.lt c rb hc).1
  have he := Rho.add_ext ⟨rb.blk, rb.off + off, rb.size, false, false⟩ hn
  have hin : rb.off + off + len + new'.length ≤ cs.size := by rw [r.size]; exact hroom
  have hsl := splice_length cs.toList (rb.off + off + len) new' (by simpa using hin)
  obtain ⟨s1, s2, s3, s4, s5⟩ := setCells_same rb.blk new' (rb.off + off + len) w
  have s6 := setCells_heap rb.blk new' (rb.off + off + len) w cs t fr r.there hin
  refine ⟨fun j hj => ?_, fun j hj => ?_, he, ?_, fun d rd g1 g2 => ?_, Nat.le_succ _, by rw [s1]; exact Nat.le_refl _, fun k _ hk => s5 k (fun e => ?_), s2, s3, s4⟩
  · simp only [World.cell?, r.there]
    simp; omega
  · have hlt : rb.off + off + len + j < cs.size := by omega
    simp only [World.frozen?, r.there]
    cases hfj : (decide (fr.1 ≤ rb.off + off + len + j) && decide (rb.off + off + len + j < fr.2)) with
    | false => rfl
    | true =>
      simp only [Bool.and_eq_true, decide_eq_true_eq] at hfj
      rcases (r.frz hro ⟨fl, hf⟩).2 _ hfj.1 hfj.2 with h | h <;> omega
  · -- what of the family can still be read lies below
    have same : ∀ d rd, ρ d = some rd → rd.blk = rb.blk → ∃ x, H.t.get d = some (.cells x) ∧ x.ro = false ∧ x.fam = b.fam ∧ (H.live x = true → rd.off = rb.off) := by
      intro d rd hd hbk
      by_cases e : d = c
      · subst e
        rw [hc] at hd; injection hd with hd; subst hd
        exact ⟨b, hgc, hro, rfl, fun _ => rfl⟩
      · rcases hR.sep d c rd rb hd hc e hbk with ⟨_, h2⟩ | ⟨y, y', g1, g2, p1, p2, p3, p4⟩
        · rw [hrro] at h2; cases h2
        · rw [hgc] at g2; injection g2 with g2; injection g2 with g2; subst g2
          exact ⟨y, g1, p1, p3, fun l => p4 l hbl⟩
    have hold : ∀ d rd, ρ d = some rd → d ≠ H.next := fun d rd hd e => by have := (hR.lt d rd hd).1; omega
    have hid := h1.hidden (k := rb.blk) (s := rb.off + off + len) (vs := new') r.there hin (fun d rd x hd hbk hx hl => by
      simp only [Tr.get_set, if_neg (hold d rd hd)] at hx
      obtain ⟨y, q0, q1, q2, q3⟩ := same d rd hd hbk
      rw [hx] at q0; injection q0 with q0; injection q0 with q0; subst q0
      obtain ⟨l1, l2⟩ := h3 d x hx hl
      obtain ⟨l3, l4, l5⟩ := l2 q1 q2
      have := q3 l1
      omega)
    refine hid.born (cs := ⟨splice cs.toList (rb.off + off + len) new'⟩) (t := t) (fr := fr) (b := { b with cells := (b.cells.drop off).take len ++ new, ver := b.ver + 1, frz := b.frz - off }) hn
      (by simp [Tr.get_set]) hro (by rw [s1]; exact (hR.lt c rb hc).2)
      ⟨hro.symm, hex.symm, s6, by simp [hsl, r.size], fun _ => r.elem (.inl hro), fun h => by simp [hex] at h, fun _ i v hi => ?_, fun h1' h2' => ⟨(r.frz hro ⟨fl, hf⟩).1, fun j a1 a2 => ?_⟩⟩ (fun d rd hd hbk => ?_)
    · simp only at hi
      have hlt : ((b.cells.drop off).take len).length = len := by simp; omega
      simp only [List.getElem?_toArray]
      rw [splice_get _ _ _ (by simpa using hin)]
      by_cases hi2 : i < len
      · rw [List.getElem?_append_left (by omega), List.getElem?_take_of_lt hi2, List.getElem?_drop] at hi
        rw [if_neg (by omega)]
        obtain ⟨v', a1, a2⟩ := r.vals hbl _ v hi
        exact ⟨v', by rw [show rb.off + off + i = rb.off + (off + i) by omega]; simpa using a1, a2.mono he⟩
      · rw [List.getElem?_append_right (by omega), hlt] at hi
        obtain ⟨v', a1, a2⟩ := hv.get hi
        have := (List.getElem?_eq_some_iff.1 a1).1
        rw [if_pos (by omega)]
        exact ⟨v', by rw [show rb.off + off + i - (rb.off + off + len) = i - len by omega]; exact a1, a2.mono he⟩
    · rcases (r.frz hro ⟨fl, hf⟩).2 j a1 a2 with h | h
      · left; simp [hsl]; omega
      · right; simpa [hsl] using h
    · obtain ⟨x, q0, q1, q2, q3⟩ := same d rd hd hbk
      refine ⟨x, h2 d x q0, q1, q2, fun l1 _ => ?_⟩
      obtain ⟨l3, l4⟩ := h3 d x q0 l1
      have := q3 l3
      have := (l4 q1 q2).1
      simp only; omega
  · by_cases e : d = H.next
    · subst e; rw [Rho.add_same] at g1; injection g1 with g1; subst g1; exact ⟨Nat.le_refl _, rfl, .inr ⟨c, rb, hc, rfl, hrro⟩⟩
    · rw [Rho.add_ne ρ _ e] at g1; rw [g1] at g2; cases g2
  · subst e
    have := hk c rb hc rfl
    rw [hrro] at this; cases this

end Go.Can

namespace Go.Can
open Go

structure DRel (ρ : Rho) (d d' : Deferred) : Prop where
  tgt : ∃ g c c', d.target = .fn (.func g) c ∧ d'.target = .fn (.func g) c' ∧ VRs ρ c.toList c'.toList
  args : VRs ρ d.args.toList d'.args.toList

def ResRel (ρ : Rho) (H : Heap) (w : World) (r : Res) (run : Result Next) : Prop :=
  match r with
  | .val v H' => ∃ v' w' ρ', run = .ok (.value v') w' ∧ Post ρ H w ρ' H' w' ∧ VR ρ' v v'
  | .skip H' => ∃ w' ρ', run = .ok .skip w' ∧ Post ρ H w ρ' H' w'
  | .pan v H' => ∃ v' w' ρ', run = .halt (.panic v') w' ∧ Post ρ H w ρ' H' w' ∧ VR ρ' v v'
  | .enter f args H' => ∃ args' w' ρ', run = .ok (.enter f args') w' ∧ Post ρ H w ρ' H' w' ∧ VRs ρ' args.toList args'.toList
  | .defer d H' => ∃ d' w' ρ', run = .ok (.defer d') w' ∧ Post ρ H w ρ' H' w' ∧ DRel ρ' d d'

variable {P : Program}

theorem run_sizeB {t : TypeId} {n : Nat} (h : sizeB P t = some n) (w : World) : (sizeOf t).run P w = .ok n w := by
  unfold sizeB at h
  cases hi : P.info? t with
  | none => simp [hi] at h
  | some i => simp [hi] at h; simp [sizeOf, typeInfo, hi, h]

theorem run_typeInfoB {t : TypeId} {i : TypeInfo} (h : P.info? t = some i) (w : World) : (typeInfo t).run P w = .ok i w := by simp [typeInfo, h]

theorem run_isAggB {t : TypeId} {b : Bool} (h : isAggB P t = some b) (w : World) : (isAgg t).run P w = .ok b w := by
  unfold isAggB at h
  cases hu : P.underlying t with
  | none => simp [hu] at h
  | some d =>
    simp only [isAgg, Sem.run_bind, run_underlying hu, Result.andThen_ok]
    cases d <;> simp [hu] at h <;> subst h <;> rfl

theorem run_zeroB {t : TypeId} {z : Value} (h : zeroB P t = some z) (w : World) : (zeroValue t).run P w = .ok z w ∧ flat z = true := by
  unfold zeroB at h
  cases hi : P.info? t with
  | none => simp [hi] at h
  | some i =>
    simp only [hi] at h
    cases hz : i.zero with
    | none => simp [hz] at h
    | some z' =>
      simp only [hz] at h
      split at h
      · injection h with h; subst h
        exact ⟨by simp [zeroValue, typeInfo, hi, hz], by assumption⟩
      · cases h

theorem genC_sound {ρ : Rho} {H : Heap} {w : World} {ev ev' : Operand → Value} {o : Oper} {r : Res} (hR : Rel ρ H w) (hs : ∀ cs b, o.op ≠ .select cs b)
    (hev : ∀ x ∈ o.op.operands, VR ρ (ev x) (ev' x)) (h : genC P ev o H = some r) : ResRel ρ H w r ((execOp ev' o).run P w) := by
  unfold genC at h
  split at h
  · rename_i hf
    have he : execOp ev' o = execOp ev o := execOp_congr o hs fun x hx => (hev x hx).eq_of_flat (Array.all_eq_true_iff_forall_mem.1 hf x hx)
    rw [he]
    split at h
    · rename_i v hp
      split at h
      · rename_i hfv
        injection h with h; subst h
        exact ⟨v, w, ρ, pureRun_ok hp w, Post.refl hR, VR.of_flat ρ v hfv⟩
      · cases h
    · rename_i v hp
      split at h
      · rename_i hfv
        injection h with h; subst h
        exact ⟨v, w, ρ, pureRun_error hp w, Post.refl hR, VR.of_flat ρ v hfv⟩
      · cases h
    · cases h
  · cases h

theorem VR.ptr_inv {ρ : Rho} {c off : Nat} {v' : Value} (h : VR ρ (.pointer (some ⟨c, off, none⟩)) v') : ∃ rb, ρ c = some rb ∧ v' = .pointer (some ⟨rb.blk, rb.off + off, none⟩) := by
  cases h with
  | ptr off hc => exact ⟨_, hc, rfl⟩

theorem loadC_sound {ρ : Rho} {H : Heap} {w : World} {t : TypeId} {x x' v : Value} (hR : Rel ρ H w) (hx : VR ρ x x') (h : loadC P t x H = some v) :
    ∃ v', (Instr.loadAt t x').run P w = .ok v' w ∧ VR ρ v v' := by
  unfold loadC at h
  split at h
  · rename_i c off
    obtain ⟨rb, hc, rfl⟩ := hx.ptr_inv
    split at h
    · rename_i b n hb ha hn
      split at h
      · rename_i hle
        injection h with h; subst h
        obtain ⟨l, h1, h2, h3⟩ := hR.cellsAt hc hb off n hle.1
        have hl := run_loadCells_list (P := P) w ⟨rb.blk, rb.off + off, none⟩ l (fun j u hj => by
          have := h3 j u hj
          unfold Addr.add
          split
          · subst_vars; simpa using this
          · simpa using this)
        refine ⟨.agg l.toArray, ?_, ?_⟩
        · simp only [Instr.loadAt, Instr.sureAddr, loadVar, Sem.run_bind, Sem.run_pure, Result.andThen_ok, run_isAggB ha, if_true, run_sizeB hn]
          rw [← h1, hl]; rfl
        · exact .agg _ _ h2.len h2.at_
      · cases h
    · rename_i b n hb ha
      obtain ⟨cs, t', fr, r, hv⟩ := hR.readable hc hb
      split at h
      · rename_i u hu
        split at h
        · injection h with h; subst h
          obtain ⟨v', h1, h2⟩ := hv off _ hu
          exact ⟨v', by simp [Instr.loadAt, Instr.sureAddr, loadVar, run_isAggB ha, h1], h2⟩
        · cases h
      · cases h
    · cases h
  · cases h

theorem storeC_sound {ρ : Rho} {H H' : Heap} {w : World} {t : TypeId} {x x' v v' : Value} (hR : Rel ρ H w) (hx : VR ρ x x') (hv : VR ρ v v') (h : storeC P t x v H = some H') :
    ∃ w', (Instr.storeAt t x' v').run P w = .ok () w' ∧ Post ρ H w ρ H' w' := by
  unfold storeC at h
  split at h
  · rename_i c off
    obtain ⟨rb, hc, rfl⟩ := hx.ptr_inv
    split at h
    · rename_i hs
      have hvc := hv.cells
      obtain ⟨h1, h2, h3, h4⟩ := wr_sound hR hc h hvc
      refine ⟨_, ?_, h4⟩
      have hsz : v'.cells.size = v.cells.size := by have := hvc.len; simpa using this.symm
      have := run_storeCells_cells (P := P) rb.blk (rb.off + off) v'.cells.toList 0 w (by simpa using h1) (by simpa using h2) (fun u hu => h3 u hu)
      simp only [Instr.storeAt, Instr.sureAddr, storeVar, Sem.run_bind, Sem.run_pure, Result.andThen_ok, run_sizeB hs.symm, hsz]
      simpa using this
    · cases h
  · cases h

theorem VRs.of_flatL (ρ : Rho) {l : List Value} (h : flatL l = true) : VRs ρ l l := ⟨rfl, fun i v v' h1 h2 => by
  rw [h1] at h2; injection h2 with h2; subst h2; exact VR.of_flatL ρ l h i v h1⟩
theorem flatL_cells {v : Value} (h : flat v = true) : flatL v.cells.toList = true := by
  cases v with
  | agg cs => cases cs; simpa [Value.cells, flat, flatA] using h
  | _ => simp_all [Value.cells, flat, flatL]

/-- 'newVar' on both sides. -/
theorem newVar_sound {ρ : Rho} {H : Heap} {w : World} (hR : Rel ρ H w) (t : TypeId) {v v' : Value} (hv : VR ρ v v') :
    ∃ w' ρ', (newVar t v').run P w = .ok ⟨w.heap.size, 0, none⟩ w' ∧ Post ρ H w ρ' (H.new v.cells.toList t true false) w' ∧ VR ρ' (ptr H.next) (.pointer (some ⟨w.heap.size, 0, none⟩)) := by
  have hc := hv.cells
  refine ⟨_, _, rfl, new_sound hR v.cells.toList t true false v'.cells (0, 0) (fun i u hu => ?_) ⟨Nat.le_refl _, fun j _ h => by simp at h⟩ (fun _ => by simpa using hc.len), ?_⟩
  · obtain ⟨u', h1, h2⟩ := hc.get hu
    exact ⟨u', by simpa using h1, h2⟩
  · have := VR.ptr (ρ := ρ.add H.next ⟨w.heap.size, 0, v'.cells.size, false, true⟩) (c := H.next) 0 (Rho.add_same _ _ _)
    simpa [ptr] using this

end Go.Can
