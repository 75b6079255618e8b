/-
  An interpreter of the model over a heap of its own, and the rules by which its answers are found: part 1.
-/
import Derived.Calls
import Derived.Below
import Derived.Laws.AppendOwn
import Derived.Laws.CopyOwn
import Derived.Laws.BytesString
import Derived.AtR
import Derived.RangeFuncIn
import Derived.RangeFuncLeaves
import Derived.Scope
set_option linter.unusedSimpArgs false
set_option linter.unusedVariables false

namespace Go.Eng
open Go

/-- How a row of cells may be used: read alone; a variable (esz = 0) or a row of elements of esz cells, of the run's own; read no more. -/
inductive St where
  | ro
  | rw (esz : Nat)
  | dead

inductive AObj where
  | cells (c : List Value) (st : St)
  | iter (s : ByteArray) (pos : Nat)
  | loop (l : Loop)
  | defr
  | taken
  | hole

abbrev AHeap := Array AObj

/-- A Sem term that touches no memory: its answer. -/
def pureRun {α : Type} (P : Program) : Sem α → Option α
  | .pure a => some a
  | .program k => pureRun P (k P)
  | _ => none

/-- A value that bears no address. -/
def freeN : Nat → Value → Bool
  | 0, _ => false
  | _ + 1, .bool _ => true
  | _ + 1, .int _ _ => true
  | _ + 1, .float _ _ => true
  | _ + 1, .complex _ _ _ => true
  | _ + 1, .string _ => true
  | _ + 1, .pointer none => true
  | _ + 1, .slice none 0 0 => true
  | _ + 1, .map none => true
  | _ + 1, .chan none => true
  | _ + 1, .nilFunc => true
  | _ + 1, .nilIface => true
  | n + 1, .iface _ v => freeN n v
  | n + 1, .agg ⟨cs⟩ => cs.all (freeN n)
  | n + 1, .tuple ⟨cs⟩ => cs.all (freeN n)
  | _ + 1, .func (.func _) ⟨[]⟩ ⟨[]⟩ => true
  | _, _ => false

abbrev free (v : Value) : Bool := freeN 6 v

mutual
def vbeq : Value → Value → Bool
  | .bool a, .bool b => a == b
  | .int k a, .int l b => decide (k = l) && decide (a = b)
  | .string a, .string b => decide (a.data.toList = b.data.toList)
  | .pointer a, .pointer b => decide (a = b)
  | .slice a n c, .slice b m d => decide (a = b) && decide (n = m) && decide (c = d)
  | .func f ⟨a⟩ ⟨b⟩, .func g ⟨c⟩ ⟨d⟩ => decide (f = g) && vbeqL a c && vbeqL b d
  | .nilFunc, .nilFunc => true
  | .iface t v, .iface u w => decide (t = u) && vbeq v w
  | .nilIface, .nilIface => true
  | .agg ⟨a⟩, .agg ⟨b⟩ => vbeqL a b
  | .tuple ⟨a⟩, .tuple ⟨b⟩ => vbeqL a b
  | .float k a, .float l b => decide (k = l) && decide (a = b)
  | .complex k a b, .complex l c d => decide (k = l) && decide (a = c) && decide (b = d)
  | .map a, .map b => decide (a = b)
  | .chan a, .chan b => decide (a = b)
  | _, _ => false
def vbeqL : List Value → List Value → Bool
  | [], [] => true
  | a :: x, b :: y => vbeq a b && vbeqL x y
  | _, _ => false
end

def St.beq : St → St → Bool
  | .ro, .ro => true
  | .rw a, .rw b => a == b
  | .dead, .dead => true
  | _, _ => false

/-- The same cells, in the same state? (Of what is no cells: never told.) -/
def obeq : Option AObj → Option AObj → Bool
  | some (.cells a s), some (.cells b t) => St.beq s t && vbeqL a b
  | _, _ => false

-- ---------------------------------------------------------------- memory
def AHeap.cell? (H : AHeap) (a : Addr) : Option Value :=
  match H[a.block]? with
  | some (.cells _ .dead) => none
  | some (.cells c _) => match a.spot with
    | none => c[a.off]?
    | some _ => none
  | _ => none

/-- n cells from an address on. -/
def AHeap.cells? (H : AHeap) (a : Addr) (n : Nat) : Option (List Value) :=
  match H[a.block]? with
  | some (.cells _ .dead) => none
  | some (.cells c _) => match a.spot with
    | none => if a.off + n ≤ c.length then some ((c.drop a.off).take n) else none
    | some _ => none
  | _ => none

def blit (c : List Value) (off : Nat) : List Value → List Value
  | [] => c
  | v :: vs => blit (c.set off v) (off + 1) vs

def cellOk : Value → Bool
  | .agg _ => false
  | .tuple _ => false
  | _ => true

def AHeap.store (H : AHeap) (a : Addr) (vs : List Value) : Option AHeap :=
  match H[a.block]? with
  | some (.cells c (.rw e)) => match a.spot with
    | none => if a.off + vs.length ≤ c.length ∧ vs.all cellOk = true then some (H.setIfInBounds a.block (.cells (blit c a.off vs) (.rw e))) else none
    | some _ => none
  | _ => none

def at0 (b : Nat) : Addr := ⟨b, 0, none⟩

def isAggT (P : Program) (t : TypeId) : Option Bool :=
  match P.underlying t with
  | some (.struct _) => some true
  | some (.array _ _) => some true
  | some _ => some false
  | none => none

def sizeT (P : Program) (t : TypeId) : Option Nat := (P.info? t).map (·.size)
def bytesT (P : Program) (t : TypeId) : Option Nat := (P.info? t).map (·.bytes)
def zeroT (P : Program) (t : TypeId) : Option Value :=
  match P.info? t with
  | some i => match i.zero with
    | some z => if free z then some z else none
    | none => none
  | none => none
def elemS (P : Program) (t : TypeId) : Option TypeId :=
  match P.underlying t with
  | some (.slice e) => some e
  | _ => none

def aload (P : Program) (H : AHeap) (t : TypeId) (a : Addr) : Option Value :=
  match isAggT P t, sizeT P t with
  | some true, some n => (H.cells? a n).map fun cs => .agg ⟨cs⟩
  | some false, _ => H.cell? a
  | _, _ => none

def vcells (v : Value) : List Value := v.cells.toList

def astore (P : Program) (H : AHeap) (t : TypeId) (a : Addr) (v : Value) : Option AHeap :=
  match sizeT P t with
  | some n => if (vcells v).length = n then H.store a (vcells v) else none
  | none => none

def partV (P : Program) (t : TypeId) (cs : List Value) (off : Nat) : Option Value :=
  match isAggT P t, sizeT P t with
  | some true, some n => if off + n ≤ cs.length then some (.agg ⟨(cs.drop off).take n⟩) else none
  | some false, _ => cs[off]?
  | _, _ => none

/-- n bytes as a string's. -/
def bytesOfCells : List Value → Option (List UInt8)
  | [] => some []
  | .int .u8 n :: r => match bytesOfCells r with
    | some l => some (UInt8.ofNat n.toNat :: l)
    | none => none
  | _ :: _ => none

def bytesCells (s : ByteArray) : List Value := s.data.toList.map fun b => .int .u8 b.toNat

def mapOpt {α β : Type} (f : α → Option β) : List α → Option (List β)
  | [] => some []
  | x :: xs => match f x, mapOpt f xs with
    | some y, some ys => some (y :: ys)
    | _, _ => none

-- ---------------------------------------------------------------- operands
structure Ctx where
  P : Program
  G : List (Nat × Nat)
  I : FuncId → Option (List Value → AHeap → Option (Value × AHeap))

def lookupG : List (Nat × Nat) → Nat → Option Nat
  | [], _ => none
  | (g, b) :: r, h => if g = h then some b else lookupG r h

def aeval (G : List (Nat × Nat)) (tmps : List Value) : Operand → Option Value
  | .tmp t => tmps[t]?
  | .const v => if free v then some v else none
  | .global g => match lookupG G g with
    | some b => some (.pointer (some (at0 b)))
    | none => none
  | .func f => some (.func (.func f) #[] #[])

-- ---------------------------------------------------------------- operations that only read
def isNilOf : Value → Option Bool
  | .pointer a => some a.isNone
  | .slice a _ _ => some a.isNone
  | .nilFunc => some true
  | .func _ _ _ => some false
  | .nilIface => some true
  | .iface _ _ => some false
  | _ => none

def eqKind (P : Program) (t : TypeId) : Value → Value → Bool
  | .pointer _, .pointer _ => match P.underlying t with | some (.pointer _) => true | _ => false
  | .slice _ _ _, .slice _ _ _ => match P.underlying t with | some (.slice _) => true | _ => false
  | .nilFunc, .nilFunc => match P.underlying t with | some (.func _ _ _) => true | _ => false
  | .nilFunc, .func _ _ _ => match P.underlying t with | some (.func _ _ _) => true | _ => false
  | .func _ _ _, .nilFunc => match P.underlying t with | some (.func _ _ _) => true | _ => false
  | .nilIface, .iface _ _ => match P.underlying t with | some (.interface _) => true | _ => false
  | .iface _ _, .nilIface => match P.underlying t with | some (.interface _) => true | _ => false
  | _, _ => false

/-- Is one of them nil, and the other one? -/
def nilEq (P : Program) (t : TypeId) (a b : Value) : Option Bool :=
  if eqKind P t a b then
    match isNilOf a, isNilOf b with
    | some true, some true => some true
    | some true, some false => some false
    | some false, some true => some false
    | _, _ => none
  else none

def ptrEq (P : Program) (t : TypeId) : Value → Value → Option Bool
  | .pointer (some a), .pointer (some b) => match P.underlying t with
    | some (.pointer e) => match sizeT P e with
      | some (_ + 1) => if a.spot.isNone && decide (a = b) then some true else none
      | _ => none
    | _ => none
  | _, _ => none

def abin (P : Program) (op : BinOp) (t : TypeId) (x y : Operand) (a b : Value) : Option Value :=
  if free a && free b then
    match pureRun P (do eqGuard op t x y a b; binOp op t a b) with
    | some r => if free r then some r else none
    | none => none
  else match op with
    | .eql => match nilEq P t a b with
      | some r => some (.bool r)
      | none => (ptrEq P t a b).map .bool
    | .neq => match nilEq P t a b with
      | some r => some (.bool (!r))
      | none => (ptrEq P t a b).map fun r => .bool (!r)
    | _ => none

def idx : Value → Option Int
  | .int _ i => some i
  | _ => none

/-- A bound of a slice expression: none given; or a number from 0 to n. -/
def bound (n : Nat) (dflt : Nat) : Option (Option Value) → Option Nat
  | none => some dflt
  | some none => none
  | some (some v) => match idx v with
    | some i => if 0 ≤ i ∧ i ≤ (n : Int) then some i.toNat else none
    | none => none

def aslice (P : Program) (t : TypeId) (a : Option Addr) (len cap : Nat) (lo hi mx : Option (Option Value)) : Option Value :=
  match bound cap cap mx with
  | none => none
  | some m => match (match mx, hi with | some _, none => none | _, _ => bound m len hi) with
    | none => none
    | some h => match bound h 0 lo with
      | none => none
      | some l => match elemS P t with
        | none => none
        | some e => match sizeT P e with
          | none => none
          | some sz => some (.slice (a.map (·.add (l * sz))) (h - l) (m - l))

/-- The size of the elements of which a block is a row: 0 where it is none of the run's own rows; none: it may not be read. -/
def stOf (H : AHeap) (b : Nat) : Option Nat :=
  match H[b]? with
  | some (.cells _ .ro) => some 0
  | some (.cells _ (.rw z)) => some z
  | _ => none

def slOk (P : Program) (H : AHeap) (t : TypeId) : Option Addr → Bool
  | none => true
  | some a => match stOf H a.block, elemS P t with
    | some z, some e => match sizeT P e with
      | some sz => a.spot.isNone && (z == 0 || z == sz)
      | none => false
    | _, _ => false

def fillL (place : Nat → Option (Nat × Nat)) (cells : List Value) : List (Nat × Value) → Option (List Value)
  | [] => some cells
  | (i, v) :: rest => match place i with
    | none => none
    | some (off, size) =>
      if (vcells v).length = size ∧ off + (vcells v).length ≤ cells.length then fillL place (blit cells off (vcells v)) rest else none

def partsOf (ρ : Operand → Option Value) : List (Nat × Operand) → Option (List (Nat × Value))
  | [] => some []
  | (i, x) :: r => match ρ x, partsOf ρ r with
    | some v, some vs => some ((i, v) :: vs)
    | _, _ => none

def abuild (P : Program) (t : TypeId) (parts : List (Nat × Value)) : Option Value :=
  match zeroT P t, P.underlying t with
  | some z, some (.struct fs) =>
    if (fs.toList.all fun f => (sizeT P f.type).isSome) = false then none else
    (fillL (fun i => match fs[i]? with | some f => (sizeT P f.type).map fun n => (f.offset, n) | none => none) (vcells z) parts).map fun cs => .agg ⟨cs⟩
  | some z, some (.array _ e) => match sizeT P e with
    | some sz => (fillL (fun i => some (i * sz, sz)) (vcells z) parts).map fun cs => .agg ⟨cs⟩
    | none => none
  | _, _ => none

def atypeAssert (P : Program) (x : Value) (asserted : TypeId) (commaOk : Bool) : Option Value :=
  match x, P.underlying asserted with
  | .iface t v, some (.interface want) => match P.info? t with
    | some i => match Instr.missingMethod want i.methods with
      | none => some (if commaOk then .tuple #[.iface t v, .bool true] else .iface t v)
      | some _ => if commaOk then (zeroT P asserted).map fun z => .tuple #[z, .bool false] else none
    | none => none
  | .iface t v, some _ =>
    if t = asserted then some (if commaOk then .tuple #[v, .bool true] else v)
    else if commaOk then (zeroT P asserted).map fun z => .tuple #[z, .bool false] else none
  | .nilIface, some _ => if commaOk then (zeroT P asserted).map fun z => .tuple #[z, .bool false] else none
  | _, _ => none

def okArg : Option (Option Value) → Bool
  | some none => false
  | _ => true

/-- What an operation that only reads comes to. -/
def alight (P : Program) (ρ : Operand → Option Value) (H : AHeap) (o : Oper) : Option Value :=
  match o.op with
  | .move x => ρ x
  | .assign x => ρ x
  | .pick c a b => match ρ c, ρ a, ρ b with
    | some (.bool t), some x, some y => some (if t then x else y)
    | _, _, _ => none
  | .load t a => match ρ a with
    | some (.pointer (some ad)) => aload P H t ad
    | _ => none
  | .nilCheck x => match ρ x with
    | some (.pointer (some a)) => some (.pointer (some a))
    | some (.iface t v) => some (.iface t v)
    | some (.func (.func f) a b) => some (.func (.func f) a b)
    | some (.func (.yield f) a b) => some (.func (.yield f) a b)
    | _ => none
  | .binOp op t x y _ => match ρ x, ρ y with
    | some a, some b => abin P op t x y a b
    | _, _ => none
  | .unOp op _ x => match ρ x with
    | some a => if free a then match pureRun P (Op.unary op a) with
        | some r => if free r then some r else none
        | none => none
      else none
    | none => none
  | .convert src dst x => match ρ x with
    | some (.slice a n _) => match P.underlying src, P.underlying dst with
      | some (.slice e), some .string => match P.underlying e, a with
        | some (.int .u8), some ad => match H.cells? ad n with
          | some cs => (bytesOfCells cs).map fun l => .string ⟨⟨l⟩⟩
          | none => none
        | some (.int .u8), none => some (.string .empty)
        | _, _ => none
      | _, _ => none
    | some a => if free a then match pureRun P (convert src dst a) with
        | some r => if free r then some r else none
        | none => none
      else none
    | none => none
  | .makeInterface t x => match P.underlying t with
    | some (.interface _) => none
    | some _ => (ρ x).map (.iface t)
    | none => none
  | .makeFunc (.func f) first cap => match mapOpt ρ first.toList, mapOpt ρ cap.toList with
    | some a, some b => some (.func (.func f) ⟨a⟩ ⟨b⟩)
    | _, _ => none
  | .slice t x lo hi mx => match ρ x with
    | some (.slice a n c) => if slOk P H t a then aslice P t a n c (lo.map ρ) (hi.map ρ) (mx.map ρ) else none
    | some (.string s) =>
      if okArg (lo.map ρ) && okArg (hi.map ρ) && okArg (mx.map ρ) && ((lo.map ρ).all fun v => v.all free) && ((hi.map ρ).all fun v => v.all free) && ((mx.map ρ).all fun v => v.all free) then
        match pureRun P (Instr.sliceAt t (.string s) (lo.bind ρ) (hi.bind ρ) (mx.bind ρ)) with
        | some r => if free r then some r else none
        | none => none
      else none
    | some (.pointer (some a)) => match P.underlying t with
      | some (.array n e) => match bound n n (mx.map ρ) with
        | none => none
        | some m => match (match mx, hi with | some _, none => none | _, _ => bound m n (hi.map ρ)) with
          | none => none
          | some h => match bound h 0 (lo.map ρ) with
            | none => none
            | some l => match sizeT P e with
              | none => none
              | some sz => if a.spot.isNone && stOf H a.block == some 0 then some (.slice (some (a.add (l * sz))) (h - l) (m - l)) else none
      | _ => none
    | _ => none
  | .fieldAddr t x f => match ρ x, P.underlying t with
    | some (.pointer (some a)), some (.struct fs) => match fs[f]? with
      | some fl => match sizeT P fl.type with
        | some (_ + 1) => if a.spot.isNone then some (.pointer (some (a.add fl.offset))) else none
        | _ => none
      | none => none
    | _, _ => none
  | .field t x f => match ρ x, P.underlying t with
    | some (.agg cs), some (.struct fs) => match fs[f]? with
      | some fl => partV P fl.type cs.toList fl.offset
      | none => none
    | _, _ => none
  | .indexAddr t x i => match ρ x, ρ i, P.underlying t with
    | some (.slice (some a) n _), some (.int _ i), some (.slice e) => match sizeT P e with
      | some sz => if 0 ≤ i ∧ i < (n : Int) ∧ a.spot.isNone = true then some (.pointer (some (a.add (i.toNat * sz)))) else none
      | none => none
    | some (.pointer (some a)), some (.int _ i), some (.array n e) => match sizeT P e with
      | some sz => if 0 ≤ i ∧ i < (n : Int) ∧ a.spot.isNone = true then some (.pointer (some (a.add (i.toNat * sz)))) else none
      | none => none
    | _, _, _ => none
  | .index t x i => match ρ x, ρ i, P.underlying t with
    | some (.agg cs), some (.int _ i), some (.array n e) => match sizeT P e with
      | some sz => if 0 ≤ i ∧ i < (n : Int) then partV P e cs.toList (i.toNat * sz) else none
      | none => none
    | some (.string s), some (.int _ i), some .string =>
      if 0 ≤ i then match s.data.toList[i.toNat]? with
        | some b => some (.int .u8 b.toNat)
        | none => none
      else none
    | _, _, _ => none
  | .typeAssert x _ asserted ok => match ρ x with
    | some v => atypeAssert P v asserted ok
    | none => none
  | .extract x i => match ρ x with
    | some (.tuple vs) => vs.toList[i]?
    | _ => none
  | .build t parts => match partsOf ρ parts.toList with
    | some ps => abuild P t ps
    | none => none
  | .call { callee := .builtin .len, args, argTypes } => match mapOpt ρ args.toList, argTypes[0]? with
    | some [.slice _ n _], some t => match P.underlying t with
      | some (.slice _) => some (goInt n)
      | _ => none
    | some [.string s], some t => match P.underlying t with
      | some .string => some (goInt s.size)
      | _ => none
    | some [.agg _], some t => match P.underlying t with
      | some (.array n _) => some (goInt n)
      | _ => none
    | some [.pointer _], some t => match P.underlying t with
      | some (.pointer e) => match P.underlying e with
        | some (.array n _) => some (goInt n)
        | _ => none
      | _ => none
    | _, _ => none
  | .call { callee := .builtin .min, args, argTypes } => match mapOpt ρ args.toList with
    | some vs => if vs.all free then match pureRun P (Builtin.min_ argTypes o.type ⟨vs⟩) with
        | some r => if free r then some r else none
        | none => none
      else none
    | none => none
  | .call { callee := .builtin .max, args, argTypes } => match mapOpt ρ args.toList with
    | some vs => if vs.all free then match pureRun P (Builtin.max_ argTypes o.type ⟨vs⟩) with
        | some r => if free r then some r else none
        | none => none
      else none
    | none => none
  | _ => none

/-- The block that it looks at: its cells (true), or of what kind it is (false). -/
def areads (ρ : Operand → Option Value) (o : Oper) : Option (Nat × Bool) :=
  match o.op with
  | .load _ a => match ρ a with
    | some (.pointer (some ad)) => some (ad.block, true)
    | _ => none
  | .convert _ _ x => match ρ x with
    | some (.slice (some ad) _ _) => some (ad.block, true)
    | _ => none
  | .slice _ x _ _ _ => match ρ x with
    | some (.slice (some ad) _ _) => some (ad.block, false)
    | some (.pointer (some ad)) => some (ad.block, false)
    | _ => none
  | _ => none

/-- Does it make a new block of cells, out of its operands alone? -/
def isAlloc (P : Program) (o : Oper) : Bool :=
  match o.op with
  | .alloc _ => true
  | .box _ _ => true
  | .buildSlice _ _ _ => true
  | .makeSlice _ _ _ => true
  | .convert _ dst _ => match P.underlying dst with | some (.slice _) => true | _ => false
  | _ => false

/-- May it change memory, or call? (What makes a block alone aside.) -/
def heavy (o : Oper) : Bool :=
  match o.op with
  | .store _ _ _ => true
  | .range _ _ => true
  | .next _ _ => true
  | .panic _ => true
  | .call { callee := .builtin .len, .. } => false
  | .call { callee := .builtin .min, .. } => false
  | .call { callee := .builtin .max, .. } => false
  | .call _ => true
  | _ => false

-- ---------------------------------------------------------------- operations that change memory
inductive Out where
  | val (v : Value)
  | enter (f : FuncId) (args : List Value)
  | round (l : Nat) (args : List Value)
  | panic (v : Value)

def deadAt (H : AHeap) (b : Nat) : AHeap :=
  match H[b]? with
  | some (.cells c _) => H.setIfInBounds b (.cells c .dead)
  | _ => H

/-- The cells of a slice's first n elements of sz cells, or of a string's bytes. -/
def firstOf (H : AHeap) (sz n : Nat) : Value → Option (List Value)
  | .slice (some a) _ _ => if n * sz = 0 then some [] else H.cells? a (n * sz)
  | .slice none _ _ => some []
  | .string s => some ((bytesCells s).take n)
  | _ => none

def lenV : Value → Option Nat
  | .slice _ n _ => some n
  | .string s => some s.size
  | _ => none

def room : Nat := 140737488355328

def aappend (P : Program) (H : AHeap) (t : TypeId) (s x : Value) : Option (Value × AHeap) :=
  match elemS P t, s, lenV x with
  | some e, .slice base n c, some k =>
    if k = 0 then (sizeT P e).map fun _ => (.slice base n c, H) else
    match sizeT P e, bytesT P e, zeroT P e with
    | some sz, some by_, some z =>
      if by_ = 0 ∨ sz = 0 ∨ (vcells z).length ≠ sz then none else
      if room < (n + k) * by_ then none else
      match firstOf H sz n s, firstOf H sz k x with
      | some old, some new =>
        if (new.all cellOk && old.all cellOk) = false then none else
        if new.length ≠ k * sz ∨ old.length ≠ n * sz then none else
        match base with
        | none => some (.slice (some (at0 H.size)) (n + k) (n + k), H.push (.cells (old ++ new) (.rw sz)))
        | some a => match H[a.block]? with
          | some (.cells _ (.rw e')) =>
            if e' = sz then some (.slice (some (at0 H.size)) (n + k) (n + k), (deadAt H a.block).push (.cells (old ++ new) (.rw sz))) else none
          | _ => none
      | _, _ => none
    | _, _, _ => none
  | _, _, _ => none

def acopy (P : Program) (H : AHeap) (t : TypeId) (s x : Value) : Option (Value × AHeap) :=
  match elemS P t, s, lenV x with
  | some e, .slice base n _, some k => match sizeT P e with
    | some sz =>
      let m := if k ≤ n then k else n
      match firstOf H sz m x with
      | some new =>
        if new.length ≠ m * sz then none else
        if m * sz = 0 then some (goInt m, H) else
        match base with
        | some a => (H.store a new).map fun H' => (goInt m, H')
        | none => none
      | none => none
    | none => none
  | _, _, _ => none

/-- A new block: its cells, the size of its elements, and (of a slice) length and capacity. -/
structure New where
  cells : List Value
  esz : Nat
  sl : Option (Nat × Nat)

def New.val (n : New) (id : Nat) : Value :=
  match n.sl with
  | none => .pointer (some (at0 id))
  | some (l, c) => .slice (some (at0 id)) l c

def aalloc (P : Program) (ρ : Operand → Option Value) (o : Oper) : Option New :=
  match o.op with
  | .alloc e => match zeroT P e with
    | some z => if (vcells z).all cellOk then some ⟨vcells z, 0, none⟩ else none
    | none => none
  | .box _ x => match ρ x with
    | some v => if (vcells v).all cellOk then some ⟨vcells v, 0, none⟩ else none
    | none => none
  | .buildSlice t len parts => match elemS P t, partsOf ρ parts.toList with
    | some e, some ps => match sizeT P e, zeroT P e with
      | some sz, some z =>
        if 16777216 < len * sz ∨ (vcells z).length ≠ sz ∨ sz = 0 then none else
        match fillL (fun i => some (i * sz, sz)) ((List.replicate len (vcells z)).flatten) ps with
        | some cs => if cs.all cellOk then some ⟨cs, sz, some (len, len)⟩ else none
        | none => none
      | _, _ => none
    | _, _ => none
  | .makeSlice t l c => match elemS P t, ρ l, ρ c with
    | some e, some (.int .i64 l), some (.int .i64 c) => match sizeT P e, bytesT P e, zeroT P e with
      | some sz, some by_, some z =>
        if 0 ≤ l ∧ l ≤ c ∧ by_ * c.toNat ≤ 281474976710656 ∧ c ≤ 9223372036854775807 ∧ (vcells z).length = sz ∧ sz ≠ 0 ∧ (vcells z).all cellOk = true then
          some ⟨(List.replicate c.toNat (vcells z)).flatten, sz, some (l.toNat, c.toNat)⟩
        else none
      | _, _, _ => none
    | _, _, _ => none
  | .convert src dst x => match ρ x, P.underlying src, P.underlying dst with
    | some (.string s), some _, some (.slice e) => match P.underlying e with
      | some (.int .u8) => some ⟨bytesCells s, 1, some (s.size, s.size)⟩
      | _ => none
    | _, _, _ => none
  | _ => none

def aheavy (C : Ctx) (ρ : Operand → Option Value) (H : AHeap) (o : Oper) : Option (Out × AHeap) :=
  match o.op with
  | .store t a x => match ρ a, ρ x with
    | some (.pointer (some ad)), some v => (astore C.P H t ad v).map fun H' => (.val undef, H')
    | _, _ => none
  | .range t x => match ρ x, P_ t with
    | some (.string s), some .string => some (.val (.pointer (some (at0 H.size))), H.push (.iter s 0))
    | _, _ => none
  | .next it isString => match ρ it, isString with
    | some (.pointer (some ad)), true => match H[ad.block]?, ad.off with
      | some (.iter s pos), 0 =>
        if pos < s.size then
          let d := Utf8.decode s pos
          some (.val (.tuple #[.bool true, goInt pos, .int .i32 d.1]), H.setIfInBounds ad.block (.iter s (pos + d.2)))
        else some (.val (.tuple #[.bool false]), H)
      | _, _ => none
    | _, _ => none
  | .panic x => match ρ x with
    | some (.iface t v) => some (.panic (.iface t v), H)
    | _ => none
  | .call { callee := .builtin .append, args, argTypes } => match mapOpt ρ args.toList, argTypes[0]? with
    | some [s, x], some t => match argTypes[1]? with
      | some u => match C.P.underlying u with
        | some (.int _) => none
        | some _ => (aappend C.P H t s x).map fun r => (.val r.1, r.2)
        | none => none
      | none => none
    | _, _ => none
  | .call { callee := .builtin .copy, args, argTypes } => match mapOpt ρ args.toList, argTypes[0]? with
    | some [s, x], some t => (acopy C.P H t s x).map fun r => (.val r.1, r.2)
    | _, _ => none
  | .call { callee := .value f, args, .. } => match ρ f, mapOpt ρ args.toList with
    | some (.func (.func g) ⟨first⟩ ⟨cap⟩), some vs => some (.enter g (first ++ vs ++ cap), H)
    | some (.func (.yield l) ⟨first⟩ ⟨_⟩), some vs => some (.round l (first ++ vs), H)
    | _, _ => none
  | .call { callee := .invoke r name, args, .. } => match ρ r, mapOpt ρ args.toList with
    | some (.iface t v), some vs => match C.P.info? t with
      | some i => match i.methods.toList.find? (fun m => m.name == name) with
        | some m => match m.path.toList, m.func with
          | [], some (g, true) => match P_ t, v with
            | some (.pointer _), .pointer (some a) => some (.enter g (.pointer (some a) :: vs), H)
            | _, _ => none
          | [], some (g, false) => match P_ t with
            | some (.pointer _) => none
            | some _ => some (.enter g (v :: vs), H)
            | none => none
          | _, _ => none
        | none => none
      | none => none
    | _, _ => none
  | _ => none
where P_ (t : TypeId) : Option TypeDesc := C.P.underlying t

-- ---------------------------------------------------------------- regions, code, calls
structure ASt where
  tmps : List Value
  H : AHeap
  dfs : List Nat

inductive AExit where
  | normal
  | jump (c : Code)
  | panic (v : Value)

inductive Req where
  | call (f : FuncId) (args : List Value) (H : AHeap)
  | round (l : Nat) (args : List Value) (H : AHeap)
  | loop (fn : FuncId) (rd : Option Nat) (c : Code) (s : ASt)
  | scope (fn : FuncId) (rd : Option Nat) (body rest : Code) (s : ASt)

inductive Rep where
  | ret (v : Value) (H : AHeap)
  | panicked (v : Value) (H : AHeap)
  | code (e : AExit) (s : ASt)

def ASt.put (s : ASt) (dst : Option Tmp) (v : Value) (H : AHeap) : ASt :=
  match dst with
  | some d => { tmps := s.tmps.set d v, H, dfs := s.dfs }
  | none => { s with H }

/-- Is an operation carried out? none: its guard's slot holds no bool. -/
def awanted (ops : Array Oper) (o : Oper) (tmps : List Value) : Bool :=
  match o.guard with
  | none => true
  | some (j, want) => match (ops[j]?).bind (·.dst) with
    | some d => match tmps[d]? with
      | some (.bool b) => b == want
      | _ => false
    | none => false

/-- One operation: its value (true) or what it panics with (false), and the heap. A new block is laid at 'at_' if that is given (there is a hole), else behind all. -/
def aout (C : Ctx) (rec : Req → Option Rep) (at_ : Option Nat) (o : Oper) (ρ : Operand → Option Value) (H : AHeap) : Option (Bool × Value × AHeap) :=
  if isAlloc C.P o then
    match aalloc C.P ρ o with
    | some nw => match at_ with
      | none => some (true, nw.val H.size, H.push (.cells nw.cells (.rw nw.esz)))
      | some id => match H[id]? with
        | some .hole => some (true, nw.val id, H.setIfInBounds id (.cells nw.cells (.rw nw.esz)))
        | _ => none
    | none => none
  else if heavy o then
    match aheavy C ρ H o with
    | some (.val v, H') => some (true, v, H')
    | some (.panic v, H') => some (false, v, H')
    | some (.enter f args, H') => match rec (.call f args H') with
      | some (.ret v H2) => some (true, v, H2)
      | some (.panicked v H2) => some (false, v, H2)
      | _ => none
    | some (.round l args, H') => match rec (.round l args H') with
      | some (.ret v H2) => some (true, v, H2)
      | some (.panicked v H2) => some (false, v, H2)
      | _ => none
    | none => none
  else match alight C.P ρ H o with
    | some v => some (true, v, H)
    | none => none

def aop1 (C : Ctx) (rec : Req → Option Rep) (at_ : Option Nat) (o : Oper) (s : ASt) : Option (AExit × ASt) :=
  match aout C rec at_ o (aeval C.G s.tmps) s.H with
  | some (true, v, H) => some (.normal, s.put o.dst v H)
  | some (false, v, H) => some (.panic v, { s with H })
  | none => none

def astep (C : Ctx) (rec : Req → Option Rep) (ops : Array Oper) (at_ : Option Nat) (i : Nat) (s : ASt) : Option (AExit × ASt) :=
  match ops[i]? with
  | none => none
  | some o => if awanted ops o s.tmps then aop1 C rec at_ o s else some (.normal, s.put o.dst undef s.H)

def aops (C : Ctx) (rec : Req → Option Rep) (ops : Array Oper) : List Nat → ASt → Option (AExit × ASt)
  | [], s => some (.normal, s)
  | i :: r, s => match astep C rec ops none i s with
    | some (.normal, s') => aops C rec ops r s'
    | x => x

def allocAt (P : Program) (ops : Array Oper) (i : Nat) : Bool :=
  match ops[i]? with
  | some o => isAlloc P o
  | none => false

/-- How many of the first i operations make a block: where a drawn region's operation i lays its own. -/
def rank (P : Program) (ops : Array Oper) : Nat → Nat
  | 0 => 0
  | i + 1 => rank P ops i + (if allocAt P ops i then 1 else 0)

def atrace (C : Ctx) (rec : Req → Option Rep) (ops : Array Oper) (base : Nat) : List Nat → ASt → Option (List ASt)
  | [], s => some [s]
  | i :: r, s => match astep C rec ops (some (base + rank C.P ops i)) i s with
    | some (.normal, s') => match atrace C rec ops base r s' with
      | some l => some (s :: l)
      | none => none
    | _ => none

def ordered (b : Array Nat) (i j : Nat) : Bool := ((b[j]?).getD 0).testBit i

def tmpsOf (l : List Operand) : List Tmp := l.filterMap fun x => match x with | .tmp t => some t | _ => none

def namesOf (o : Oper) : List Tmp :=
  (match o.dst with | some d => [d] | none => []) ++ tmpsOf o.op.operands.toList

def guardTmp (ops : Array Oper) (o : Oper) : List Tmp :=
  match o.guard with
  | some (g, _) => match (ops[g]?).bind (·.dst) with
    | some x => [x]
    | none => []
  | none => []

/-- What a region that draws its order must be for any order to serve. -/
def drawStat (P : Program) (ops : Array Oper) : Bool :=
  let b := Region.before ops
  let n := ops.size
  (P.follows .mixedOrders || !Region.departs ops) &&
  (List.range n).all (fun j => match ops[j]? with
    | none => false
    | some o =>
      (o.after.toList.all fun e => !Region.binds .any e || decide (e.on < j)) &&
      (List.range n).all fun i => i == j || match ops[i]? with
        | none => false
        | some q =>
          (!(heavy o && heavy q) || ordered b i j || ordered b j i) &&
          (match q.dst with
            | none => true
            | some d => !((namesOf o ++ guardTmp ops o).contains d) || ordered b i j || ordered b j i))

def isHole : Option AObj → Bool
  | some .hole => true
  | _ => false

/-- Does each read see the same cells, whenever it is made; and does each new block lie as it was made, till what must follow it? -/
def drawDyn (C : Ctx) (ops : Array Oper) (base : Nat) (tr : List ASt) : Bool :=
  let b := Region.before ops
  let n := ops.size
  (List.range n).all fun i => match ops[i]?, tr[i]? with
    | some o, some s =>
      if heavy o || !awanted ops o s.tmps then true else
      if isAlloc C.P o then
        (List.range n).all fun h => match ops[h]?, tr[h]?, tr[h + 1]? with
          | some q, some s0, some s1 =>
            if heavy q && awanted ops q s0.tmps then
              if h < i then isHole s0.H[base + rank C.P ops i]?
              else ordered b i h || obeq s0.H[base + rank C.P ops i]? s1.H[base + rank C.P ops i]?
            else true
          | _, _, _ => false
      else match areads (aeval C.G s.tmps) o with
        | none => true
        | some (blk, full) =>
          (decide (blk < base + rank C.P ops i) || decide (base + rank C.P ops n ≤ blk)) &&
          (List.range n).all fun h => match ops[h]?, tr[h]?, tr[h + 1]? with
            | some q, some s0, some s1 =>
              if heavy q && awanted ops q s0.tmps && !ordered b i h && !ordered b h i then
                (if full then obeq s0.H[blk]? s1.H[blk]? else stOf s0.H blk == stOf s1.H blk)
              else true
            | _, _, _ => false
    | _, _ => false

def holes (H : AHeap) (n : Nat) : AHeap := H ++ Array.replicate n .hole

def aregion (C : Ctx) (rec : Req → Option Rep) (ops : Array Oper) (draw : Bool) (s : ASt) : Option (AExit × ASt) :=
  if draw then
    if drawStat C.P ops then
      match atrace C rec ops s.H.size (List.range ops.size) { s with H := holes s.H (rank C.P ops ops.size) } with
      | some tr => if drawDyn C ops s.H.size tr then (tr.getLast?).map fun s' => (.normal, s') else none
      | none => none
    else none
  else aops C rec ops (List.range ops.size) s

def isJump : Code → Bool
  | .ret => true
  | .exit _ => true
  | .goto _ => true
  | _ => false

/-- Where a range loop's deferred calls would lie. -/
def enterSt (rd : Option Nat) (H : AHeap) (dfs : List Nat) : Option (AHeap × Nat × List Nat) :=
  match rd with
  | none => some (H.push .defr, H.size, H.size :: dfs)
  | some l => match H[l]? with
    | some (.loop r) => some (H, r.defers, dfs)
    | _ => none

def acode (C : Ctx) (rec : Req → Option Rep) (fn : FuncId) (rd : Option Nat) : Code → ASt → Option (AExit × ASt)
  | .skip, s => some (.normal, s)
  | .label _, s => some (.normal, s)
  | .region _ ops draw, s => aregion C rec ops draw s
  | .seq a b, s => match acode C rec fn rd a s with
    | some (.normal, s') => acode C rec fn rd b s'
    | x => x
  | .cond c a b, s => match aeval C.G s.tmps c with
    | some (.bool true) => acode C rec fn rd a s
    | some (.bool false) => acode C rec fn rd b s
    | _ => none
  | .block id body, s => match acode C rec fn rd body s with
    | some (.jump (.exit id'), s') => if id' = id then some (.normal, s') else some (.jump (.exit id'), s')
    | x => x
  | .loop body, s => match acode C rec fn rd body s with
    | some (.normal, s') => match rec (.loop fn rd body s') with
      | some (.code e s'') => some (e, s'')
      | _ => none
    | x => x
  | .exit id, s => some (.jump (.exit id), s)
  | .goto l, s => some (.jump (.goto l), s)
  | .ret, s => some (.jump .ret, s)
  | .scope body, s => match acode C rec fn rd body s with
    | some (.jump (.goto l), s') => match findLabel body l with
      | some rest => match rec (.scope fn rd body rest s') with
        | some (.code e s'') => some (e, s'')
        | _ => none
      | none => some (.jump (.goto l), s')
    | x => x
  | .rangeFunc f params assign body, s => match aeval C.G s.tmps f with
    | some (.func (.func g) ⟨first⟩ ⟨cap⟩) =>
      match enterSt rd s.H s.dfs with
      | none => none
      | some (H1, D, dfs1) =>
        let l := H1.size
        let H2 := H1.push (.loop { state := .ready, pending := none, fn, tmps := ⟨s.tmps⟩, params, assign, body, defers := D })
        match rec (.call g (first ++ [.func (.yield l) #[] #[]] ++ cap) H2) with
        | some (.ret _ H3) => match H3[l]? with
          | some (.loop r) => match r.state with
            | .busy => none
            | _ => match r.pending with
              | none => some (.normal, { tmps := s.tmps, H := H3.setIfInBounds l (.loop { r with state := .exhausted }), dfs := dfs1 })
              | some c => if isJump c then some (.jump c, { tmps := s.tmps, H := H3.setIfInBounds l (.loop { r with state := .exhausted }), dfs := dfs1 }) else none
          | _ => none
        | some (.panicked v H3) => some (.panic v, { tmps := s.tmps, H := H3, dfs := dfs1 })
        | _ => none
    | _ => none
  | .refuse _, _ => none

/-- The blocks of the range loops' deferred calls are taken up: there is none. -/
def takeAll : List Nat → AHeap → Option AHeap
  | [], H => some H
  | d :: ds, H => match H[d]? with
    | some .defr => takeAll ds (H.setIfInBounds d .taken)
    | _ => none

def aresult (P : Program) (tmps : List Value) (H : AHeap) : ResultVar → Option Value
  | .tmp t => tmps[t]?
  | .cell a t => match tmps[a]? with
    | some (.pointer (some ad)) => aload P H t ad
    | _ => none

def oneOr : List Value → Value
  | [v] => v
  | vs => .tuple ⟨vs⟩

def leave (C : Ctx) (fn : Func) (s : ASt) : Option Rep :=
  match takeAll s.dfs s.H with
  | none => none
  | some H => match mapOpt (aresult C.P s.tmps H) fn.results.toList with
    | some vs => some (.ret (oneOr vs) H)
    | none => none

def setParams : List Tmp → List Value → List Value → List Value
  | t :: ts, v :: vs, tmps => setParams ts vs (tmps.set t v)
  | _, _, tmps => tmps

/-- One level of the interpreter, over the level below. -/
def step1 (C : Ctx) (rec : Req → Option Rep) : Req → Option Rep
  | .call f args H => match C.I f with
    | some g => match g args H with
      | some (v, H') => some (.ret v H')
      | none => none
    | none => match C.P.funcs[f]? with
      | none => none
      | some fn => match fn.body with
        | none => none
        | some c => match acode C rec f none c { tmps := args ++ List.replicate (fn.ntmps - args.length) undef, H, dfs := [] } with
          | some (.normal, s) => leave C fn s
          | some (.jump .ret, s) => leave C fn s
          | some (.panic v, s) => match takeAll s.dfs s.H with
            | some H' => some (.panicked v H')
            | none => none
          | _ => none
  | .round l args H => match H[l]? with
    | some (.loop r) =>
      if args.length = r.params.size then
        match acode C rec r.fn (some l) r.assign { tmps := setParams r.params.toList args r.tmps.toList, H, dfs := [] } with
        | some (.normal, s1) => match s1.H[l]? with
          | some (.loop r1) => match r1.state with
            | .ready => match acode C rec r.fn (some l) r.body { tmps := s1.tmps, H := s1.H.setIfInBounds l (.loop { r1 with state := .busy }), dfs := s1.dfs } with
              | some (.normal, s2) => match s2.H[l]? with
                | some (.loop r2) => some (.ret (.bool true) (s2.H.setIfInBounds l (.loop { r2 with state := .ready, pending := none })))
                | _ => none
              | some (.jump c, s2) => match s2.H[l]? with
                | some (.loop r2) => some (.ret (.bool false) (s2.H.setIfInBounds l (.loop { r2 with state := .done, pending := some c })))
                | _ => none
              | some (.panic v, s2) => if s2.dfs.isEmpty && (C.P.funcs[r.fn]?).isSome then some (.panicked v s2.H) else none
              | none => none
            | _ => none
          | _ => none
        | _ => none
      else none
    | _ => none
  | .loop fn rd c s => match acode C rec fn rd c s with
    | some (.normal, s') => match rec (.loop fn rd c s') with
      | some (.code e s'') => some (.code e s'')
      | _ => none
    | some (e, s') => some (.code e s')
    | none => none
  | .scope fn rd body rest s => match acode C rec fn rd rest s with
    | some (.jump (.goto l), s') => match findLabel body l with
      | some rest' => match rec (.scope fn rd body rest' s') with
        | some (.code e s'') => some (.code e s'')
        | _ => none
      | none => some (.code (.jump (.goto l)) s')
    | some (e, s') => some (.code e s')
    | none => none

def ev (C : Ctx) : Nat → Req → Option Rep
  | 0, _ => none
  | n + 1, r => step1 C (ev C n) r

end Go.Eng

namespace Go.Eng
open Go

/-- Where an abstract block lies: the world's block, how far in, how many cells that has, how many an element has (0: no row of the run's own). -/
structure MEnt where
  blk : Nat
  sh : Nat
  csz : Nat
  esz : Nat

abbrev AMap := Array (Option MEnt)

def AMap.has (m : AMap) (b : Nat) (e : MEnt) : Prop := m[b]? = some (some e)

structure AMap.le (m m' : AMap) : Prop where
  size : m.size ≤ m'.size
  has : ∀ b e, m.has b e → m'.has b e

theorem AMap.le.refl (m : AMap) : m.le m := ⟨Nat.le_refl _, fun _ _ h => h⟩
theorem AMap.le.trans {a b c : AMap} (h : a.le b) (k : b.le c) : a.le c := ⟨Nat.le_trans h.size k.size, fun i e x => k.has i e (h.has i e x)⟩
theorem AMap.le_push (m : AMap) (o : Option MEnt) : m.le (m.push o) := by
  refine ⟨by simp, fun b e h => ?_⟩
  unfold AMap.has at *
  rw [Array.getElem?_push]
  have : b < m.size := by
    rcases Nat.lt_or_ge b m.size with h' | h'
    · exact h'
    · simp [Array.getElem?_eq_none h'] at h
  rw [if_neg (by omega)]; exact h
/-- m' begins as m does. -/
structure AMap.pre (m m' : AMap) : Prop where
  size : m.size ≤ m'.size
  eq : ∀ i, i < m.size → m'[i]? = m[i]?

theorem AMap.pre.le {m m' : AMap} (h : m.pre m') : m.le m' := by
  refine ⟨h.size, fun b e hb => ?_⟩
  unfold AMap.has at *
  rw [h.eq b (by
    rcases Nat.lt_or_ge b m.size with h' | h'
    · exact h'
    · simp [Array.getElem?_eq_none h'] at hb)]
  exact hb
instance {m m' : AMap} : Coe (m.pre m') (m.le m') := ⟨AMap.pre.le⟩
theorem AMap.pre.refl (m : AMap) : m.pre m := ⟨Nat.le_refl _, fun _ _ => rfl⟩
theorem AMap.pre.trans {a b c : AMap} (h : a.pre b) (k : b.pre c) : a.pre c := ⟨Nat.le_trans h.size k.size, fun i hi => (k.eq i (Nat.lt_of_lt_of_le hi h.size)).trans (h.eq i hi)⟩
theorem AMap.pre.has {a b : AMap} (h : a.pre b) : ∀ i e, a.has i e → b.has i e := h.le.has
theorem AMap.pre_push (m : AMap) (o : Option MEnt) : m.pre (m.push o) := by
  refine ⟨by simp, fun i hi => ?_⟩
  rw [Array.getElem?_push, if_neg (by omega)]

theorem AMap.has_push (m : AMap) (e : MEnt) : AMap.has (m.push (some e)) m.size e := by simp [AMap.has]
theorem AMap.has.lt {m : AMap} {b : Nat} {e : MEnt} (h : m.has b e) : b < m.size := by
  rcases Nat.lt_or_ge b m.size with h' | h'
  · exact h'
  · simp [AMap.has, Array.getElem?_eq_none h'] at h
theorem AMap.has.inj {m : AMap} {b : Nat} {e e' : MEnt} (h : m.has b e) (h' : m.has b e') : e = e' := by
  unfold AMap.has at h h'; rw [h] at h'; simpa using h'

inductive FRel (m : AMap) : Fn → Fn → Prop
  | func (f : FuncId) : FRel m (.func f) (.func f)
  | yield {l : Nat} {e : MEnt} : m.has l e → FRel m (.yield l) (.yield e.blk)

mutual
inductive VRel (m : AMap) : Value → Value → Prop
  | bool (b : Bool) : VRel m (.bool b) (.bool b)
  | int (k : IntKind) (n : Int) : VRel m (.int k n) (.int k n)
  | float (k : FloatKind) (n : Nat) : VRel m (.float k n) (.float k n)
  | complex (k : FloatKind) (a b : Nat) : VRel m (.complex k a b) (.complex k a b)
  | string (s : ByteArray) : VRel m (.string s) (.string s)
  | ptr0 : VRel m (.pointer none) (.pointer none)
  | ptr {b o : Nat} {e : MEnt} : m.has b e → VRel m (.pointer (some ⟨b, o, none⟩)) (.pointer (some ⟨e.blk, o + e.sh, none⟩))
  | slice0 : VRel m (.slice none 0 0) (.slice none 0 0)
  | slice {b o o' n c c' : Nat} {e : MEnt} : m.has b e → n ≤ c → c ≤ c' → (o' = o + e.sh ∨ c' = 0) → (e.esz = 0 ∨ o' + c' * e.esz ≤ e.csz) →
      VRel m (.slice (some ⟨b, o, none⟩) n c) (.slice (some ⟨e.blk, o', none⟩) n c')
  | sliceE {b o : Nat} {a' : Addr} {e : MEnt} : m.has b e → VRel m (.slice (some ⟨b, o, none⟩) 0 0) (.slice (some a') 0 0)
  | map0 : VRel m (.map none) (.map none)
  | chan0 : VRel m (.chan none) (.chan none)
  | nilFunc : VRel m .nilFunc .nilFunc
  | nilIface : VRel m .nilIface .nilIface
  | func {f f' : Fn} {a a' c c' : List Value} : FRel m f f' → LRel m a a' → LRel m c c' → VRel m (.func f ⟨a⟩ ⟨c⟩) (.func f' ⟨a'⟩ ⟨c'⟩)
  | iface (t : TypeId) {v v' : Value} : VRel m v v' → VRel m (.iface t v) (.iface t v')
  | agg {cs cs' : List Value} : LRel m cs cs' → VRel m (.agg ⟨cs⟩) (.agg ⟨cs'⟩)
  | tuple {cs cs' : List Value} : LRel m cs cs' → VRel m (.tuple ⟨cs⟩) (.tuple ⟨cs'⟩)
inductive LRel (m : AMap) : List Value → List Value → Prop
  | nil : LRel m [] []
  | cons {v v' : Value} {vs vs' : List Value} : VRel m v v' → LRel m vs vs' → LRel m (v :: vs) (v' :: vs')
end

theorem FRel.mono {m m' : AMap} (h : m.le m') {f f' : Fn} : FRel m f f' → FRel m' f f'
  | .func f => .func f
  | .yield x => .yield (h.has _ _ x)

mutual
theorem VRel.mono {m m' : AMap} (h : m.le m') {v v' : Value} : VRel m v v' → VRel m' v v'
  | .bool b => .bool b
  | .int k n => .int k n
  | .float k n => .float k n
  | .complex k a b => .complex k a b
  | .string s => .string s
  | .ptr0 => .ptr0
  | .ptr x => .ptr (h.has _ _ x)
  | .slice0 => .slice0
  | .slice x h1 h2 h3 h4 => .slice (h.has _ _ x) h1 h2 h3 h4
  | .sliceE x => .sliceE (h.has _ _ x)
  | .map0 => .map0
  | .chan0 => .chan0
  | .nilFunc => .nilFunc
  | .nilIface => .nilIface
  | .func x y z => .func (x.mono h) (LRel.mono h y) (LRel.mono h z)
  | .iface t x => .iface t (VRel.mono h x)
  | .agg x => .agg (LRel.mono h x)
  | .tuple x => .tuple (LRel.mono h x)
theorem LRel.mono {m m' : AMap} (h : m.le m') {v v' : List Value} : LRel m v v' → LRel m' v v'
  | .nil => .nil
  | .cons x y => .cons (VRel.mono h x) (LRel.mono h y)
end

section lists
variable {m : AMap}
theorem LRel.length {a a' : List Value} (h : LRel m a a') : a.length = a'.length := by
  induction a generalizing a' with
  | nil => cases h; rfl
  | cons x xs ih => cases h with | cons _ h2 => simp [ih h2]
theorem LRel.get {a a' : List Value} (h : LRel m a a') {i : Nat} {v : Value} (hv : a[i]? = some v) : ∃ v', a'[i]? = some v' ∧ VRel m v v' := by
  induction a generalizing a' i with
  | nil => simp at hv
  | cons x xs ih =>
    cases h with
    | cons h1 h2 =>
      cases i with
      | zero => simp at hv; subst hv; exact ⟨_, rfl, h1⟩
      | succ i => simpa using ih h2 (by simpa using hv)
theorem LRel.of_get {a a' : List Value} (hl : a.length = a'.length) (h : ∀ (i : Nat) (v : Value), a[i]? = some v → ∃ v', a'[i]? = some v' ∧ VRel m v v') : LRel m a a' := by
  induction a generalizing a' with
  | nil => cases a' with
    | nil => exact .nil
    | cons => simp at hl
  | cons x xs ih => cases a' with
    | nil => simp at hl
    | cons y ys =>
      obtain ⟨v', e, hv⟩ := h 0 x rfl
      simp at e; subst e
      exact .cons hv (ih (by simpa using hl) fun i v hi => by simpa using h (i + 1) v (by simpa using hi))
theorem LRel.append {a a' b b' : List Value} (h : LRel m a a') (k : LRel m b b') : LRel m (a ++ b) (a' ++ b') := by
  induction a generalizing a' with
  | nil => cases h; exact k
  | cons x xs ih => cases h with | cons h1 h2 => exact .cons h1 (ih h2)
theorem LRel.set {a a' : List Value} (h : LRel m a a') (i : Nat) {v v' : Value} (hv : VRel m v v') : LRel m (a.set i v) (a'.set i v') := by
  induction a generalizing a' i with
  | nil => cases h; exact .nil
  | cons x xs ih => cases h with
    | cons h1 h2 => cases i with
      | zero => exact .cons hv h2
      | succ i => exact .cons h1 (ih h2 i)
theorem LRel.drop {a a' : List Value} (h : LRel m a a') (n : Nat) : LRel m (a.drop n) (a'.drop n) := by
  induction n generalizing a a' with
  | zero => exact h
  | succ n ih => cases h with
    | nil => exact .nil
    | cons h1 h2 => exact ih h2
theorem LRel.take {a a' : List Value} (h : LRel m a a') (n : Nat) : LRel m (a.take n) (a'.take n) := by
  induction n generalizing a a' with
  | zero => exact .nil
  | succ n ih => cases h with
    | nil => exact .nil
    | cons h1 h2 => exact .cons h1 (ih h2)
theorem LRel.blit {a a' vs vs' : List Value} (h : LRel m a a') (off : Nat) (hv : LRel m vs vs') : LRel m (blit a off vs) (blit a' off vs') := by
  induction vs generalizing a a' vs' off with
  | nil => cases hv; exact h
  | cons v vs ih => cases hv with | cons h1 h2 => exact ih (h.set off h1) (off + 1) h2
theorem LRel.replicate (n : Nat) {v v' : Value} (h : VRel m v v') : LRel m (List.replicate n v) (List.replicate n v') := by
  induction n with
  | zero => exact .nil
  | succ n ih => exact .cons h ih
theorem LRel.flatten_replicate (n : Nat) {v v' : List Value} (h : LRel m v v') : LRel m (List.replicate n v).flatten (List.replicate n v').flatten := by
  induction n with
  | zero => exact .nil
  | succ n ih => simp only [List.replicate_succ, List.flatten_cons]; exact h.append ih
theorem LRel.map_get (a a' : List Value) (h : LRel m a a') (i : Nat) : a[i]? = none → a'[i]? = none := by
  intro hn; simp at hn ⊢; rw [← h.length]; exact hn
end lists

theorem VRel.undef {m : AMap} : VRel m undef undef := .tuple .nil

theorem blit_length (c : List Value) (off : Nat) (vs : List Value) : (blit c off vs).length = c.length := by
  induction vs generalizing c off with
  | nil => rfl
  | cons v vs ih => simp [blit, ih]

/-- A value without addresses corresponds to itself, and to nothing else. -/
theorem VRel.of_freeN {m : AMap} : ∀ (n : Nat) (v : Value), freeN n v = true → VRel m v v := by
  intro n
  induction n with
  | zero => intro v h; simp [freeN] at h
  | succ n ih =>
    intro v h
    have hl : ∀ cs : List Value, cs.all (freeN n) = true → LRel m cs cs := by
      intro cs hc
      induction cs with
      | nil => exact .nil
      | cons x xs ihx =>
        simp only [List.all_cons, Bool.and_eq_true] at hc
        exact .cons (ih x hc.1) (ihx hc.2)
    cases v with
    | bool => exact .bool _
    | int => exact .int _ _
    | float => exact .float _ _
    | complex => exact .complex _ _ _
    | string => exact .string _
    | pointer a => cases a with
      | none => exact .ptr0
      | some => simp [freeN] at h
    | slice a l c => cases a with
      | none => cases l with
        | zero => cases c with
          | zero => exact .slice0
          | succ => simp [freeN] at h
        | succ => simp [freeN] at h
      | some => simp [freeN] at h
    | map r => cases r with
      | none => exact .map0
      | some => simp [freeN] at h
    | chan r => cases r with
      | none => exact .chan0
      | some => simp [freeN] at h
    | func f a c =>
      cases f with
      | func g => cases a with | mk a => cases c with | mk c => cases a with
        | nil => cases c with
          | nil => exact .func (.func _) .nil .nil
          | cons => simp [freeN] at h
        | cons => simp [freeN] at h
      | _ => simp [freeN] at h
    | nilFunc => exact .nilFunc
    | nilIface => exact .nilIface
    | iface t v => exact .iface _ (ih _ (by simpa only [freeN] using h))
    | agg cs => cases cs with | mk cs => exact .agg (hl _ (by simpa only [freeN] using h))
    | tuple cs => cases cs with | mk cs => exact .tuple (hl _ (by simpa only [freeN] using h))

theorem VRel.eq_of_freeN {m : AMap} : ∀ (n : Nat) (v v' : Value), freeN n v = true → VRel m v v' → v' = v := by
  intro n
  induction n with
  | zero => intro v v' h; simp [freeN] at h
  | succ n ih =>
    intro v v' h r
    have hl : ∀ cs cs' : List Value, cs.all (freeN n) = true → LRel m cs cs' → cs' = cs := by
      intro cs
      induction cs with
      | nil => intro cs' _ r; cases r; rfl
      | cons x xs ihx =>
        intro cs' hc r
        simp only [List.all_cons, Bool.and_eq_true] at hc
        cases r with | cons r1 r2 => rw [ih _ _ hc.1 r1, ihx _ hc.2 r2]
    cases r with
    | bool => rfl
    | int => rfl
    | float => rfl
    | complex => rfl
    | string => rfl
    | ptr0 => rfl
    | ptr _ => simp [freeN] at h
    | slice0 => rfl
    | slice => simp [freeN] at h
    | sliceE => simp [freeN] at h
    | map0 => rfl
    | chan0 => rfl
    | nilFunc => rfl
    | nilIface => rfl
    | func f a c =>
      cases f with
      | yield => simp [freeN] at h
      | func g =>
        rename_i x x' y y'
        cases x with
        | cons => simp [freeN] at h
        | nil => cases y with
          | cons => simp [freeN] at h
          | nil => cases a; cases c; rfl
    | iface t r => simp only [freeN] at h; rw [ih _ _ h r]
    | agg r => simp only [freeN] at h; rw [hl _ _ h r]
    | tuple r => simp only [freeN] at h; rw [hl _ _ h r]

theorem VRel.of_free {m : AMap} {v : Value} (h : free v = true) : VRel m v v := .of_freeN 6 v h
theorem VRel.eq_of_free {m : AMap} {v v' : Value} (h : free v = true) (r : VRel m v v') : v' = v := VRel.eq_of_freeN 6 v v' h r

theorem VRel.cells {m : AMap} {v v' : Value} (h : VRel m v v') : LRel m (vcells v) (vcells v') := by
  cases h with
  | agg h => exact h
  | _ => exact .cons (by constructor <;> assumption) .nil

theorem VRel.cellOk {m : AMap} {v v' : Value} (h : VRel m v v') (hc : cellOk v = true) : v'.oneCell' = true := by
  cases h <;> first | rfl | simp [Eng.cellOk] at hc

end Go.Eng

namespace Go.Eng
open Go

/-- Blocks that are fenced off: those that may be read (ro), and others that may not even be known. -/
structure Fence where
  ro : Nat → Prop
  more : Nat → Prop

def Fence.at_ (F : Fence) (k : Nat) : Prop := F.ro k ∨ F.more k
instance : CoeFun Fence (fun _ => Nat → Prop) := ⟨Fence.at_⟩

structure LoopRel (m : AMap) (l l' : Loop) : Prop where
  state : l'.state = l.state
  pending : l'.pending = l.pending
  fn : l'.fn = l.fn
  tmps : LRel m l.tmps.toList l'.tmps.toList
  params : l'.params = l.params
  assign : l'.assign = l.assign
  body : l'.body = l.body
  defers : ∃ e, m.has l.defers e ∧ l'.defers = e.blk

theorem LoopRel.mono {m m' : AMap} (h : m.le m') {l l' : Loop} (r : LoopRel m l l') : LoopRel m' l l' :=
  ⟨r.state, r.pending, r.fn, r.tmps.mono h, r.params, r.assign, r.body, r.defers.elim fun e he => ⟨e, h.has _ _ he.1, he.2⟩⟩

def CellsIn (m : AMap) (w : World) (e : MEnt) (c : List Value) : Prop :=
  ∃ cs el fz, w.heap[e.blk]? = some (.cells cs el fz) ∧ cs.size = e.csz ∧ e.sh + c.length ≤ e.csz ∧ LRel m c ((cs.toList.drop e.sh).take c.length)

def NotFrozen (w : World) (b n : Nat) : Prop := ∀ k, k < n → w.frozen? ⟨b, k, none⟩ = false

def ORel (Fr : Fence) (m : AMap) (w : World) (e : MEnt) : AObj → Prop
  | .cells c .ro => Fr.ro e.blk ∧ e.esz = 0 ∧ CellsIn m w e c
  | .cells c (.rw z) => ¬ Fr e.blk ∧ e.esz = z ∧ CellsIn m w e c ∧ NotFrozen w e.blk e.csz
  | .cells _ .dead => True
  | .iter s pos => ¬ Fr e.blk ∧ e.sh = 0 ∧ w.heap[e.blk]? = some (.stringIter s pos)
  | .loop l => ¬ Fr e.blk ∧ ∃ l', w.heap[e.blk]? = some (.loop l') ∧ LoopRel m l l'
  | .defr => ¬ Fr e.blk ∧ w.heap[e.blk]? = some (.deferred (some []))
  | .taken => True
  | .hole => True

def live : AObj → Bool
  | .cells _ (.rw _) => true
  | .iter _ _ => true
  | .loop _ => true
  | .defr => true
  | _ => false

def seen : AObj → Bool
  | .cells _ .ro => true
  | o => live o

theorem CellsIn.mono {m m' : AMap} {w w' : World} {e : MEnt} {c : List Value} (h : CellsIn m w e c) (hm : m.le m') (hw : w'.heap[e.blk]? = w.heap[e.blk]?) : CellsIn m' w' e c := by
  obtain ⟨cs, el, fz, h1, h2, h3, h4⟩ := h
  exact ⟨cs, el, fz, hw.trans h1, h2, h3, h4.mono hm⟩

theorem NotFrozen.mono {w w' : World} {b n : Nat} (h : NotFrozen w b n) (hw : w'.heap[b]? = w.heap[b]?) : NotFrozen w' b n := by
  intro k hk
  have := h k hk
  simpa only [World.frozen?, hw] using this

theorem ORel.mono {Fr : Fence} {m m' : AMap} {w w' : World} {e : MEnt} {o : AObj} (h : ORel Fr m w e o) (hm : m.le m')
    (hw : seen o = true → w'.heap[e.blk]? = w.heap[e.blk]?) : ORel Fr m' w' e o := by
  cases o with
  | cells c st => cases st with
    | ro => exact ⟨h.1, h.2.1, h.2.2.mono hm (hw rfl)⟩
    | rw z => exact ⟨h.1, h.2.1, h.2.2.1.mono hm (hw rfl), h.2.2.2.mono (hw rfl)⟩
    | dead => trivial
  | iter s pos => exact ⟨h.1, h.2.1, (hw rfl).trans h.2.2⟩
  | loop l => exact ⟨h.1, h.2.elim fun l' hl => ⟨l', (hw rfl).trans hl.1, hl.2.mono hm⟩⟩
  | defr => exact ⟨h.1, (hw rfl).trans h.2⟩
  | taken => trivial
  | hole => trivial

theorem ORel.notFr {Fr : Fence} {m : AMap} {w : World} {e : MEnt} {o : AObj} (h : ORel Fr m w e o) (hl : live o = true) : ¬ Fr e.blk := by
  cases o with
  | cells c st => cases st <;> first | exact h.1 | simp [live] at hl
  | iter s pos => exact h.1
  | loop l => exact h.1
  | defr => exact h.1
  | taken => simp [live] at hl
  | hole => simp [live] at hl

theorem ORel.lt {Fr : Fence} {m : AMap} {w : World} {e : MEnt} {o : AObj} (h : ORel Fr m w e o) (hl : live o = true) : e.blk < w.heap.size := by
  have key : ∀ {x : Obj}, w.heap[e.blk]? = some x → e.blk < w.heap.size := fun hx => (Array.getElem?_eq_some_iff.1 hx).1
  cases o with
  | cells c st => cases st with
    | rw z => obtain ⟨_, _, ⟨cs, el, fz, h1, _⟩, _⟩ := h; exact key h1
    | ro => simp [live] at hl
    | dead => simp [live] at hl
  | iter s pos => exact key h.2.2
  | loop l => obtain ⟨_, l', h1, _⟩ := h; exact key h1
  | defr => exact key h.2
  | taken => simp [live] at hl
  | hole => simp [live] at hl

/-- The world w holds the abstract heap H at the places m; what is fenced off (Fr) lies as in wf. -/
structure R (Fr : Fence) (wf : World) (m : AMap) (H : AHeap) (w : World) : Prop where
  size : m.size = H.size
  os : w.os = wf.os
  tape : w.tape = wf.tape
  output : w.output = wf.output
  grow : wf.heap.size ≤ w.heap.size
  lt : ∀ k, Fr k → k < wf.heap.size
  keep : ∀ k, Fr k → w.heap[k]? = wf.heap[k]?
  obj : ∀ (i : Nat) (o : AObj) (e : MEnt), H[i]? = some o → m.has i e → ORel Fr m w e o
  inj : ∀ (i j : Nat) (o o' : AObj) (e e' : MEnt), i ≠ j → H[i]? = some o → H[j]? = some o' → live o = true → live o' = true → m.has i e → m.has j e' → e.blk ≠ e'.blk

/-- What a step may do: some objects are as they were; of each other one all is told. -/
theorem R.upd {Fr : Fence} {wf w w' : World} {m m' : AMap} {H H' : AHeap} (r : R Fr wf m H w) (hle : m.le m') (hsz : m'.size = H'.size)
    (hos : w'.os = w.os) (htape : w'.tape = w.tape) (hout : w'.output = w.output) (hgrow : w.heap.size ≤ w'.heap.size)
    (hkeep : ∀ k, Fr k → w'.heap[k]? = w.heap[k]?)
    (hobj : ∀ (i : Nat) (o : AObj) (e : MEnt), H'[i]? = some o → m'.has i e →
      (H[i]? = some o ∧ m.has i e ∧ (live o = true → w'.heap[e.blk]? = w.heap[e.blk]?)) ∨
      (ORel Fr m' w' e o ∧ (live o = true → ∀ (j : Nat) (o' : AObj) (e' : MEnt), j ≠ i → H'[j]? = some o' → live o' = true → m'.has j e' → e.blk ≠ e'.blk))) :
    R Fr wf m' H' w' where
  size := hsz
  os := hos.trans r.os
  tape := htape.trans r.tape
  output := hout.trans r.output
  grow := Nat.le_trans r.grow hgrow
  lt := r.lt
  keep := fun k hk => (hkeep k hk).trans (r.keep k hk)
  obj := by
    intro i o e ho he
    rcases hobj i o e ho he with ⟨h1, h2, h3⟩ | ⟨h1, _⟩
    · have hr := r.obj i o e h1 h2
      refine hr.mono hle fun hs => ?_
      cases hl : live o with
      | true => exact h3 hl
      | false =>
        cases o with
        | cells c st => cases st with
          | ro => exact hkeep _ (.inl hr.1)
          | rw => simp [live] at hl
          | dead => simp [seen, live] at hs
        | iter => simp [live] at hl
        | loop => simp [live] at hl
        | defr => simp [live] at hl
        | taken => simp [seen, live] at hs
        | hole => simp [seen, live] at hs
    · exact h1
  inj := by
    intro i j o o' e e' hij hi hj hl hl' hei hej
    rcases hobj i o e hi hei with ⟨h1, h2, _⟩ | ⟨_, h2⟩
    · rcases hobj j o' e' hj hej with ⟨k1, k2, _⟩ | ⟨_, k2⟩
      · exact r.inj i j o o' e e' hij h1 k1 hl hl' h2 k2
      · exact fun hb => k2 hl' i o e hij hi hl hei hb.symm
    · exact h2 hl j o' e' (Ne.symm hij) hj hl' hej

theorem R.drew {Fr : Fence} {wf w : World} {m : AMap} {H : AHeap} (r : R Fr wf m H w) (n : Nat) : R Fr wf m H { w with drawn := n } :=
  r.upd (.refl m) r.size rfl rfl rfl (Nat.le_refl _) (fun _ _ => rfl) fun _ _ _ h1 h2 => .inl ⟨h1, h2, fun _ => rfl⟩

-- ---------------------------------------------------------------- reading
theorem take_drop_get {α : Type} (l : List α) (s n k : Nat) (v : α) (h : ((l.drop s).take n)[k]? = some v) : l[s + k]? = some v := by
  rw [List.getElem?_take] at h
  split at h
  · simpa using h
  · simp at h

section reading
variable {Fr : Fence} {wf w : World} {m : AMap} {H : AHeap} (r : R Fr wf m H w)
include r

theorem R.cellsIn {b : Nat} {e : MEnt} (he : m.has b e) {c : List Value} {st : St} (h : H[b]? = some (.cells c st)) (hs : st ≠ .dead) : CellsIn m w e c := by
  have := r.obj b _ e h he
  cases st with
  | ro => exact this.2.2
  | rw z => exact this.2.2.1
  | dead => exact absurd rfl hs

theorem R.cell {b o : Nat} {e : MEnt} (he : m.has b e) {v : Value} (h : H.cell? ⟨b, o, none⟩ = some v) :
    ∃ v', w.cell? ⟨e.blk, o + e.sh, none⟩ = some v' ∧ VRel m v v' := by
  unfold AHeap.cell? at h
  split at h
  · simp at h
  · rename_i c st hd hH
    obtain ⟨cs, el, fz, h1, h2, h3, h4⟩ := r.cellsIn he hH (fun hs => hd hs)
    simp only at h
    obtain ⟨v', hv', hr⟩ := h4.get h
    refine ⟨v', ?_, hr⟩
    have := take_drop_get _ _ _ _ _ hv'
    simp only [World.cell?, h1, Option.isSome_none, Bool.false_eq_true, if_false]
    rw [Nat.add_comm]
    simpa using this
  · simp at h

theorem R.cells {b o n : Nat} {e : MEnt} (he : m.has b e) {vs : List Value} (h : H.cells? ⟨b, o, none⟩ n = some vs) :
    vs.length = n ∧ ∃ vs', LRel m vs vs' ∧ ∀ (k : Nat) (v' : Value), vs'[k]? = some v' → w.cell? ((⟨e.blk, o + e.sh, none⟩ : Addr).add k) = some v' := by
  unfold AHeap.cells? at h
  split at h
  · simp at h
  · rename_i c st hd hH
    obtain ⟨cs, el, fz, h1, h2, h3, h4⟩ := r.cellsIn he hH (fun hs => hd hs)
    simp only at h
    split at h
    · rename_i hlen
      simp at h; subst h
      refine ⟨by simp; omega, _, (h4.drop o).take n, fun k v' hk => ?_⟩
      have hk' := take_drop_get _ _ _ _ _ hk
      have hk2 := take_drop_get _ _ _ _ _ hk'
      have hadd : (⟨e.blk, o + e.sh, none⟩ : Addr).add k = ⟨e.blk, o + e.sh + k, none⟩ := by
        unfold Addr.add; split <;> simp_all
      rw [hadd]
      simp only [World.cell?, h1, Option.isSome_none, Bool.false_eq_true, if_false]
      rw [show o + e.sh + k = e.sh + (o + k) by omega]
      simpa using hk2
    · simp at h
  · simp at h

theorem R.loadCells (P : Program) {b o n : Nat} {e : MEnt} (he : m.has b e) {vs : List Value} (h : H.cells? ⟨b, o, none⟩ n = some vs) :
    vs.length = n ∧ ∃ vs', LRel m vs vs' ∧ (loadCells ⟨e.blk, o + e.sh, none⟩ n).run P w = .ok vs'.toArray w := by
  obtain ⟨h0, vs', h1, h2⟩ := r.cells he h
  refine ⟨h0, vs', h1, ?_⟩
  have := run_loadCells_list (P := P) w ⟨e.blk, o + e.sh, none⟩ vs' h2
  rwa [← h1.length, h0] at this
end reading

-- ---------------------------------------------------------------- writing
theorem setCell_heap_same (w : World) (g o : Nat) (cs : Array Value) (el : TypeId) (fz : Nat × Nat) (v : Value) (h : w.heap[g]? = some (.cells cs el fz)) :
    (w.setCell ⟨g, o, none⟩ v).heap[g]? = some (.cells (cs.setIfInBounds o v) el fz) := by
  simp [World.setCell, Array.getElem?_modify, h]

theorem setCell_heap_other (w : World) (g o k : Nat) (v : Value) (h : k ≠ g) : (w.setCell ⟨g, o, none⟩ v).heap[k]? = w.heap[k]? := by
  simp only [World.setCell, Array.getElem?_modify]
  rw [if_neg (by simpa using Ne.symm h)]

theorem setCell_size (w : World) (a : Addr) (v : Value) : (w.setCell a v).heap.size = w.heap.size := by simp [World.setCell]

/-- Cells stored into a block of which nothing is frozen. -/
theorem run_storeCells_raw (P : Program) (g o : Nat) (el : TypeId) (fz : Nat × Nat) : ∀ (vs : List Value) (i : Nat) (cs : Array Value) (w : World),
    w.heap[g]? = some (.cells cs el fz) → NotFrozen w g cs.size → o + i + vs.length ≤ cs.size → (∀ v ∈ vs, v.oneCell' = true) →
    ∃ w', (storeCells ⟨g, o, none⟩ vs i).run P w = .ok () w' ∧ w'.heap[g]? = some (.cells ⟨blit cs.toList (o + i) vs⟩ el fz) ∧ (∀ k, k ≠ g → w'.heap[k]? = w.heap[k]?) ∧
      w'.heap.size = w.heap.size ∧ w'.os = w.os ∧ w'.tape = w.tape ∧ w'.output = w.output ∧ NotFrozen w' g cs.size
  | [], i, cs, w, hg, hf, _, _ => ⟨w, rfl, by simpa [blit] using hg, fun _ _ => rfl, rfl, rfl, rfl, rfl, hf⟩
  | v :: rest, i, cs, w, hg, hf, hl, h1 => by
    have hi : o + i < cs.size := by simp at hl; omega
    have hadd : (⟨g, o, none⟩ : Addr).add i = ⟨g, o + i, none⟩ := by unfold Addr.add; split <;> simp_all
    have hcell : w.cell? ⟨g, o + i, none⟩ = some cs[o + i] := by simp [World.cell?, hg, hi]
    have hst : (store ((⟨g, o, none⟩ : Addr).add i) v).run P w = .ok () (w.setCell ⟨g, o + i, none⟩ v) := by
      rw [hadd, run_store P w _ v _ (h1 v (by simp)), hcell]
      simp [hf _ hi]
    have hg' := setCell_heap_same w g (o + i) cs el fz v hg
    have hf' : NotFrozen (w.setCell ⟨g, o + i, none⟩ v) g (cs.setIfInBounds (o + i) v).size := by
      intro k hk
      have := hf k (by simpa using hk)
      simp only [World.frozen?, hg'] at *
      simpa only [hg] using this
    obtain ⟨w', hr, hh, ho, hs, e1, e2, e3, hnf⟩ := run_storeCells_raw P g o el fz rest (i + 1) (cs.setIfInBounds (o + i) v) (w.setCell ⟨g, o + i, none⟩ v) hg' hf' (by simp at hl ⊢; omega) (fun x hx => h1 x (by simp [hx]))
    refine ⟨w', ?_, ?_, fun k hk => (ho k hk).trans (setCell_heap_other w g _ k v hk), hs.trans (setCell_size _ _ _), e1, e2, e3, by simpa using hnf⟩
    · simp only [storeCells, Sem.run_bind, hst, Result.andThen_ok, hr]
    · rw [hh]; simp [blit, Nat.add_assoc]

theorem set_window {l : List Value} {s n off : Nat} {v : Value} (h : s ≤ off) : ((l.set off v).drop s).take n = ((l.drop s).take n).set (off - s) v := by
  rw [List.drop_set, if_neg (by omega), List.take_set]

theorem blit_window {s n : Nat} : ∀ (vs : List Value) (l : List Value) (off : Nat), s ≤ off → ((blit l off vs).drop s).take n = blit ((l.drop s).take n) (off - s) vs
  | [], _, _, _ => rfl
  | v :: vs, l, off, h => by
    simp only [blit]
    rw [blit_window vs (l.set off v) (off + 1) (by omega), set_window h, show off + 1 - s = off - s + 1 by omega]

theorem AMap.le_fill {m : AMap} {id : Nat} (hn : m[id]? = some none) (e : MEnt) : m.le (m.setIfInBounds id (some e)) := by
  refine ⟨by simp, fun b e' h => ?_⟩
  unfold AMap.has at *
  rw [Array.getElem?_setIfInBounds]
  split
  · rename_i hb'; subst hb'; rw [hn] at h; simp at h
  · exact h

theorem AMap.has_fill {m : AMap} {id : Nat} (hn : m[id]? = some none) (e : MEnt) : AMap.has (m.setIfInBounds id (some e)) id e := by
  have : id < m.size := (Array.getElem?_eq_some_iff.1 hn).1
  simp [AMap.has, this]

theorem AMap.fill_back {m : AMap} {id : Nat} {e : MEnt} {j : Nat} {e' : MEnt} (hj : j ≠ id) (h : AMap.has (m.setIfInBounds id (some e)) j e') : m.has j e' := by
  unfold AMap.has at *
  rw [Array.getElem?_setIfInBounds, if_neg (Ne.symm hj)] at h; exact h

/-- w' is w with one block more. -/
structure Pushed (w w' : World) (y : Obj) : Prop where
  heap : w'.heap = w.heap.push y
  os : w'.os = w.os
  tape : w'.tape = w.tape
  output : w'.output = w.output

theorem Pushed.old {w w' : World} {y : Obj} (h : Pushed w w' y) {k : Nat} (hk : k < w.heap.size) : w'.heap[k]? = w.heap[k]? := by
  rw [h.heap, Array.getElem?_push, if_neg (by omega)]

theorem Pushed.new {w w' : World} {y : Obj} (h : Pushed w w' y) : w'.heap[w.heap.size]? = some y := by simp [h.heap]

section writing
variable {Fr : Fence} {wf w : World} {m : AMap} {H : AHeap} (r : R Fr wf m H w)
include r

/-- A store through an address of the run's own. -/
theorem R.store (P : Program) {b o : Nat} {e : MEnt} (he : m.has b e) {vs vs' : List Value} {H' : AHeap} (hv : LRel m vs vs') (h : H.store ⟨b, o, none⟩ vs = some H') :
    ∃ w', (storeCells ⟨e.blk, o + e.sh, none⟩ vs').run P w = .ok () w' ∧ R Fr wf m H' w' := by
  unfold AHeap.store at h
  split at h
  · rename_i c z hH
    simp only at h
    split at h
    · rename_i hc
      simp at h; subst h
      obtain ⟨hlen, hok⟩ := hc
      obtain ⟨hnf, hes, ⟨cs, el, fz, h1, h2, h3, h4⟩, hfz⟩ := r.obj b _ e hH he
      have hone : ∀ v ∈ vs', v.oneCell' = true := by
        intro v' hv'
        obtain ⟨k, hk, rfl⟩ := List.getElem_of_mem hv'
        obtain ⟨x, hx⟩ : ∃ x, vs[k]? = some x := ⟨vs[k]'(by rw [hv.length]; exact hk), by simp⟩
        obtain ⟨x', hx', hr⟩ := hv.get hx
        rw [List.getElem?_eq_getElem hk] at hx'
        simp at hx'; subst hx'
        exact hr.cellOk (by simp at hok; exact hok x (List.mem_of_getElem? hx))
      obtain ⟨w', hr, hh, ho, hs, e1, e2, e3, hnf'⟩ := run_storeCells_raw P e.blk (o + e.sh) el fz vs' 0 cs w h1 (by rw [h2]; exact hfz) (by rw [← hv.length, h2]; omega) hone
      refine ⟨w', hr, r.upd (.refl m) (by simp [r.size]) e1 e2 e3 (by omega) (fun k hk => ho k (by rintro rfl; exact hnf hk)) ?_⟩
      intro i x e' hi he'
      by_cases hib : i = b
      · subst hib
        obtain rfl := he.inj he'
        have hlt : i < H.size := (Array.getElem?_eq_some_iff.1 hH).1
        simp [hlt] at hi
        subst hi
        refine .inr ⟨⟨hnf, hes, ⟨_, el, fz, hh, ?_, ?_, ?_⟩, by rw [← h2]; exact hnf'⟩, fun _ j o' e' hj hj1 hj2 hj3 => ?_⟩
        · simp [blit_length, h2]
        · rw [blit_length]; exact h3
        · rw [blit_length, Nat.add_zero, blit_window vs' cs.toList (o + e.sh) (by omega), Nat.add_sub_cancel]
          exact h4.blit o hv
        · rw [Array.getElem?_setIfInBounds, if_neg (Ne.symm hj)] at hj1
          exact r.inj i j _ o' e e' (Ne.symm hj) hH hj1 rfl hj2 he hj3
      · rw [Array.getElem?_setIfInBounds, if_neg (Ne.symm hib)] at hi
        exact .inl ⟨hi, he', fun hl => ho _ (r.inj i b x _ e' e hib hi hH hl rfl he' he)⟩
    · simp at h
  · simp at h

/-- A new block behind all. -/
theorem R.push {x : AObj} {y : Obj} {e : MEnt} {w' : World} (hp : Pushed w w' y) (hb : e.blk = w.heap.size) (ho : ORel Fr (m.push (some e)) w' e x) :
    R Fr wf (m.push (some e)) (H.push x) w' := by
  refine r.upd (AMap.le_push m _) (by simp [r.size]) hp.os hp.tape hp.output (by simp [hp.heap]) (fun k hk => hp.old (Nat.lt_of_lt_of_le (r.lt k hk) r.grow)) ?_
  intro i o e' hi he'
  by_cases hib : i = H.size
  · subst hib
    simp at hi; subst hi
    have : AMap.has (m.push (some e)) H.size e := by rw [← r.size]; exact AMap.has_push m e
    obtain rfl := this.inj he'
    refine .inr ⟨ho, fun _ j o' e' hj hj1 hj2 hj3 => ?_⟩
    have hjl : j < H.size := by
      have := (Array.getElem?_eq_some_iff.1 hj1).1
      simp at this; omega
    rw [Array.getElem?_push, if_neg (by omega)] at hj1
    have hj3' : m.has j e' := by
      unfold AMap.has at *; rw [Array.getElem?_push, if_neg (by rw [r.size]; omega)] at hj3; exact hj3
    have := (r.obj j o' e' hj1 hj3').lt hj2
    omega
  · have hil : i < H.size := by
      have := (Array.getElem?_eq_some_iff.1 hi).1
      simp at this; omega
    rw [Array.getElem?_push, if_neg (by omega)] at hi
    have he2 : m.has i e' := by
      unfold AMap.has at *; rw [Array.getElem?_push, if_neg (by rw [r.size]; omega)] at he'; exact he'
    exact .inl ⟨hi, he2, fun hl => hp.old ((r.obj i o e' hi he2).lt hl)⟩

/-- A new block where a hole is. -/
theorem R.fill {x : AObj} {y : Obj} {e : MEnt} {id : Nat} {w' : World} (hlt : id < H.size) (hn : m[id]? = some none) (hp : Pushed w w' y) (hb : e.blk = w.heap.size)
    (ho : ORel Fr (m.setIfInBounds id (some e)) w' e x) :
    R Fr wf (m.setIfInBounds id (some e)) (H.setIfInBounds id x) w' := by
  have hhas := AMap.has_fill hn e
  refine r.upd (AMap.le_fill hn e) (by simp [r.size]) hp.os hp.tape hp.output (by simp [hp.heap]) (fun k hk => hp.old (Nat.lt_of_lt_of_le (r.lt k hk) r.grow)) ?_
  intro i o e' hi he'
  by_cases hib : i = id
  · subst hib
    simp [hlt] at hi; subst hi
    obtain rfl := hhas.inj he'
    refine .inr ⟨ho, fun _ j o' e' hj hj1 hj2 hj3 => ?_⟩
    rw [Array.getElem?_setIfInBounds, if_neg (Ne.symm hj)] at hj1
    have := (r.obj j o' e' hj1 (AMap.fill_back hj hj3)).lt hj2
    omega
  · rw [Array.getElem?_setIfInBounds, if_neg (Ne.symm hib)] at hi
    have he2 := AMap.fill_back hib he'
    exact .inl ⟨hi, he2, fun hl => hp.old ((r.obj i o e' hi he2).lt hl)⟩
end writing

end Go.Eng

namespace Go.Eng
open Go

theorem pureRun_run {α : Type} (P : Program) (s : Sem α) (a : α) (h : pureRun P s = some a) (w : World) : s.run P w = .ok a w := by
  induction s with
  | pure x => simp [pureRun] at h; subst h; rfl
  | program k ih => exact ih P h
  | _ => simp [pureRun] at h

theorem run_isAgg {P : Program} {t : TypeId} {b : Bool} (h : isAggT P t = some b) (w : World) : (isAgg t).run P w = .ok b w := by
  unfold isAggT at h
  unfold isAgg
  split at h <;> rename_i hu
  · simp at h; subst h; simp [run_underlying hu]
  · simp at h; subst h; simp [run_underlying hu]
  · rename_i hs ha
    simp at h; subst h
    rename_i d
    simp only [Sem.run_bind, run_underlying hu, Result.andThen_ok]
    cases d <;> first | rfl | (exact absurd rfl (hs _)) | (exact absurd rfl (ha _ _)) | simp_all
  · simp at h

theorem run_sizeOf' {P : Program} {t : TypeId} {n : Nat} (h : sizeT P t = some n) (w : World) : (sizeOf t).run P w = .ok n w := by
  unfold sizeT at h
  cases hi : P.info? t with
  | none => simp [hi] at h
  | some i => simp [hi] at h; subst h; simp [sizeOf, typeInfo, hi]

theorem run_typeInfo' {P : Program} {t : TypeId} {i : TypeInfo} (h : P.info? t = some i) (w : World) : (typeInfo t).run P w = .ok i w := by
  simp [typeInfo, h]

theorem run_zeroValue' {P : Program} {t : TypeId} {z : Value} (h : zeroT P t = some z) (w : World) : (zeroValue t).run P w = .ok z w ∧ free z = true := by
  unfold zeroT at h
  split at h
  · rename_i i hi
    split at h
    · rename_i z' hz
      split at h
      · rename_i hf
        simp at h; subst h
        exact ⟨by simp [zeroValue, typeInfo, hi, hz], hf⟩
      · simp at h
    · simp at h
  · simp at h

theorem run_v {P : Program} {s : Sem Value} {a : Value} {w w' : World} (h : s.run P w = .ok a w') : (do pure (Next.value (← s)) : Sem Next).run P w = .ok (.value a) w' := by
  simp [h]

def Operands (m : AMap) (ρ : Operand → Option Value) (ρ' : Operand → Value) : Prop := ∀ x v, ρ x = some v → VRel m v (ρ' x)

theorem mapOpt_rel {m : AMap} {ρ : Operand → Option Value} {ρ' : Operand → Value} (hρ : Operands m ρ ρ') : ∀ {l : List Operand} {vs : List Value}, mapOpt ρ l = some vs → LRel m vs (l.map ρ')
  | [], vs, h => by simp [mapOpt] at h; subst h; exact .nil
  | x :: xs, vs, h => by
    simp only [mapOpt] at h
    split at h
    · rename_i y ys h1 h2
      simp at h; subst h
      exact .cons (hρ _ _ h1) (mapOpt_rel hρ h2)
    · simp at h

theorem all_free_eq {m : AMap} {vs vs' : List Value} (h : LRel m vs vs') (hf : vs.all free = true) : vs' = vs := by
  induction vs generalizing vs' with
  | nil => cases h; rfl
  | cons v vs ih =>
    cases h with
    | cons h1 h2 =>
      simp only [List.all_cons, Bool.and_eq_true] at hf
      rw [h1.eq_of_free hf.1, ih h2 hf.2]

section
variable {Fr : Fence} {wf w : World} {m : AMap} {H : AHeap} {P : Program} (r : R Fr wf m H w)
include r

theorem aload_run {t : TypeId} {b o : Nat} {e : MEnt} (he : m.has b e) {v : Value} (h : aload P H t ⟨b, o, none⟩ = some v) :
    ∃ v', (loadVar t ⟨e.blk, o + e.sh, none⟩).run P w = .ok v' w ∧ VRel m v v' := by
  unfold aload at h
  split at h
  · rename_i n ha hs
    simp only [Option.map_eq_some_iff] at h
    obtain ⟨cs, hc, rfl⟩ := h
    obtain ⟨h0, cs', h1, h2⟩ := r.loadCells P he hc
    exact ⟨.agg cs'.toArray, by simp [loadVar, run_isAgg ha, run_sizeOf' hs, h2], .agg h1⟩
  · rename_i ha
    obtain ⟨v', h1, h2⟩ := r.cell he h
    exact ⟨v', by simp [loadVar, run_isAgg ha, h1], h2⟩
  · simp at h
end

theorem partV_run {P : Program} {m : AMap} {t : TypeId} {cs cs' : List Value} (hc : LRel m cs cs') {off : Nat} {v : Value} (h : partV P t cs off = some v) (w : World) :
    ∃ v', (part t ⟨cs'⟩ off).run P w = .ok v' w ∧ VRel m v v' := by
  unfold partV at h
  split at h
  · rename_i n ha hs
    split at h
    · simp at h; subst h
      refine ⟨.agg ⟨(cs'.drop off).take n⟩, ?_, .agg ((hc.drop off).take n)⟩
      simp only [part, Sem.run_bind, run_isAgg ha, Result.andThen_ok, if_true, run_sizeOf' hs, Sem.run_pure]
      congr 2
      apply Array.ext'
      simp [Array.toList_extract, List.extract_eq_take_drop]
    · simp at h
  · rename_i ha
    obtain ⟨v', h1, h2⟩ := hc.get h
    refine ⟨v', ?_, h2⟩
    simp [part, run_isAgg ha, h1]
  · simp at h

theorem bytesOfCells_spec {m : AMap} : ∀ {cs : List Value} {l : List UInt8}, bytesOfCells cs = some l → ∀ {cs' : List Value}, LRel m cs cs' →
    ∃ ns : List Int, cs' = ns.map (Value.int .u8) ∧ l = ns.map fun n => UInt8.ofNat n.toNat
  | [], l, h, cs', hr => by cases hr; simp [bytesOfCells] at h; subst h; exact ⟨[], rfl, rfl⟩
  | c :: cs, l, h, cs', hr => by
    cases hr with
    | cons h1 h2 =>
      unfold bytesOfCells at h
      split at h
      · simp_all
      · rename_i n r heq
        simp at heq
        obtain ⟨rfl, rfl⟩ := heq
        split at h
        · rename_i l' hl'
          simp at h; subst h
          obtain ⟨ns, rfl, rfl⟩ := bytesOfCells_spec hl' h2
          cases h1
          exact ⟨n :: ns, rfl, rfl⟩
        · simp at h
      · simp at h


theorem foldl_push_bytes (ns : List Int) : ∀ acc : ByteArray, ns.foldl (fun r n => r.push (UInt8.ofNat n.toNat)) acc = ⟨⟨acc.data.toList ++ ns.map fun n => UInt8.ofNat n.toNat⟩⟩ := by
  induction ns with
  | nil => intro acc; simp
  | cons n ns ih =>
    intro acc
    simp only [List.foldl_cons, ih, List.map_cons]
    simp [ByteArray.push]

theorem addr_add (b o sh n : Nat) : (⟨b, o + sh, none⟩ : Addr).add n = ⟨b, o + n + sh, none⟩ := by
  unfold Addr.add; split
  · rename_i h; subst h; simp
  · simp; omega

theorem addr_add0 (b o n : Nat) : (⟨b, o, none⟩ : Addr).add n = ⟨b, o + n, none⟩ := by
  unfold Addr.add; split
  · rename_i h; subst h; simp
  · rfl

/-- A slice expression's bound in the model. -/
theorem bound_some {P : Program} {m : AMap} {n d k : Nat} {code : BoundsCode} {v v' : Value} (hv : VRel m v v') {n' : Nat} (hn : n ≤ n') (h : bound n d (some (some v)) = some k) (w : World) :
    (Instr.sliceBound v' n' code).run P w = .ok k w ∧ k ≤ n := by
  simp only [bound] at h
  split at h
  · rename_i i hi
    split at h
    · rename_i hb
      simp at h; subst h
      cases v with
      | int q j =>
        simp [idx] at hi; subst hi
        cases hv
        refine ⟨?_, by omega⟩
        simp only [Instr.sliceBound, asIntOf, Sem.run_bind, Sem.run_pure, Result.andThen_ok]
        rw [if_pos ⟨hb.1, by omega⟩]; rfl
      | _ => simp [idx] at hi
    · simp at h
  · simp at h

end Go.Eng

namespace Go.Eng
open Go

theorem isNilOf_rel {m : AMap} {a a' : Value} (h : VRel m a a') : isNilOf a' = isNilOf a := by
  cases h <;> first | rfl | simp [isNilOf]

theorem eqKind_rel {P : Program} {t : TypeId} {m : AMap} {a a' b b' : Value} (h : VRel m a a') (k : VRel m b b') : eqKind P t a' b' = eqKind P t a b := by
  cases h <;> cases k <;> rfl

section
variable {P : Program} {t : TypeId} {d : Nat} {w : World}
theorem eqIn_ptr_l {e : TypeId} (hu : P.underlying t = some (.pointer e)) (q : Option Addr) : (Op.equalIn (d + 1) t (.pointer none) (.pointer q)).run P w = .ok q.isNone w := by
  simp only [Op.equalIn, Sem.run_bind, run_underlying hu, Result.andThen_ok]; rfl
theorem eqIn_ptr_r {e : TypeId} (hu : P.underlying t = some (.pointer e)) (q : Addr) : (Op.equalIn (d + 1) t (.pointer (some q)) (.pointer none)).run P w = .ok false w := by
  simp only [Op.equalIn, Sem.run_bind, run_underlying hu, Result.andThen_ok]; rfl
theorem eqIn_sl_l {e : TypeId} (hu : P.underlying t = some (.slice e)) (q : Option Addr) (a b c f : Nat) : (Op.equalIn (d + 1) t (.slice none a b) (.slice q c f)).run P w = .ok q.isNone w := by
  simp only [Op.equalIn, Sem.run_bind, run_underlying hu, Result.andThen_ok]; rfl
theorem eqIn_sl_r {e : TypeId} (hu : P.underlying t = some (.slice e)) (q : Addr) (a b c f : Nat) : (Op.equalIn (d + 1) t (.slice (some q) a b) (.slice none c f)).run P w = .ok false w := by
  simp only [Op.equalIn, Sem.run_bind, run_underlying hu, Result.andThen_ok]; rfl
theorem eqIn_fn1 {x y : Array TypeId} {z : Bool} (hu : P.underlying t = some (.func x y z)) : (Op.equalIn (d + 1) t .nilFunc .nilFunc).run P w = .ok true w := by
  simp only [Op.equalIn, Sem.run_bind, run_underlying hu, Result.andThen_ok]; rfl
theorem eqIn_fn2 {x y : Array TypeId} {z : Bool} (hu : P.underlying t = some (.func x y z)) (f : Fn) (a b : Array Value) : (Op.equalIn (d + 1) t .nilFunc (.func f a b)).run P w = .ok false w := by
  simp only [Op.equalIn, Sem.run_bind, run_underlying hu, Result.andThen_ok]; rfl
theorem eqIn_fn3 {x y : Array TypeId} {z : Bool} (hu : P.underlying t = some (.func x y z)) (f : Fn) (a b : Array Value) : (Op.equalIn (d + 1) t (.func f a b) .nilFunc).run P w = .ok false w := by
  simp only [Op.equalIn, Sem.run_bind, run_underlying hu, Result.andThen_ok]; rfl
theorem eqIn_if1 {ms : Array (String × TypeId)} (hu : P.underlying t = some (.interface ms)) (k : TypeId) (v : Value) : (Op.equalIn (d + 1) t .nilIface (.iface k v)).run P w = .ok false w := by
  simp only [Op.equalIn, Sem.run_bind, run_underlying hu, Result.andThen_ok]; rfl
theorem eqIn_if2 {ms : Array (String × TypeId)} (hu : P.underlying t = some (.interface ms)) (k : TypeId) (v : Value) : (Op.equalIn (d + 1) t (.iface k v) .nilIface).run P w = .ok false w := by
  simp only [Op.equalIn, Sem.run_bind, run_underlying hu, Result.andThen_ok]; rfl
end

theorem nilEq_key {P : Program} {t : TypeId} {a b : Value} {q : Bool} (h : nilEq P t a b = some q) (w : World) (d : Nat) : (Op.equalIn (d + 1) t a b).run P w = .ok q w := by
  unfold nilEq at h
  split at h
  case isFalse => simp at h
  rename_i hk
  cases a with
  | pointer p => cases b with
    | pointer p2 =>
      simp only [eqKind] at hk
      split at hk
      · rename_i hu
        cases p with
        | none => rw [eqIn_ptr_l hu]; cases p2 <;> simp [isNilOf] at h <;> subst h <;> rfl
        | some p => cases p2 with
          | none => rw [eqIn_ptr_r hu]; simp [isNilOf] at h; subst h; rfl
          | some p2 => simp [isNilOf] at h
      · simp at hk
    | _ => simp [eqKind] at hk
  | slice p _ _ => cases b with
    | slice p2 _ _ =>
      simp only [eqKind] at hk
      split at hk
      · rename_i hu
        cases p with
        | none => rw [eqIn_sl_l hu]; cases p2 <;> simp [isNilOf] at h <;> subst h <;> rfl
        | some p => cases p2 with
          | none => rw [eqIn_sl_r hu]; simp [isNilOf] at h; subst h; rfl
          | some p2 => simp [isNilOf] at h
      · simp at hk
    | _ => simp [eqKind] at hk
  | nilFunc => cases b with
    | nilFunc =>
      simp only [eqKind] at hk
      split at hk
      · rename_i hu; rw [eqIn_fn1 hu]; simp [isNilOf] at h; subst h; rfl
      · simp at hk
    | func _ _ _ =>
      simp only [eqKind] at hk
      split at hk
      · rename_i hu; rw [eqIn_fn2 hu]; simp [isNilOf] at h; subst h; rfl
      · simp at hk
    | _ => simp [eqKind] at hk
  | func _ _ _ => cases b with
    | nilFunc =>
      simp only [eqKind] at hk
      split at hk
      · rename_i hu; rw [eqIn_fn3 hu]; simp [isNilOf] at h; subst h; rfl
      · simp at hk
    | _ => simp [eqKind] at hk
  | nilIface => cases b with
    | iface _ _ =>
      simp only [eqKind] at hk
      split at hk
      · rename_i hu; rw [eqIn_if1 hu]; simp [isNilOf] at h; subst h; rfl
      · simp at hk
    | _ => simp [eqKind] at hk
  | iface _ _ => cases b with
    | nilIface =>
      simp only [eqKind] at hk
      split at hk
      · rename_i hu; rw [eqIn_if2 hu]; simp [isNilOf] at h; subst h; rfl
      · simp at hk
    | _ => simp [eqKind] at hk
  | _ => simp [eqKind] at hk

theorem nilEq_run {P : Program} {t : TypeId} {x y : Operand} {a b : Value} {q : Bool} (h : nilEq P t a b = some q) (w : World) :
    (do eqGuard .eql t x y a b; binOp .eql t a b).run P w = .ok (.bool q) w ∧ (do eqGuard .neq t x y a b; binOp .neq t a b).run P w = .ok (.bool (!q)) w := by
  have key := nilEq_key h w
  unfold nilEq at h
  split at h
  case isFalse => simp at h
  rename_i hk
  have hg : ∀ op, (eqGuard op t x y a b).run P w = .ok () w := by
    intro op
    cases a <;> cases b <;> try (simp [eqKind] at hk; done)
    all_goals (simp only [eqGuard]; split <;> simp)
  have he : (Op.equal t a b).run P w = .ok q w := key 9999
  have hb1 : (binOp .eql t a b).run P w = .ok (.bool q) w := by
    cases a <;> cases b <;> try (simp [eqKind] at hk; done)
    all_goals simp [binOp, he]
  have hb2 : (binOp .neq t a b).run P w = .ok (.bool (!q)) w := by
    cases a <;> cases b <;> try (simp [eqKind] at hk; done)
    all_goals simp [binOp, he]
  exact ⟨by simp [hg, hb1], by simp [hg, hb2]⟩

theorem ptrEq_run {P : Program} {t : TypeId} {x y : Operand} {m : AMap} {a b a' b' : Value} (ha : VRel m a a') (hb : VRel m b b') {q : Bool} (h : ptrEq P t a b = some q) (w : World) :
    (do eqGuard .eql t x y a' b'; binOp .eql t a' b').run P w = .ok (.bool q) w ∧ (do eqGuard .neq t x y a' b'; binOp .neq t a' b').run P w = .ok (.bool (!q)) w := by
  unfold ptrEq at h
  split at h
  case h_2 => simp at h
  split at h
  case h_2 => simp at h
  rename_i e hu
  split at h
  case h_2 => simp at h
  rename_i k hs
  split at h
  case isFalse => simp at h
  rename_i hc
  simp only [Option.some.injEq] at h
  subst h
  simp only [Bool.and_eq_true, decide_eq_true_eq] at hc
  obtain ⟨_, rfl⟩ := hc
  cases ha with
  | ptr h1 => cases hb with
    | ptr h2 =>
      obtain rfl := h1.inj h2
      have he0 : ∀ (d : Nat) (a : Addr), (Op.equalIn (d + 1) t (.pointer (some a)) (.pointer (some a))).run P w = .ok true w := by
        intro d a
        simp only [Op.equalIn, Sem.run_bind, run_underlying hu, Result.andThen_ok, run_sizeOf' hs]
        simp [sameAddr]
      have he : ∀ a : Addr, (Op.equal t (.pointer (some a)) (.pointer (some a))).run P w = .ok true w := he0 9999
      constructor
      · simp [eqGuard, binOp, he]
      · simp [eqGuard, binOp, he]

theorem abin_run {P : Program} {op : BinOp} {t : TypeId} {x y : Operand} {m : AMap} {a b a' b' : Value} (ha : VRel m a a') (hb : VRel m b b') {v : Value} (h : abin P op t x y a b = some v) (w : World) :
    (do eqGuard op t x y a' b'; binOp op t a' b').run P w = .ok v w ∧ VRel m v v := by
  unfold abin at h
  split at h
  · rename_i hf
    simp only [Bool.and_eq_true] at hf
    obtain rfl := ha.eq_of_free hf.1
    obtain rfl := hb.eq_of_free hf.2
    split at h
    · rename_i q hq
      split at h
      · rename_i hfr
        simp at h; subst h
        exact ⟨pureRun_run P _ _ hq w, .of_free hfr⟩
      · simp at h
    · simp at h
  · split at h
    · split at h
      · rename_i q hq
        simp at h; subst h
        have : nilEq P t a' b' = some q := by
          unfold nilEq at hq ⊢; rw [eqKind_rel ha hb, isNilOf_rel ha, isNilOf_rel hb]; exact hq
        exact ⟨(nilEq_run this w).1, .bool _⟩
      · simp only [Option.map_eq_some_iff] at h
        obtain ⟨q, hq, rfl⟩ := h
        exact ⟨(ptrEq_run ha hb hq w).1, .bool _⟩
    · split at h
      · rename_i q hq
        simp at h; subst h
        have : nilEq P t a' b' = some q := by
          unfold nilEq at hq ⊢; rw [eqKind_rel ha hb, isNilOf_rel ha, isNilOf_rel hb]; exact hq
        exact ⟨(nilEq_run this w).2, .bool _⟩
      · simp only [Option.map_eq_some_iff] at h
        obtain ⟨q, hq, rfl⟩ := h
        exact ⟨(ptrEq_run ha hb hq w).2, .bool _⟩
    · simp at h

theorem execOp_v {P : Program} {w w' : World} {s : Sem Value} {v : Value} (h : s.run P w = .ok v w') :
    Sem.run P (do let a ← s; pure (Next.value a)) w = .ok (.value v) w' := by simp [h]

section
variable {Fr : Fence} {wf w : World} {m : AMap} {H : AHeap} {P : Program} {ρ : Operand → Option Value} {ρ' : Operand → Value}

/-- An optional bound that is given. -/
theorem bound_given (hρ : Operands m ρ ρ') {x : Operand} {n d k n' : Nat} {code : BoundsCode} (hn : n ≤ n') (h : bound n d (some (ρ x)) = some k) (w : World) :
    (Instr.sliceBound (ρ' x) n' code).run P w = .ok k w ∧ k ≤ n := by
  cases hy : ρ x with
  | none => simp [hy, bound] at h
  | some v => rw [hy] at h; exact bound_some (hρ _ _ hy) hn h w

theorem sliceBounds_run (hρ : Operands m ρ ρ') (isS : Bool) (lo hi mx : Option Operand) {n c c' l h k : Nat} (hc : c ≤ c') (hn : n ≤ c)
    (e1 : bound c c (mx.map ρ) = some k) (e2 : (match mx.map ρ, hi.map ρ with | some _, none => none | _, _ => bound k n (hi.map ρ)) = some h) (e3 : bound h 0 (lo.map ρ) = some l) (w : World) :
    ∃ k', (Instr.sliceBounds isS n c' (lo.map ρ') (hi.map ρ') (mx.map ρ')).run P w = .ok (l, h, k') w ∧ k ≤ k' ∧ k' ≤ c' ∧ h ≤ k ∧ l ≤ h := by
  have low : ∀ (code : BoundsCode) (kk : Nat), (match lo.map ρ' with
      | some v => do
        let l ← Instr.sliceBound v h code
        pure (l, h, kk)
      | none => do
        let l ← pure 0
        pure (l, h, kk) : Sem (Nat × Nat × Nat)).run P w = .ok (l, h, kk) w ∧ l ≤ h := by
    intro code kk
    cases lo with
    | none => simp [bound] at e3; subst e3; simp
    | some y =>
      have := bound_given (P := P) (code := code) hρ (Nat.le_refl h) (by simpa using e3) w
      simp [this.1, this.2]
  cases mx with
  | none =>
    simp only [Option.map_none, bound, Option.some.injEq] at e1; subst e1
    have e2' : bound c n (hi.map ρ) = some h := by simpa using e2
    have high : ∀ code, (match hi.map ρ' with
        | some v => Instr.sliceBound v c' code
        | none => pure n : Sem Nat).run P w = .ok h w ∧ h ≤ c := by
      intro code
      cases hi with
      | none => simp [bound] at e2'; subst e2'; simp [hn]
      | some y =>
        have := bound_given (P := P) (code := code) hρ hc (by simpa using e2') w
        simpa using this
    refine ⟨c', ?_, hc, Nat.le_refl _, (high .sliceAcap).2, (low .sliceB 0).2⟩
    have hl := (low .sliceB c').1
    unfold Instr.sliceBounds
    cases hi with
    | none =>
      have hh := (high .sliceAcap).1
      simp only [Option.map_none, Sem.run_pure] at hh
      simp only [Option.map_none, Sem.run_bind, Sem.run_pure, Result.andThen_ok, Option.isSome_none, Bool.false_eq_true, if_false]
      simp at hh; subst hh
      exact hl
    | some z =>
      have hh := fun code => (high code).1
      simp only [Option.map_some] at hh
      simp only [Option.map_none, Option.map_some, Sem.run_bind, Sem.run_pure, Result.andThen_ok, Option.isSome_none, Bool.false_eq_true, if_false, hh]
      exact hl
  | some q =>
    cases hi with
    | none => simp at e2
    | some z =>
      have hm := fun code => bound_given (P := P) (code := code) hρ hc (by simpa using e1) w
      have hk : k ≤ c := (hm .slice3Acap).2
      have hz := bound_given (P := P) (code := .slice3B) hρ (Nat.le_refl k) (by simpa using e2) w
      refine ⟨k, ?_, Nat.le_refl _, by omega, hz.2, (low .slice3C 0).2⟩
      have hl := (low .slice3C k).1
      unfold Instr.sliceBounds
      simp only [Option.map_some, Sem.run_bind, Result.andThen_ok, Option.isSome_some, if_true, (hm _).1, hz.1]
      exact hl
end

end Go.Eng

namespace Go.Eng
open Go

section
variable {Fr : Fence} {wf w : World} {m : AMap} {H : AHeap} {P : Program} {ρ : Operand → Option Value} {ρ' : Operand → Value}

theorem stOf_esz (r : R Fr wf m H w) {b : Nat} {e : MEnt} (he : m.has b e) {z : Nat} (h : stOf H b = some z) : e.esz = z := by
  unfold stOf at h
  split at h
  · rename_i c hc; simp at h; subst h; exact (r.obj b _ e hc he).2.1
  · rename_i c z' hc; simp at h; subst h; exact (r.obj b _ e hc he).2.1
  · simp at h

theorem elemS_u {t e : TypeId} (h : elemS P t = some e) : P.underlying t = some (.slice e) := by
  unfold elemS at h
  split at h
  · rename_i e' hu; simp at h; subst h; exact hu
  · simp at h

theorem aslice_run (r : R Fr wf m H w) (hρ : Operands m ρ ρ') {t : TypeId} {a : Option Addr} {n c : Nat} {x' v : Value} {lo hi mx : Option Operand}
    (hx : VRel m (.slice a n c) x') (hs : slOk P H t a = true) (h : aslice P t a n c (lo.map ρ) (hi.map ρ) (mx.map ρ) = some v) :
    ∃ v', (Instr.sliceAt t x' (lo.map ρ') (hi.map ρ') (mx.map ρ')).run P w = .ok v' w ∧ VRel m v v' := by
  unfold aslice at h
  split at h
  case h_1 => simp at h
  rename_i k e1
  split at h
  case h_1 => simp at h
  rename_i hh e2
  split at h
  case h_1 => simp at h
  rename_i l e3
  split at h
  case h_1 => simp at h
  rename_i e he
  split at h
  case h_1 => simp at h
  rename_i sz hsz
  simp at h; subst h
  have hu := elemS_u he
  cases hx with
  | slice0 =>
    obtain ⟨k', hr, h1, h2, h3, h4⟩ := sliceBounds_run (P := P) hρ true lo hi mx (Nat.le_refl 0) (Nat.le_refl 0) e1 e2 e3 w
    obtain rfl : k' = 0 := by omega
    obtain rfl : k = 0 := by omega
    obtain rfl : hh = 0 := by omega
    obtain rfl : l = 0 := by omega
    refine ⟨.slice none 0 0, ?_, by simpa using VRel.slice0⟩
    simp [Instr.sliceAt, run_underlying hu, Instr.slice, hr, run_sizeOf' hsz]
  | @sliceE b o a' en hen =>
    obtain ⟨k', hr, h1, h2, h3, h4⟩ := sliceBounds_run (P := P) hρ true lo hi mx (Nat.le_refl 0) (Nat.le_refl 0) e1 e2 e3 w
    obtain rfl : k' = 0 := by omega
    obtain rfl : k = 0 := by omega
    obtain rfl : hh = 0 := by omega
    obtain rfl : l = 0 := by omega
    refine ⟨.slice (some a') 0 0, ?_, by simpa [Addr.add] using VRel.sliceE hen⟩
    simp [Instr.sliceAt, run_underlying hu, Instr.slice, hr, run_sizeOf' hsz]
  | @slice b o o' _ _ c' en hen h1 h2 h3 h4 =>
    obtain ⟨k', hr, g1, g2, g3, g4⟩ := sliceBounds_run (P := P) hρ true lo hi mx h2 h1 e1 e2 e3 w
    have hz : en.esz = 0 ∨ en.esz = sz := by
      simp only [slOk, he] at hs
      split at hs
      · rename_i z e' hst he'
        simp at he'; subst he'
        have := stOf_esz r hen hst
        simp [hsz] at hs
        rw [this]; exact hs
      · simp at hs
    refine ⟨.slice (if k' = l then some ⟨en.blk, o', none⟩ else some ⟨en.blk, o' + l * sz, none⟩) (hh - l) (k' - l), ?_, ?_⟩
    · simp only [Instr.sliceAt, Sem.run_bind, run_underlying hu, Result.andThen_ok, Instr.slice, hr, run_sizeOf' hsz, Sem.run_pure]
      simp [addr_add0]
    · by_cases hk : k' = l
      · rw [if_pos hk]
        simp only [Option.map_some, addr_add0]
        refine .slice hen (by omega) (by omega) (.inr (by omega)) ?_
        rcases h4 with h4 | h4
        · exact .inl h4
        · refine .inr ?_
          rw [hk, Nat.sub_self, Nat.zero_mul]
          omega
      · rw [if_neg hk]
        simp only [Option.map_some, addr_add0]
        have ho : o' = o + en.sh := h3.resolve_right (by omega)
        refine .slice hen (by omega) (by omega) (.inl (by omega)) ?_
        rcases h4 with h4 | h4
        · exact .inl h4
        · rcases hz with hz | hz
          · exact .inl hz
          · refine .inr ?_
            rw [hz] at h4 ⊢
            have : l * sz + (k' - l) * sz ≤ c' * sz := by
              rw [← Nat.add_mul]; exact Nat.mul_le_mul_right _ (by omega)
            omega

theorem apslice_run (r : R Fr wf m H w) (hρ : Operands m ρ ρ') {t : TypeId} {b o : Nat} {en : MEnt} (hen : m.has b en) {n e k hh l sz : Nat} {lo hi mx : Option Operand}
    (hu : P.underlying t = some (.array n e)) (e1 : bound n n (mx.map ρ) = some k)
    (e2 : (match mx.map ρ, hi.map ρ with | some _, none => none | _, _ => bound k n (hi.map ρ)) = some hh) (e3 : bound hh 0 (lo.map ρ) = some l)
    (hsz : sizeT P e = some sz) (hst : stOf H b = some 0) :
    ∃ v', (Instr.sliceAt t (.pointer (some ⟨en.blk, o + en.sh, none⟩)) (lo.map ρ') (hi.map ρ') (mx.map ρ')).run P w = .ok v' w ∧
      VRel m (.slice (some ((⟨b, o, none⟩ : Addr).add (l * sz))) (hh - l) (k - l)) v' := by
  obtain ⟨k', hr, g1, g2, g3, g4⟩ := sliceBounds_run (P := P) hρ false lo hi mx (Nat.le_refl n) (Nat.le_refl n) e1 e2 e3 w
  have hz := stOf_esz r hen hst
  refine ⟨.slice (if k' = l then some ⟨en.blk, o + en.sh, none⟩ else some ⟨en.blk, o + en.sh + l * sz, none⟩) (hh - l) (k' - l), ?_, ?_⟩
  · simp only [Instr.sliceAt, Sem.run_bind, run_underlying hu, Result.andThen_ok, hr, run_sizeOf' hsz, Sem.run_pure, Instr.sureAddr]
    by_cases hk : k' = l <;> simp [addr_add0, hk]
  · rw [addr_add0]
    by_cases hk : k' = l
    · rw [if_pos hk]
      exact .slice hen (by omega) (by omega) (.inr (by omega)) (.inl hz)
    · rw [if_neg hk]
      exact .slice hen (by omega) (by omega) (.inl (by omega)) (.inl hz)

theorem fillL_run {place place' : Nat → Option (Nat × Nat)} (hp : ∀ i x, place i = some x → place' i = some x) : ∀ {ps ps' : List (Nat × Value)} {cs cs' out : List Value},
    ps.map (·.1) = ps'.map (·.1) → LRel m (ps.map (·.2)) (ps'.map (·.2)) → LRel m cs cs' → fillL place cs ps = some out →
    ∃ out', Instr.fill place' ⟨cs'⟩ ps' = some ⟨out'⟩ ∧ LRel m out out'
  | [], ps', cs, cs', out, h1, _, hc, h => by
    cases ps' with
    | nil => simp [fillL] at h; subst h; exact ⟨cs', rfl, hc⟩
    | cons => simp at h1
  | (i, v) :: ps, ps', cs, cs', out, h1, h2, hc, h => by
    cases ps' with
    | nil => simp at h1
    | cons q ps' =>
      obtain ⟨i', v'⟩ := q
      simp only [List.map_cons, List.cons.injEq] at h1
      obtain ⟨rfl, h1⟩ := h1
      simp only [List.map_cons] at h2
      cases h2 with
      | cons hv h2 =>
        simp only [fillL] at h
        split at h
        · simp at h
        · rename_i off size hpl
          split at h
          · rename_i hc1
            have hcell := hv.cells
            have hlen : (vcells v').length = (vcells v).length := hcell.length.symm
            obtain ⟨out', g1, g2⟩ := fillL_run hp h1 h2 (hc.blit off hcell) h
            refine ⟨out', ?_, g2⟩
            have fold : ∀ (l : List Value) (k : Nat) (off : Nat) (arr : Array Value), (l.zipIdx k).foldl (fun (cs : Array Value) (x : Value × Nat) => cs.setIfInBounds (off + x.2) x.1) arr = ⟨blit arr.toList (off + k) l⟩ := by
              intro l
              induction l with
              | nil => intro k off arr; simp [blit]
              | cons a l ih =>
                intro k off arr
                simp only [List.zipIdx_cons, List.foldl_cons, blit, ih, Array.toList_setIfInBounds, Nat.add_assoc]
            have fold' : ∀ (a : Array Value) (off : Nat) (arr : Array Value), a.zipIdx.foldl (fun (cs : Array Value) (x : Value × Nat) => cs.setIfInBounds (off + x.2) x.1) arr = ⟨blit arr.toList off a.toList⟩ := by
              intro a off arr
              have := fold a.toList 0 off arr
              rw [Nat.add_zero] at this
              rw [← this, ← Array.foldl_toList]
              simp
            simp only [Instr.fill, hp _ _ hpl]
            have hsz : v'.cells.size = size := by
              have : v'.cells.size = (vcells v').length := by simp [vcells]
              rw [this, hlen]; exact hc1.1
            have hcs : cs'.length = cs.length := hc.length.symm
            rw [if_neg (by
              simp only [hsz, ne_eq, not_true_eq_false, decide_false, Bool.false_or, decide_eq_true_eq, List.size_toArray]
              have := hc1.2
              rw [hc1.1] at this
              simp [hcs]; omega)]
            have hf := fold' v'.cells off ⟨cs'⟩
            simp only [] at hf
            rw [hf]
            exact g1
          · simp at h

theorem partsOf_rel (hρ : Operands m ρ ρ') : ∀ {l : List (Nat × Operand)} {ps : List (Nat × Value)}, partsOf ρ l = some ps →
    ps.map (·.1) = (l.map fun (i, x) => (i, ρ' x)).map (·.1) ∧ LRel m (ps.map (·.2)) ((l.map fun (i, x) => (i, ρ' x)).map (·.2))
  | [], ps, h => by simp [partsOf] at h; subst h; exact ⟨rfl, .nil⟩
  | (i, x) :: l, ps, h => by
    simp only [partsOf] at h
    split at h
    · rename_i v vs h1 h2
      simp at h; subst h
      obtain ⟨g1, g2⟩ := partsOf_rel hρ h2
      exact ⟨by simp only [List.map_cons, g1], by simp only [List.map_cons]; exact .cons (hρ _ _ h1) g2⟩
    · simp at h

theorem run_mapM_sizes {fs : Array Field} (f : Field → Option (Nat × Nat)) (hf : f = fun fl => (sizeT P fl.type).map fun n => (fl.offset, n)) (w : World) :
    ∀ l : List Field, (∀ x ∈ l, (f x).isSome = true) → ∃ ps, (l.mapM (fun fl => do pure (fl.offset, ← sizeOf fl.type) : Field → Sem (Nat × Nat))).run P w = .ok ps w ∧ ps.length = l.length ∧ ∀ (i : Nat) (x : Field), l[i]? = some x → ps[i]? = f x
  | [], _ => ⟨[], by simp, rfl, by simp⟩
  | x :: l, h => by
    obtain ⟨ps, h1, h2, h3⟩ := run_mapM_sizes (fs := fs) f hf w l fun y hy => h y (by simp [hy])
    have hx := h x (by simp)
    rw [hf] at hx
    cases hs : sizeT P x.type with
    | none => simp [hs] at hx
    | some n =>
      refine ⟨(x.offset, n) :: ps, ?_, by simp [h2], ?_⟩
      · simp only [List.mapM_cons, Sem.run_bind, run_sizeOf' hs, Result.andThen_ok, Sem.run_pure, h1]
      · intro i y hi
        cases i with
        | zero => simp at hi; subst hi; simp [hf, hs]
        | succ i => simpa using h3 i y (by simpa using hi)

theorem abuild_run (hρ : Operands m ρ ρ') {t : TypeId} {parts : Array (Nat × Operand)} {ps : List (Nat × Value)} (hps : partsOf ρ parts.toList = some ps) {v : Value} (h : abuild P t ps = some v) (w : World) :
    ∃ v', (Instr.build t (parts.map fun (i, x) => (i, ρ' x))).run P w = .ok v' w ∧ VRel m v v' := by
  obtain ⟨q1, q2⟩ := partsOf_rel hρ hps
  have hpl : (parts.map fun (i, x) => (i, ρ' x)).toList = parts.toList.map fun (i, x) => (i, ρ' x) := by simp
  unfold abuild at h
  split at h
  · rename_i z fs hz hu
    obtain ⟨hz1, hz2⟩ := run_zeroValue' hz w
    split at h
    · simp at h
    rename_i hall
    simp only [Option.map_eq_some_iff] at h
    obtain ⟨cs, hf, rfl⟩ := h
    obtain ⟨pl, hm1, hm2, hm3⟩ := run_mapM_sizes (P := P) (fs := fs) (fun fl => (sizeT P fl.type).map fun n => (fl.offset, n)) rfl w fs.toList (by
      intro x hx
      simp only [Option.isSome_map]
      exact List.all_eq_true.1 (by simpa only [Bool.not_eq_false] using hall) x hx)
    have hz3 : VRel m z z := .of_free hz2
    obtain ⟨out', g1, g2⟩ := fillL_run (m := m) (place' := (pl.toArray[·]?)) (by
      intro i x hx
      split at hx
      · rename_i f hfi
        have := hm3 i f (by simpa using hfi)
        rw [← hx, ← this]; simp
      · simp at hx) q1 q2 hz3.cells hf
    refine ⟨.agg ⟨out'⟩, ?_, .agg g2⟩
    simp only [Instr.build, Sem.run_bind, hz1, Result.andThen_ok, run_underlying hu, Array.mapM_eq_mapM_toList, Sem.run_map, hm1, hpl]
    have : (⟨vcells z⟩ : Array Value) = z.cells := by simp [vcells]
    rw [this] at g1
    simp only [g1]; rfl
  · rename_i z n e hz hu
    obtain ⟨hz1, hz2⟩ := run_zeroValue' hz w
    split at h
    · rename_i sz hsz
      simp only [Option.map_eq_some_iff] at h
      obtain ⟨cs, hf, rfl⟩ := h
      have hz3 : VRel m z z := .of_free hz2
      obtain ⟨out', g1, g2⟩ := fillL_run (m := m) (place' := fun i => some (i * sz, sz)) (fun _ _ hx => hx) q1 q2 hz3.cells hf
      refine ⟨.agg ⟨out'⟩, ?_, .agg g2⟩
      have : (⟨vcells z⟩ : Array Value) = z.cells := by simp [vcells]
      rw [this] at g1
      simp only [Instr.build, Sem.run_bind, hz1, Result.andThen_ok, run_underlying hu, run_sizeOf' hsz, hpl, g1]; rfl
    · simp at h
  · simp at h

theorem typeAssert_run {x x' v : Value} {xt asserted : TypeId} {ok : Bool} (hx : VRel m x x') (h : atypeAssert P x asserted ok = some v) (w : World) :
    ∃ v', (Instr.typeAssert x' xt asserted ok).run P w = .ok v' w ∧ VRel m v v' := by
  unfold atypeAssert at h
  split at h
  · rename_i t y want hu
    cases hx with
    | iface _ hy =>
      split at h
      · rename_i i hi
        split at h
        · rename_i hmm
          simp at h; subst h
          refine ⟨_, by simp [Instr.typeAssert, run_underlying hu, run_typeInfo' hi, hmm]; rfl, ?_⟩
          cases ok
          · exact .iface _ hy
          · exact .tuple (.cons (.iface _ hy) (.cons (.bool _) .nil))
        · rename_i q hmm
          split at h
          · rename_i hok
            simp only [Option.map_eq_some_iff] at h
            obtain ⟨z, hz, rfl⟩ := h
            obtain ⟨hz1, hz2⟩ := run_zeroValue' hz w
            refine ⟨_, by simp [Instr.typeAssert, run_underlying hu, run_typeInfo' hi, hmm, hok, hz1]; rfl, ?_⟩
            exact .tuple (.cons (.of_free hz2) (.cons (.bool _) .nil))
          · simp at h
      · simp at h
  · rename_i t y d hu hd
    cases hx with
    | @iface _ _ y' hy =>
      split at h
      · rename_i ht
        simp at h; subst h
        refine ⟨if ok then .tuple #[y', .bool true] else y', ?_, ?_⟩
        · simp only [Instr.typeAssert, Sem.run_bind, run_underlying hd, Result.andThen_ok]
          cases d <;> first | (exact absurd rfl (hu _)) | (cases ok <;> simp [ht])
        · cases ok
          · exact hy
          · exact .tuple (.cons hy (.cons (.bool _) .nil))
      · rename_i ht
        split at h
        · rename_i hok
          simp only [Option.map_eq_some_iff] at h
          obtain ⟨z, hz, rfl⟩ := h
          obtain ⟨hz1, hz2⟩ := run_zeroValue' hz w
          refine ⟨.tuple #[z, .bool false], ?_, .tuple (.cons (.of_free hz2) (.cons (.bool _) .nil))⟩
          simp only [Instr.typeAssert, Sem.run_bind, run_underlying hd, Result.andThen_ok]
          cases d <;> first | (exact absurd rfl (hu _)) | (simp [ht, hok, hz1])
        · simp at h
  · rename_i d hu
    cases hx
    split at h
    · rename_i hok
      simp only [Option.map_eq_some_iff] at h
      obtain ⟨z, hz, rfl⟩ := h
      obtain ⟨hz1, hz2⟩ := run_zeroValue' hz w
      refine ⟨.tuple #[z, .bool false], ?_, .tuple (.cons (.of_free hz2) (.cons (.bool _) .nil))⟩
      simp only [Instr.typeAssert, Sem.run_bind, run_underlying hu, Result.andThen_ok]
      cases d <;> simp [hok, hz1]
    · simp at h
  · simp at h
end

end Go.Eng

namespace Go.Eng
open Go

section
variable {Fr : Fence} {wf w : World} {m : AMap} {H : AHeap} {P : Program} {ρ : Operand → Option Value} {ρ' : Operand → Value}

theorem len_run {m : AMap} {P : Program} {argTypes : Array TypeId} {ty : TypeId} {t : TypeId} (ht : argTypes[0]? = some t) {x x' v : Value} (hx : VRel m x x') (w : World)
    (h : (match x with
      | .slice _ n _ => match P.underlying t with
        | some (.slice _) => some (goInt n)
        | _ => none
      | .string s => match P.underlying t with
        | some .string => some (goInt s.size)
        | _ => none
      | .agg _ => match P.underlying t with
        | some (.array n _) => some (goInt n)
        | _ => none
      | .pointer _ => match P.underlying t with
        | some (.pointer e) => match P.underlying e with
          | some (.array n _) => some (goInt n)
          | _ => none
        | _ => none
      | _ => none) = some v) :
    (Builtin.len_ argTypes ty #[x']).run P w = .ok v w ∧ VRel m v v := by
  cases hx <;> try (simp at h; done)
  case string s =>
    simp only at h; split at h
    · rename_i hu; simp at h; subst h; exact ⟨by simp [Builtin.len_, ht, run_underlying hu], .int _ _⟩
    · simp at h
  case ptr0 =>
    simp only at h; split at h
    · rename_i e hu
      split at h
      · rename_i n e' hu'; simp at h; subst h; exact ⟨by simp [Builtin.len_, ht, run_underlying hu, run_underlying hu'], .int _ _⟩
      · simp at h
    · simp at h
  case ptr =>
    simp only at h; split at h
    · rename_i e hu
      split at h
      · rename_i n e' hu'; simp at h; subst h; exact ⟨by simp [Builtin.len_, ht, run_underlying hu, run_underlying hu'], .int _ _⟩
      · simp at h
    · simp at h
  case slice0 =>
    simp only at h; split at h
    · rename_i e hu; simp at h; subst h; exact ⟨by simp [Builtin.len_, ht, run_underlying hu], .int _ _⟩
    · simp at h
  case sliceE =>
    simp only at h; split at h
    · rename_i e hu; simp at h; subst h; exact ⟨by simp [Builtin.len_, ht, run_underlying hu], .int _ _⟩
    · simp at h
  case slice =>
    simp only at h; split at h
    · rename_i e hu; simp at h; subst h; exact ⟨by simp [Builtin.len_, ht, run_underlying hu], .int _ _⟩
    · simp at h
  case agg =>
    simp only at h; split at h
    · rename_i n e hu; simp at h; subst h; exact ⟨by simp [Builtin.len_, ht, run_underlying hu], .int _ _⟩
    · simp at h

theorem invoke_builtin {b : Builtin} {c : Call} {type : TypeId} {w : World} (hc : c.callee = .builtin b) :
    (do let d ← resolve ρ' c type; invoke d.target d.args : Sem Next).run P w = (builtin b c.argTypes type (c.args.map fun | .const _ => true | _ => false) (c.args.map ρ')).run P w := by
  simp [resolve, hc, invoke]
  rfl

theorem fieldPlace_run {f : Field} {n : Nat} (h : sizeT P f.type = some (n + 1)) (a : Addr) : (fieldPlace a f).run P w = .ok (a.add f.offset) w := by
  simp [fieldPlace, run_sizeOf' h]

theorem alight_run (r : R Fr wf m H w) (hρ : Operands m ρ ρ') {o : Oper} {v : Value} (h : alight P ρ H o = some v) :
    ∃ v', (execOp ρ' o).run P w = .ok (.value v') w ∧ VRel m v v' := by
  obtain ⟨dst, op, type, pos, after, guard⟩ := o
  unfold alight at h
  cases op <;> simp only at h <;> try (simp at h; done)
  case move x => exact ⟨ρ' x, rfl, hρ _ _ h⟩
  case assign x => exact ⟨ρ' x, rfl, hρ _ _ h⟩
  case pick c a b =>
    split at h
    · rename_i t x y hc ha hb
      simp at h; subst h
      have h1 := hρ _ _ hc
      generalize hcc : ρ' c = vc at h1
      cases h1
      refine ⟨if t then ρ' a else ρ' b, by simp [execOp, hcc, asBool], ?_⟩
      cases t
      · exact hρ _ _ hb
      · exact hρ _ _ ha
    · simp at h
  case load t a =>
    split at h
    · rename_i ad ha
      have h1 := hρ _ _ ha
      generalize hcc : ρ' a = va at h1
      cases h1 with
      | ptr he =>
        obtain ⟨v', g1, g2⟩ := aload_run r he h
        exact ⟨v', by simp [execOp, Instr.loadAt, hcc, Instr.sureAddr, g1], g2⟩
    · simp at h
  case nilCheck x =>
    split at h
    · rename_i a ha
      simp at h; subst h
      have h1 := hρ _ _ ha
      generalize hcc : ρ' x = vx at h1
      cases h1 with
      | ptr he => exact ⟨_, by simp only [execOp, hcc]; rfl, .ptr he⟩
    · rename_i t y ha
      simp at h; subst h
      have h1 := hρ _ _ ha
      generalize hcc : ρ' x = vx at h1
      cases h1 with
      | iface _ hy => exact ⟨_, by simp only [execOp, hcc]; rfl, .iface _ hy⟩
    · rename_i f a b ha
      simp at h; subst h
      have h1 := hρ _ _ ha
      generalize hcc : ρ' x = vx at h1
      cases h1 with
      | func hf h2 h3 => cases hf; exact ⟨_, by simp only [execOp, hcc]; rfl, .func (.func _) h2 h3⟩
    · rename_i f a b ha
      simp at h; subst h
      have h1 := hρ _ _ ha
      generalize hcc : ρ' x = vx at h1
      cases h1 with
      | func hf h2 h3 =>
        cases hf with
        | yield he => exact ⟨_, by simp only [execOp, hcc]; rfl, .func (.yield he) h2 h3⟩
    · simp at h
  case binOp op t x y yt =>
    split at h
    · rename_i a b ha hb
      obtain ⟨g1, g2⟩ := abin_run (hρ _ _ ha) (hρ _ _ hb) h w
      refine ⟨v, ?_, g2⟩
      simp only [execOp]
      exact execOp_v g1
    · simp at h
  case unOp op t x =>
    split at h
    · rename_i a ha
      split at h
      · rename_i hf
        have h1 := (hρ _ _ ha).eq_of_free hf
        split at h
        · rename_i q hq
          split at h
          · rename_i hfr
            simp at h; subst h
            refine ⟨q, ?_, .of_free hfr⟩
            simp only [execOp, h1]
            exact execOp_v (pureRun_run P _ _ hq w)
          · simp at h
        · simp at h
      · simp at h
    · simp at h
  case convert src dst x =>
    split at h
    · rename_i a n c ha
      have h1 := hρ _ _ ha
      split at h
      · rename_i e hs hd
        split at h
        · rename_i ad hu
          split at h
          · rename_i cs hcs
            simp only [Option.map_eq_some_iff] at h
            obtain ⟨l, hl, rfl⟩ := h
            generalize hcc : ρ' x = vx at h1
            cases h1 with
            | @sliceE b o a' en he =>
              have hcs0 : cs = [] := by
                have := (r.cells he hcs).1
                exact List.eq_nil_of_length_eq_zero this
              subst hcs0
              simp [bytesOfCells] at hl; subst hl
              refine ⟨.string .empty, ?_, .string _⟩
              simp only [execOp, hcc]
              refine execOp_v ?_
              simp only [convert, Sem.run_bind, run_underlying hs, run_underlying hd, Result.andThen_ok, run_underlying hu]
              have := run_bytesToString (P := P) w a' 0 0 [] (by simp [loadCells, loadCellsFrom])
              simpa using this
            | @slice b o o' _ _ c' en he g1 g2 g3 g4 =>
              by_cases hn : n = 0
              · subst hn
                have hcs0 : cs = [] := by
                  have := (r.cells he hcs).1
                  exact List.eq_nil_of_length_eq_zero this
                subst hcs0
                simp [bytesOfCells] at hl; subst hl
                refine ⟨.string .empty, ?_, .string _⟩
                simp only [execOp, hcc]
                refine execOp_v ?_
                simp only [convert, Sem.run_bind, run_underlying hs, run_underlying hd, Result.andThen_ok, run_underlying hu]
                have := run_bytesToString (P := P) w ⟨en.blk, o', none⟩ 0 c' [] (by simp [loadCells, loadCellsFrom])
                simpa using this
              · have ho : o' = o + en.sh := g3.resolve_right (by omega)
                subst ho
                obtain ⟨hlen, vs', hv1, hv2⟩ := r.loadCells P he hcs
                obtain ⟨ns, rfl, rfl⟩ := bytesOfCells_spec hl hv1
                refine ⟨_, ?_, .string _⟩
                simp only [execOp, hcc]
                refine execOp_v ?_
                simp only [convert, Sem.run_bind, run_underlying hs, run_underlying hd, Result.andThen_ok, run_underlying hu]
                have := run_bytesToString (P := P) w ⟨en.blk, o + en.sh, none⟩ n c' ns hv2
                rw [this, foldl_push_bytes]
                rfl
          · simp at h
        · rename_i hu
          simp at h; subst h
          generalize hcc : ρ' x = vx at h1
          cases h1 with
          | slice0 =>
            refine ⟨.string .empty, ?_, .string _⟩
            simp only [execOp, hcc]
            refine execOp_v ?_
            simp only [convert, Sem.run_bind, run_underlying hs, run_underlying hd, Result.andThen_ok, run_underlying hu]
            rfl
        · simp at h
      · simp at h
    · rename_i a hns ha
      split at h
      · rename_i hf
        have h1 := (hρ _ _ ha).eq_of_free hf
        split at h
        · rename_i q hq
          split at h
          · rename_i hfr
            simp at h; subst h
            refine ⟨q, ?_, .of_free hfr⟩
            simp only [execOp, h1]
            exact execOp_v (pureRun_run P _ _ hq w)
          · simp at h
        · simp at h
      · simp at h
    · simp at h
  case makeInterface t x =>
    split at h
    · simp at h
    · rename_i d hni hu
      simp only [Option.map_eq_some_iff] at h
      obtain ⟨y, hy, rfl⟩ := h
      refine ⟨.iface t (ρ' x), ?_, .iface _ (hρ _ _ hy)⟩
      simp only [execOp]
      refine execOp_v ?_
      simp only [Instr.makeInterface, Sem.run_bind, run_underlying hu, Result.andThen_ok]
      cases d <;> first | rfl | exact absurd rfl (hni _)
    · simp at h
  case makeFunc fn first cap =>
    cases fn <;> simp only at h <;> try (simp at h; done)
    rename_i f
    split at h
    · rename_i a b ha hb
      simp at h; subst h
      refine ⟨.func (.func f) (first.map ρ') (cap.map ρ'), rfl, ?_⟩
      have e : ∀ arr : Array Operand, arr.map ρ' = ⟨arr.toList.map ρ'⟩ := by intro arr; apply Array.ext'; simp
      rw [e, e]
      exact .func (.func f) (mapOpt_rel hρ ha) (mapOpt_rel hρ hb)
    · simp at h
  case slice t x lo hi mx =>
    split at h
    · rename_i a n c ha
      split at h
      · rename_i hs
        obtain ⟨v', g1, g2⟩ := aslice_run r hρ (hρ _ _ ha) hs h
        exact ⟨v', by simp only [execOp]; exact execOp_v g1, g2⟩
      · simp at h
    · rename_i s ha
      split at h
      · rename_i hcond
        simp only [Bool.and_eq_true] at hcond
        obtain ⟨⟨⟨⟨⟨o1, o2⟩, o3⟩, f1⟩, f2⟩, f3⟩ := hcond
        split at h
        · rename_i q hq
          split at h
          · rename_i hfr
            simp at h; subst h
            refine ⟨q, ?_, .of_free hfr⟩
            have hx := (hρ _ _ ha).eq_of_free (by rfl)
            have opt : ∀ y : Option Operand, okArg (y.map ρ) = true → ((y.map ρ).all fun v => v.all free) = true → y.map ρ' = y.bind ρ := by
              intro y h1 h2
              cases y with
              | none => rfl
              | some z =>
                simp only [Option.map_some, Option.bind_some]
                cases hz : ρ z with
                | none => simp [hz, okArg] at h1
                | some u =>
                  simp [hz] at h2
                  rw [(hρ _ _ hz).eq_of_free h2]
            simp only [execOp, hx, opt lo o1 f1, opt hi o2 f2, opt mx o3 f3]
            exact execOp_v (pureRun_run P _ _ hq w)
          · simp at h
        · simp at h
      · simp at h
    · rename_i a ha
      split at h
      · rename_i n e hu
        split at h
        · simp at h
        · rename_i k e1
          split at h
          · simp at h
          · rename_i hh e2
            split at h
            · simp at h
            · rename_i l e3
              split at h
              · simp at h
              · rename_i sz hsz
                split at h
                · rename_i hc
                  simp at h; subst h
                  have h1 := hρ _ _ ha
                  generalize hcc : ρ' x = vx at h1
                  cases h1 with
                  | ptr he =>
                    simp only [Bool.and_eq_true, beq_iff_eq] at hc
                    obtain ⟨v', g1, g2⟩ := apslice_run (P := P) (hi := hi) (mx := mx) (lo := lo) r hρ he hu e1 (by cases mx <;> cases hi <;> exact e2) e3 hsz hc.2
                    exact ⟨v', by simp only [execOp, hcc]; exact execOp_v g1, g2⟩
                · simp at h
      · simp at h
    · simp at h
  case fieldAddr t x f =>
    split at h
    · rename_i a fs ha hu
      split at h
      · rename_i fl hfl
        split at h
        · rename_i k hk
          split at h
          · simp at h; subst h
            have h1 := hρ _ _ ha
            generalize hcc : ρ' x = vx at h1
            cases h1 with
            | @ptr b o en he =>
              refine ⟨.pointer (some ⟨en.blk, o + fl.offset + en.sh, none⟩), ?_, by rw [addr_add0]; exact .ptr he⟩
              simp only [execOp, hcc]
              refine execOp_v ?_
              simp [Instr.fieldAt, run_underlying hu, hfl, Instr.sureAddr, fieldPlace_run hk, addr_add]
          · simp at h
        · simp at h
      · simp at h
    · simp at h
  case field t x f =>
    split at h
    · rename_i cs fs ha hu
      split at h
      · rename_i fl hfl
        have h1 := hρ _ _ ha
        generalize hcc : ρ' x = vx at h1
        cases h1 with
        | agg hc =>
          obtain ⟨v', g1, g2⟩ := partV_run (P := P) hc h w
          refine ⟨v', ?_, g2⟩
          simp only [execOp, hcc]
          refine execOp_v ?_
          simp [Instr.field, run_underlying hu, hfl, asAgg, g1]
      · simp at h
    · simp at h
  case indexAddr t x i =>
    split at h
    · rename_i a n c q j e ha hi hu
      split at h
      · rename_i sz hsz
        split at h
        · rename_i hc
          simp at h; subst h
          have h1 := hρ _ _ ha
          have h2 := hρ _ _ hi
          generalize hcc : ρ' x = vx at h1
          generalize hcj : ρ' i = vi at h2
          cases h2
          cases h1 with
          | sliceE => omega
          | @slice b o o' _ _ c' en he g1 g2 g3 g4 =>
            have ho : o' = o + en.sh := g3.resolve_right (by omega)
            subst ho
            refine ⟨.pointer (some ⟨en.blk, o + j.toNat * sz + en.sh, none⟩), ?_, by rw [addr_add0]; exact .ptr he⟩
            simp only [execOp, hcc, hcj]
            refine execOp_v ?_
            simp [Instr.indexAt, asIntOf, run_underlying hu, hc.1, hc.2.1, run_sizeOf' hsz, addr_add]
        · simp at h
      · simp at h
    · rename_i a q j n e ha hi hu
      split at h
      · rename_i sz hsz
        split at h
        · rename_i hc
          simp at h; subst h
          have h1 := hρ _ _ ha
          have h2 := hρ _ _ hi
          generalize hcc : ρ' x = vx at h1
          generalize hcj : ρ' i = vi at h2
          cases h2
          cases h1 with
          | @ptr b o en he =>
            refine ⟨.pointer (some ⟨en.blk, o + j.toNat * sz + en.sh, none⟩), ?_, by rw [addr_add0]; exact .ptr he⟩
            simp only [execOp, hcc, hcj]
            refine execOp_v ?_
            simp [Instr.indexAt, asIntOf, run_underlying hu, hc.1, hc.2.1, run_sizeOf' hsz, addr_add, Instr.sureAddr]
        · simp at h
      · simp at h
    · simp at h
  case index t x i =>
    split at h
    · rename_i cs q j n e ha hi hu
      split at h
      · rename_i sz hsz
        split at h
        · rename_i hc
          have h1 := hρ _ _ ha
          have h2 := hρ _ _ hi
          generalize hcc : ρ' x = vx at h1
          generalize hcj : ρ' i = vi at h2
          cases h2
          cases h1 with
          | agg hcs =>
            obtain ⟨v', g1, g2⟩ := partV_run (P := P) hcs h w
            refine ⟨v', ?_, g2⟩
            simp only [execOp, hcc, hcj]
            refine execOp_v ?_
            simp [Instr.index, asIntOf, run_underlying hu, hc.1, hc.2, run_sizeOf' hsz, g1]
        · simp at h
      · simp at h
    · rename_i s q j ha hi hu
      split at h
      · rename_i hj
        split at h
        · rename_i b hb
          simp at h; subst h
          have h1 := hρ _ _ ha
          have h2 := hρ _ _ hi
          generalize hcc : ρ' x = vx at h1
          generalize hcj : ρ' i = vi at h2
          cases h2
          cases h1
          refine ⟨.int .u8 b.toNat, ?_, .int _ _⟩
          simp only [execOp, hcc, hcj]
          refine execOp_v ?_
          have hb' : s[j.toNat]? = some b := by
            have hlt : j.toNat < s.size := by
              have := (List.getElem?_eq_some_iff.1 hb).1
              simpa using this
            have he := (List.getElem?_eq_some_iff.1 hb).2
            rw [getElem?_pos s j.toNat hlt]
            simp only [Option.some.injEq]
            rw [← he]; rfl
          simp [Instr.index, asIntOf, run_underlying hu, hj, hb']
        · simp at h
      · simp at h
    · simp at h
  case typeAssert x xt asserted ok =>
    split at h
    · rename_i a ha
      obtain ⟨v', g1, g2⟩ := typeAssert_run (P := P) (xt := xt) (hρ _ _ ha) h w
      exact ⟨v', by simp only [execOp]; exact execOp_v g1, g2⟩
    · simp at h
  case extract x i =>
    split at h
    · rename_i vs ha
      have h1 := hρ _ _ ha
      generalize hcc : ρ' x = vx at h1
      cases h1 with
      | tuple hcs =>
        obtain ⟨v', g1, g2⟩ := hcs.get h
        refine ⟨v', ?_, g2⟩
        simp only [execOp, hcc]
        refine execOp_v ?_
        simp [Instr.extract, g1]
    · simp at h
  case build t parts =>
    split at h
    · rename_i ps hps
      obtain ⟨v', g1, g2⟩ := abuild_run (P := P) hρ hps h w
      exact ⟨v', by simp only [execOp]; exact execOp_v g1, g2⟩
    · simp at h
  case call c =>
    obtain ⟨callee, args, argTypes⟩ := c
    have e : ∀ arr : Array Operand, arr.map ρ' = ⟨arr.toList.map ρ'⟩ := by intro arr; apply Array.ext'; simp
    cases callee <;> try (simp at h; done)
    rename_i b
    cases b <;> try (simp at h; done)
    case len =>
      simp only at h
      cases hm : mapOpt ρ args.toList with
      | none => simp [hm] at h
      | some vs =>
        have hv := mapOpt_rel hρ hm
        rw [hm] at h
        cases vs with
        | nil => simp at h
        | cons x xs => cases xs with
          | cons => simp at h
          | nil =>
            cases ht : argTypes[0]? with
            | none => cases x <;> simp [ht] at h
            | some t =>
              have hlist : ∃ x', args.toList.map ρ' = [x'] ∧ VRel m x x' := by
                generalize args.toList.map ρ' = l at hv
                cases hv with | cons h1 h2 => cases h2; exact ⟨_, rfl, h1⟩
              obtain ⟨x', hl, hx⟩ := hlist
              obtain ⟨g1, g2⟩ := len_run (P := P) (ty := type) ht hx w (v := v) (by rw [ht] at h; cases x <;> exact h)
              refine ⟨v, ?_, g2⟩
              simp only [execOp]
              rw [invoke_builtin (b := .len) rfl]
              simp only [builtin, e, hl]
              exact execOp_v g1
    case min =>
      simp only at h
      split at h
      · rename_i vs hm
        have hv := mapOpt_rel hρ hm
        split at h
        · rename_i hf
          have := all_free_eq hv hf
          split at h
          · rename_i q hq
            split at h
            · rename_i hfr
              simp at h; subst h
              refine ⟨q, ?_, .of_free hfr⟩
              simp only [execOp]
              rw [invoke_builtin (b := .min) rfl]
              simp only [builtin, e, this]
              exact execOp_v (pureRun_run P _ _ hq w)
            · simp at h
          · simp at h
        · simp at h
      · simp at h
    case max =>
      simp only at h
      split at h
      · rename_i vs hm
        have hv := mapOpt_rel hρ hm
        split at h
        · rename_i hf
          have := all_free_eq hv hf
          split at h
          · rename_i q hq
            split at h
            · rename_i hfr
              simp at h; subst h
              refine ⟨q, ?_, .of_free hfr⟩
              simp only [execOp]
              rw [invoke_builtin (b := .max) rfl]
              simp only [builtin, e, this]
              exact execOp_v (pureRun_run P _ _ hq w)
            · simp at h
          · simp at h
        · simp at h
      · simp at h
end

end Go.Eng

namespace Go.Eng
open Go

theorem flatten_rep_eq {α : Type} [Inhabited α] (z : Array α) (n : Nat) : (Array.range (n * z.size)).map (fun k => z[k % z.size]!) = ⟨(List.replicate n z.toList).flatten⟩ := by
  apply Array.ext'
  simp only [Array.toList_map, Array.toList_range]
  induction n with
  | zero => simp
  | succ n ih =>
    rw [List.replicate_succ', List.flatten_append, ← ih, Nat.succ_mul, List.range_add, List.map_append]
    congr 1
    simp only [List.flatten_cons, List.flatten_nil, List.append_nil, List.map_map]
    apply List.ext_getElem
    · simp
    · intro i h1 h2
      simp only [List.length_map, List.length_range] at h1
      simp only [List.getElem_map, List.getElem_range, Function.comp]
      rw [Nat.mul_add_mod_self_right]
      have : i % z.size = i := Nat.mod_eq_of_lt h1
      rw [this]
      simp [h1]

theorem wrap64_id {n : Int} (h0 : -9223372036854775808 ≤ n) (h1 : n ≤ 9223372036854775807) : IntKind.i64.wrap n = n := by
  have e : (2 : Int) ^ IntKind.i64.bits = 18446744073709551616 := rfl
  have e2 : (2 : Int) ^ (IntKind.i64.bits - 1) = 9223372036854775808 := rfl
  unfold IntKind.wrap
  rw [e, e2]
  simp only [IntKind.signed, Bool.true_and, decide_eq_true_eq]
  split <;> omega

theorem run_newRow' (P : Program) (w : World) (el : TypeId) (cs : Array Value) : (newRow el cs).run P w = .ok ⟨w.heap.size, 0, none⟩ (w.alloc (.cells cs el)) := rfl
theorem run_newVar' (P : Program) (w : World) (el : TypeId) (v : Value) : (newVar el v).run P w = .ok ⟨w.heap.size, 0, none⟩ (w.alloc (.cells v.cells el)) := rfl

/-- What there is to know of a new block. -/
structure Made (Fr : Fence) (m : AMap) (w w' : World) (nw : New) (e : MEnt) (y : Obj) (v' : Value) : Prop where
  pushed : Pushed w w' y
  blk : e.blk = w.heap.size
  val : ∀ (m' : AMap) (id : Nat), m'.has id e → VRel m' (nw.val id) v'
  obj : ∀ (m' : AMap), m.le m' → ORel Fr m' w' e (.cells nw.cells (.rw nw.esz))

theorem notFrozen_fresh {w w' : World} {cs : Array Value} {el : TypeId} {lo hi n : Nat} (hp : Pushed w w' (.cells cs el (lo, hi))) (h : n ≤ lo) : NotFrozen w' w.heap.size n := by
  intro k hk
  simp only [World.frozen?, hp.new]
  have : ¬ lo ≤ k := by omega
  simp [this]

theorem notFrozen_zero {w w' : World} {cs : Array Value} {el : TypeId} {n : Nat} (hp : Pushed w w' (.cells cs el (0, 0))) : NotFrozen w' w.heap.size n := by
  intro k hk
  simp [World.frozen?, hp.new]

section
variable {Fr : Fence} {wf w : World} {m : AMap} {H : AHeap} {P : Program} {ρ : Operand → Option Value} {ρ' : Operand → Value}

theorem R.fresh (r : R Fr wf m H w) : ¬ Fr w.heap.size := fun h => by
  have := r.lt _ h; have := r.grow; omega

theorem made_ptr (r : R Fr wf m H w) {cells : List Value} {cells' : Array Value} (hc : LRel m cells cells'.toList) (el : TypeId) :
    Made Fr m w (w.alloc (.cells cells' el)) ⟨cells, 0, none⟩ ⟨w.heap.size, 0, cells'.size, 0⟩ (.cells cells' el) (.pointer (some ⟨w.heap.size, 0, none⟩)) := by
  have hp : Pushed w (w.alloc (.cells cells' el)) (.cells cells' el) := ⟨rfl, rfl, rfl, rfl⟩
  refine ⟨hp, rfl, fun m' id h => ?_, fun m' hm => ⟨r.fresh, rfl, ⟨cells', el, (0, 0), hp.new, rfl, ?_, ?_⟩, notFrozen_zero hp⟩⟩
  · have := VRel.ptr (o := 0) h
    simpa [New.val, at0] using this
  · simp [hc.length]
  · have : ((cells'.toList.drop 0).take cells.length) = cells'.toList := by rw [List.drop_zero, hc.length, List.take_length]
    rw [this]; exact hc.mono hm

theorem made_slice (r : R Fr wf m H w) {w' : World} {cells : List Value} {cs : Array Value} {el : TypeId} {fz : Nat × Nat} {sz l c c' : Nat} (hp : Pushed w w' (.cells cs el fz))
    (hl : cells.length ≤ cs.size) (hc : LRel m cells (cs.toList.take cells.length)) (hn : NotFrozen w' w.heap.size cs.size) (h1 : l ≤ c) (h2 : c ≤ c') (h3 : c' * sz ≤ cs.size) :
    Made Fr m w w' ⟨cells, sz, some (l, c)⟩ ⟨w.heap.size, 0, cs.size, sz⟩ (.cells cs el fz) (.slice (some ⟨w.heap.size, 0, none⟩) l c') := by
  refine ⟨hp, rfl, fun m' id h => ?_, fun m' hm => ⟨r.fresh, rfl, ⟨cs, el, fz, hp.new, rfl, ?_, ?_⟩, hn⟩⟩
  · exact .slice h h1 h2 (.inl rfl) (.inr (by simpa using h3))
  · simpa using hl
  · simpa using hc.mono hm

theorem aalloc_run (r : R Fr wf m H w) (hρ : Operands m ρ ρ') {o : Oper} {nw : New} (h : aalloc P ρ o = some nw) :
    ∃ v' w' e y, (execOp ρ' o).run P w = .ok (.value v') w' ∧ Made Fr m w w' nw e y v' := by
  obtain ⟨dst, op, type, pos, after, guard⟩ := o
  unfold aalloc at h
  cases op <;> simp only at h <;> try (simp at h; done)
  case alloc t =>
    split at h
    · rename_i z hz
      split at h
      · simp at h; subst h
        obtain ⟨hz1, hz2⟩ := run_zeroValue' hz w
        refine ⟨_, _, _, _, ?_, made_ptr r (cells' := z.cells) (VRel.of_free (m := m) hz2).cells t⟩
        simp only [execOp]
        refine execOp_v ?_
        simp [Instr.alloc, hz1, run_newVar']
      · simp at h
    · simp at h
  case box t x =>
    split at h
    · rename_i v hv
      split at h
      · simp at h; subst h
        refine ⟨_, _, _, _, ?_, made_ptr r (cells' := (ρ' x).cells) (hρ _ _ hv).cells t⟩
        simp only [execOp]
        refine execOp_v ?_
        simp [Instr.box, run_newVar']
      · simp at h
    · simp at h
  case buildSlice t len parts =>
    split at h
    · rename_i e ps he hps
      split at h
      · rename_i sz z hsz hz
        split at h
        · simp at h
        · rename_i hcond
          have hc1 : len * sz ≤ 16777216 := by omega
          have hc2 : (vcells z).length = sz := by omega
          have hc3 : sz ≠ 0 := by omega
          split at h
          · rename_i cs hf
            split at h
            · simp at h; subst h
              obtain ⟨hz1, hz2⟩ := run_zeroValue' hz w
              have hu := elemS_u he
              obtain ⟨q1, q2⟩ := partsOf_rel hρ hps
              have hz3 : VRel m z z := .of_free hz2
              obtain ⟨out', g1, g2⟩ := fillL_run (m := m) (place' := fun i => some (i * sz, sz)) (fun _ _ hx => hx) q1 q2 (LRel.flatten_replicate len hz3.cells) hf
              have hzs : z.cells.size = sz := by simpa [vcells] using hc2
              have hfill : ∀ {place : Nat → Option (Nat × Nat)} {ps : List (Nat × Value)} {a b : Array Value}, Instr.fill place a ps = some b → b.size = a.size := by
                intro place ps
                induction ps with
                | nil => intro a b h; simp [Instr.fill] at h; rw [h]
                | cons p ps ih =>
                  intro a b h
                  obtain ⟨i, v⟩ := p
                  simp only [Instr.fill] at h
                  split at h
                  · simp at h
                  · split at h
                    · simp at h
                    · rw [ih h]
                      have : ∀ (l : List (Value × Nat)) (off : Nat) (arr : Array Value), (l.foldl (fun (cs : Array Value) (x : Value × Nat) => cs.setIfInBounds (off + x.2) x.1) arr).size = arr.size := by
                        intro l
                        induction l with
                        | nil => intros; rfl
                        | cons a l ih => intros; simp [ih]
                      rw [← Array.foldl_toList]
                      exact this _ _ _
              have hout : out'.length = len * sz := by
                have := hfill g1
                simp at this
                rw [this, hc2]
              have hcs : cs.length = len * sz := by rw [g2.length, hout]
              refine ⟨_, _, _, _, ?_, made_slice r (w' := w.alloc (.cells ⟨out'⟩ e)) (cells := cs) (l := len) (c := len) (sz := sz) (cs := ⟨out'⟩) (el := e) (fz := (0, 0)) (c' := len) ⟨rfl, rfl, rfl, rfl⟩ (by simp [hout, hcs]) (by simpa [g2.length] using g2) (notFrozen_zero ⟨rfl, rfl, rfl, rfl⟩) (Nat.le_refl _) (Nat.le_refl _) (by simp [hout])⟩
              simp only [execOp]
              refine execOp_v ?_
              have hpl : (parts.map fun (i, x) => (i, ρ' x)).toList = parts.toList.map fun (i, x) => (i, ρ' x) := by simp
              by_cases h0 : len * sz = 0
              · have hl0 : len = 0 := by
                  rcases Nat.mul_eq_zero.1 h0 with h | h
                  · exact h
                  · exact absurd h hc3
                subst hl0
                have h00 : ¬ 0 * sz > 2 ^ 24 := by omega
                have hr0 : (Array.range (0 * sz)).map (fun k => (#[] : Array Value)[k % (#[] : Array Value).size]!) = ⟨(List.replicate 0 (vcells z)).flatten⟩ := by simp
                simp only [Instr.buildSlice, Sem.run_bind, run_underlying hu, Result.andThen_ok, run_sizeOf' hsz, if_neg h00, Sem.run_pure, if_pos h0, hr0, hpl, g1]
                simp [run_newRow']
              · have hfr := flatten_rep_eq z.cells len
                rw [hzs] at hfr
                have hv : vcells z = z.cells.toList := rfl
                rw [hv] at g1
                simp only [Instr.buildSlice, Sem.run_bind, run_underlying hu, Result.andThen_ok, run_sizeOf' hsz, if_neg (show ¬ len * sz > 2 ^ 24 by omega), Sem.run_pure, if_neg h0, hz1, hzs, hfr, hpl, g1]
                simp [run_newRow']
            · simp at h
          · simp at h
      · simp at h
    · simp at h
  case makeSlice t lo co =>
    split at h
    · rename_i e l c he hlo hco
      split at h
      · rename_i sz by_ z hsz hby hz
        split at h
        · rename_i hcond
          obtain ⟨c1, c2, c3, c4, c5, c6, c7⟩ := hcond
          simp at h; subst h
          obtain ⟨hz1, hz2⟩ := run_zeroValue' hz w
          have hu := elemS_u he
          have hl := (hρ _ _ hlo).eq_of_free (by rfl)
          have hc := (hρ _ _ hco).eq_of_free (by rfl)
          have hzs : z.cells.size = sz := by simpa [vcells] using c5
          have hlen : (List.replicate c.toNat (vcells z)).flatten.length = c.toNat * sz := by simp [c5]
          have hz3 : VRel m z z := .of_free hz2
          refine ⟨_, _, _, _, ?_, made_slice r (w' := w.alloc (.cells ⟨(List.replicate c.toNat (vcells z)).flatten⟩ e)) (cells := (List.replicate c.toNat (vcells z)).flatten) (l := l.toNat) (c := c.toNat) (sz := sz) (cs := ⟨(List.replicate c.toNat (vcells z)).flatten⟩) (el := e) (fz := (0, 0)) (c' := c.toNat) ⟨rfl, rfl, rfl, rfl⟩ (Nat.le_refl _) (by simp only [List.take_length]; exact LRel.flatten_replicate c.toNat hz3.cells) (notFrozen_zero ⟨rfl, rfl, rfl, rfl⟩) (by omega) (Nat.le_refl _) (by simp [c5])⟩
          simp only [execOp, hl, hc]
          refine execOp_v ?_
          have hwl : IntKind.i64.wrap l = l := wrap64_id (by omega) (by omega)
          have hwc : IntKind.i64.wrap c = c := wrap64_id (by omega) (by omega)
          cases hi : P.info? e with
          | none => simp [sizeT, hi] at hsz
          | some i =>
            have hib : i.bytes = by_ := by simpa [bytesT, hi] using hby
            have hti := run_typeInfo' hi w
            have t1 : ¬ ((decide (c < 0) || decide ((by_ : Int) * c > 2 ^ 48)) || decide (l < 0) || decide (l > c)) = true := by
              have : (by_ : Int) * c ≤ 281474976710656 := by
                have h1 : (c.toNat : Int) = c := Int.toNat_of_nonneg (by omega)
                have h2 : ((by_ * c.toNat : Nat) : Int) ≤ ((281474976710656 : Nat) : Int) := Int.ofNat_le.2 c3
                rw [Int.natCast_mul, h1] at h2
                exact h2
              have e48 : (2 : Int) ^ 48 = 281474976710656 := rfl
              simp only [e48, Bool.or_eq_true, decide_eq_true_eq]
              omega
            have hfr := flatten_rep_eq z.cells c.toNat
            rw [hzs] at hfr
            have hv : vcells z = z.cells.toList := rfl
            simp only [Instr.makeSlice, Sem.run_bind, run_underlying hu, Result.andThen_ok, asInt, asIntOf, Sem.run_pure, hti, hib, hwl, hwc]
            rw [if_neg t1]
            simp only [Sem.run_bind, Result.andThen_ok, run_askRoom, run_sizeOf' hsz]
            by_cases h0 : c.toNat * sz = 0
            · have hc0 : c.toNat = 0 := by
                rcases Nat.mul_eq_zero.1 h0 with h | h
                · exact h
                · exact absurd h c6
              have hr0 : (Array.range 0).map (fun k => (#[] : Array Value)[k % (#[] : Array Value).size]!) = ⟨(List.replicate 0 (vcells z)).flatten⟩ := by simp
              simp only [hc0, Nat.zero_mul, if_true, Sem.run_bind, Sem.run_pure, Result.andThen_ok, run_newRow', hr0]
            · simp only [if_neg h0, Sem.run_bind, hz1, Result.andThen_ok, Sem.run_pure, hzs, hfr, hv, run_newRow']
        · simp at h
      · simp at h
    · simp at h
  case convert src dst x =>
    split at h
    · rename_i s d e hx hs hd
      split at h
      · rename_i hu
        simp at h; subst h
        have hxx := (hρ _ _ hx).eq_of_free (by rfl)
        obtain ⟨cap, hcap, hle⟩ : ∃ cap, (choose (.appendCap s.size 0 e)).run P w = .ok cap w.drew ∧ s.size ≤ cap := by
          refine ⟨(Question.appendCap s.size 0 e).cut (w.tape w.drawn (.appendCap s.size 0 e)), rfl, ?_⟩
          simp [Question.cut]
        have hsz : (s.data.map fun b => Value.int .u8 b.toNat).size = s.size := by rw [Array.size_map]; rfl
        let arr : Array Value := (s.data.map fun b => Value.int .u8 b.toNat) ++ Array.replicate (cap - s.size) (.int .u8 0)
        have harr : arr.size = cap := by simp only [arr, Array.size_append, hsz, Array.size_replicate]; omega
        have hfree : ∀ l : List UInt8, LRel m (l.map fun b => Value.int .u8 b.toNat) (l.map fun b => Value.int .u8 b.toNat) := by
          intro l; induction l with
          | nil => exact .nil
          | cons b l ih => exact .cons (.int _ _) ih
        let w' : World := (w.drew.alloc (.cells arr e)).freeze { block := w.heap.size, off := cap } 1
        have hp : Pushed w w' (.cells arr e (cap, cap + 1)) := by
          refine ⟨?_, rfl, rfl, rfl⟩
          have key : ∀ f : Obj → Obj, (w.drew.alloc (.cells arr e)).heap.modify w.heap.size f = w.heap.push (f (.cells arr e)) := by
            intro f
            show (w.heap.push (.cells arr e)).modify w.heap.size f = _
            apply Array.ext_getElem?
            intro i
            simp only [Array.getElem?_modify, Array.getElem?_push]
            by_cases hi : i = w.heap.size
            · subst hi; simp
            · simp [Ne.symm hi, hi]
          show (World.freeze _ _ 1).heap = _
          unfold World.freeze
          rw [if_neg (by omega)]
          dsimp only
          rw [key]
          rfl
        have hbl : (bytesCells s).length = s.size := by unfold bytesCells; rw [List.length_map]; rfl
        refine ⟨_, w', _, _, ?_, made_slice r (w' := w') (cells := bytesCells s) (l := s.size) (c := s.size) (sz := 1) (cs := arr) (el := e) (fz := (cap, cap + 1)) (c' := cap) hp (by rw [hbl, harr]; exact hle) ?_ (by rw [harr]; exact notFrozen_fresh hp (Nat.le_refl _)) (Nat.le_refl _) hle (by rw [harr]; omega)⟩
        · simp only [execOp, hxx]
          refine execOp_v ?_
          simp only [convert, Sem.run_bind, run_underlying hs, run_underlying hd, Result.andThen_ok]
          have key : (Conv.stringToBytes e s).run P w = .ok (.slice (some ⟨w.heap.size, 0, none⟩) s.size cap) w' := by
            have hshape : (w.drew.alloc (.cells arr e)).shape? w.heap.size = some (e, cap) := by
              have : (w.drew.alloc (.cells arr e)).heap[w.heap.size]? = some (.cells arr e) := heap_alloc_new w.drew _
              simp only [World.shape?, this, harr]
            have hm : (markStringish ⟨w.heap.size, 0, none⟩).run P (w.drew.alloc (.cells arr e)) = .ok () w' := by
              simp only [markStringish, Sem.run_bind, run_shape, Result.andThen_ok, hshape]
              rfl
            have hr : (newRow e arr).run P w.drew = .ok ⟨w.heap.size, 0, none⟩ (w.drew.alloc (.cells arr e)) := rfl
            simp only [Conv.stringToBytes, Sem.run_bind, hcap, Result.andThen_ok]
            rw [show (s.data.map fun b => Value.int .u8 b.toNat) ++ Array.replicate (cap - s.size) (Value.int .u8 0) = arr from rfl, hr]
            simp only [Result.andThen_ok, hm, Sem.run_pure]
          cases d <;> simp only [run_underlying hu, Result.andThen_ok] <;> exact key
        · have : arr.toList.take (bytesCells s).length = bytesCells s := by
            rw [hbl]
            simp only [arr, Array.toList_append, Array.toList_map, Array.toList_replicate]
            have hl : (List.map (fun b : UInt8 => Value.int .u8 b.toNat) s.data.toList).length = s.size := by rw [List.length_map]; rfl
            rw [List.take_append_of_le_length (by rw [hl]; exact Nat.le_refl _), List.take_of_length_le (by rw [hl]; exact Nat.le_refl _)]
            rfl
          rw [this]; exact hfree _
      · simp at h
    · simp at h
end

end Go.Eng

namespace Go.Eng
open Go

theorem blit_full : ∀ (vs : List Value) (l : List Value) (off : Nat), off + vs.length = l.length → blit l off vs = l.take off ++ vs
  | [], l, off, h => by
    have e : off = l.length := by simpa using h
    simp [blit, e]
  | v :: vs, l, off, h => by
    simp only [blit]
    rw [blit_full vs (l.set off v) (off + 1) (by simp at h ⊢; omega)]
    have hlt : off < l.length := by simp at h; omega
    rw [List.take_set, List.take_succ_eq_append_getElem hlt]
    rw [List.set_append]
    simp [Nat.le_of_lt hlt]

section
variable {Fr : Fence} {wf w : World} {m : AMap} {H : AHeap} {P : Program} {ρ : Operand → Option Value} {ρ' : Operand → Value}

theorem lenV_run {x x' : Value} (hx : VRel m x x') {k : Nat} (h : lenV x = some k) : (Builtin.lenOf x').run P w = .ok k w := by
  cases hx <;> simp [lenV] at h <;> subst h <;> rfl

theorem firstOf_run (r : R Fr wf m H w) {sz n : Nat} {x x' : Value} (hx : VRel m x x') {cs : List Value} (h : firstOf H sz n x = some cs) (hn : ∀ k, lenV x = some k → n ≤ k) :
    ∃ cs', (Builtin.firstCells sz n x').run P w = .ok ⟨cs'⟩ w ∧ LRel m cs cs' := by
  cases hx with
  | slice0 => simp [firstOf] at h; subst h; exact ⟨[], by simp [Builtin.firstCells], .nil⟩
  | sliceE =>
    have hn0 : n = 0 := by have := hn 0 rfl; omega
    subst hn0
    simp [firstOf] at h; subst h
    exact ⟨[], by simp [Builtin.firstCells, loadCells, loadCellsFrom], .nil⟩
  | @slice b o o' l c c' en he h1 h2 h3 h4 =>
    simp only [firstOf] at h
    split at h
    · rename_i h0
      simp at h; subst h
      exact ⟨[], by simp [Builtin.firstCells, h0, loadCells, loadCellsFrom], .nil⟩
    · rename_i h0
      have hl := hn l rfl
      have hn0 : n ≠ 0 := by rintro rfl; simp at h0
      have ho : o' = o + en.sh := h3.resolve_right (by omega)
      subst ho
      obtain ⟨g0, cs', g1, g2⟩ := r.loadCells P he h
      exact ⟨cs', by simpa [Builtin.firstCells] using g2, g1⟩
  | string s =>
    simp [firstOf] at h; subst h
    have hfree : ∀ l : List UInt8, LRel m (l.map fun b => Value.int .u8 b.toNat) (l.map fun b => Value.int .u8 b.toNat) := by
      intro l; induction l with
      | nil => exact .nil
      | cons b l ih => exact .cons (.int _ _) ih
    refine ⟨(bytesCells s).take n, ?_, (hfree _).take n⟩
    simp only [Builtin.firstCells, Sem.run_pure]
    congr 1
    apply Array.ext'
    simp [bytesCells, List.extract_eq_take_drop]
  | _ => simp [firstOf] at h

theorem LRel.cellsOk {l l' : List Value} (h : LRel m l l') (hc : l.all cellOk = true) : ∀ v ∈ l', v.oneCell' = true := by
  induction l generalizing l' with
  | nil => cases h; simp
  | cons x xs ih =>
    cases h with
    | cons h1 h2 =>
      simp only [List.all_cons, Bool.and_eq_true] at hc
      intro v hv
      simp only [List.mem_cons] at hv
      rcases hv with rfl | hv
      · exact h1.cellOk hc.1
      · exact ih h2 hc.2 v hv

theorem R.dead (r : R Fr wf m H w) (b : Nat) : R Fr wf m (deadAt H b) w := by
  unfold deadAt
  split
  · rename_i c st hb
    refine r.upd (.refl m) (by simp [r.size]) rfl rfl rfl (Nat.le_refl _) (fun _ _ => rfl) ?_
    intro i o e hi he
    by_cases hib : i = b
    · subst hib
      have hlt := (Array.getElem?_eq_some_iff.1 hb).1
      simp [hlt] at hi; subst hi
      exact .inr ⟨trivial, fun hl => by simp [live] at hl⟩
    · rw [Array.getElem?_setIfInBounds, if_neg (Ne.symm hib)] at hi
      exact .inl ⟨hi, he, fun _ => rfl⟩
  · exact r

theorem deadAt_size (H : AHeap) (b : Nat) : Array.size (deadAt H b) = H.size := by
  unfold deadAt; split <;> simp

/-- An append in place. -/
theorem R.inplace (r : R Fr wf m H w) {b o n c' sz k : Nat} {en : MEnt} (he : m.has b en) {c : List Value} (hH : H[b]? = some (.cells c (.rw sz))) (hsz : sz ≠ 0)
    {old new new' : List Value} (hold : old = (c.drop o).take (n * sz)) (hol : o + n * sz ≤ c.length ∨ n * sz = 0) {o' : Nat} (ho' : o' = o + en.sh) (hnew : LRel m new new') (hnl : new.length = k * sz)
    (hok : new.all cellOk = true) (hroom : n + k ≤ c') (hcap : o' + c' * en.esz ≤ en.csz) (P : Program) :
    ∃ w' m', (storeCells (Addr.add ⟨en.blk, o', none⟩ (n * sz)) new').run P w = .ok () w' ∧ m.pre m' ∧
      R Fr wf m' ((deadAt H b).push (.cells (old ++ new) (.rw sz))) w' ∧ ∃ e', m'.has H.size e' ∧ e'.blk = en.blk ∧ e'.sh = o' ∧ e'.csz = en.csz ∧ e'.esz = sz := by
  obtain ⟨hnf, hes, ⟨cs, el, fz, h1, h2, h3, h4⟩, hfz⟩ := r.obj b _ en hH he
  rw [hes] at hcap
  have hnl' : new'.length = k * sz := by rw [← hnew.length]; exact hnl
  have hmul : (n + k) * sz ≤ c' * sz := Nat.mul_le_mul_right _ hroom
  have hadd : (n + k) * sz = n * sz + k * sz := Nat.add_mul _ _ _
  obtain ⟨w', hr, hh, hoth, hs, e1, e2, e3, hnf'⟩ := run_storeCells_raw P en.blk (o' + n * sz) el fz new' 0 cs w h1 (by rw [h2]; exact hfz) (by rw [hnl', h2]; omega) (hnew.cellsOk hok)
  have hdead := r.dead b
  have hbH : b < H.size := (Array.getElem?_eq_some_iff.1 hH).1
  refine ⟨w', m.push (some ⟨en.blk, o', en.csz, sz⟩), by rw [addr_add0]; exact hr, AMap.pre_push m _, ?_, ⟨en.blk, o', en.csz, sz⟩, by rw [← r.size]; exact AMap.has_push m _, rfl, rfl, rfl, rfl⟩
  have hasb : ∀ j e', j < H.size → AMap.has (m.push (some ⟨en.blk, o', en.csz, sz⟩)) j e' → m.has j e' := by
    intro j e' hj h
    unfold AMap.has at *; rw [Array.getElem?_push, if_neg (by rw [r.size]; omega)] at h; exact h
  have hget : ∀ (j : Nat) (x : AObj), ((deadAt H b).push (.cells (old ++ new) (.rw sz)))[j]? = some x → j ≠ H.size → j ≠ b → H[j]? = some x ∧ j < H.size := by
    intro j x hx hj hjb
    rw [Array.getElem?_push, if_neg (by rw [deadAt_size]; exact hj)] at hx
    have hlt : j < H.size := by have := (Array.getElem?_eq_some_iff.1 hx).1; rwa [deadAt_size] at this
    refine ⟨?_, hlt⟩
    unfold deadAt at hx
    rw [hH] at hx
    simp only at hx
    rwa [Array.getElem?_setIfInBounds, if_neg (Ne.symm hjb)] at hx
  have hgetb : ∀ (x : AObj), ((deadAt H b).push (.cells (old ++ new) (.rw sz)))[b]? = some x → x = .cells c .dead := by
    intro x hx
    rw [Array.getElem?_push, if_neg (by rw [deadAt_size]; omega)] at hx
    unfold deadAt at hx
    rw [hH] at hx
    simp [hbH] at hx
    exact hx.symm
  refine hdead.upd (AMap.pre_push m _).le (by simp [r.size, deadAt_size]) e1 e2 e3 (by omega) (fun k hk => hoth k (by rintro rfl; exact hnf hk)) ?_
  intro i x e hi hie
  by_cases hin : i = H.size
  · subst hin
    have hx : x = .cells (old ++ new) (.rw sz) := by
      rw [Array.getElem?_push, if_pos (by rw [deadAt_size])] at hi
      simpa using hi.symm
    subst hx
    obtain rfl := hie.inj (by rw [← r.size]; exact AMap.has_push m _)
    have holen : old.length = n * sz := by
      rw [hold]; simp only [List.length_take, List.length_drop]; omega
    refine .inr ⟨⟨hnf, rfl, ⟨_, el, fz, hh, ?_, ?_, ?_⟩, ?_⟩, fun _ j x' e' hj hj1 hj2 hj3 => ?_⟩
    · simp [blit_length, h2]
    · simp only [List.length_append, holen, hnl]; omega
    · have hlen : (old ++ new).length = n * sz + k * sz := by simp [holen, hnl]
      rw [hlen, Nat.add_zero]
      show LRel _ _ (((blit cs.toList (o' + n * sz) new').drop o').take (n * sz + k * sz))
      rw [blit_window new' cs.toList (o' + n * sz) (by omega), Nat.add_sub_cancel_left]
      have hcsz : cs.toList.length = en.csz := by simpa using h2
      rw [blit_full new' _ _ (by simp only [List.length_take, List.length_drop, hcsz, hnl']; omega)]
      refine (LRel.append ?_ hnew).mono (AMap.pre_push m _).le
      rw [hold, List.take_take, Nat.min_eq_left (by omega)]
      rcases hol with hol | hol
      · have := (h4.drop o).take (n * sz)
        rw [List.drop_take, List.drop_drop, List.take_take, Nat.min_eq_left (by omega)] at this
        rw [ho', Nat.add_comm o en.sh]
        exact this
      · rw [hol]; exact .nil
    · rw [← h2]; exact hnf'
    · by_cases hjb : j = b
      · subst hjb
        rw [hgetb x' hj1] at hj2; simp [live] at hj2
      · obtain ⟨q1, q2⟩ := hget j x' hj1 hj hjb
        exact (r.inj j b x' _ e' en hjb q1 hH hj2 rfl (hasb j e' q2 hj3) he).symm
  · by_cases hib : i = b
    · subst hib
      have := hgetb x hi
      subst this
      exact .inr ⟨trivial, fun hl => by simp [live] at hl⟩
    · obtain ⟨q1, q2⟩ := hget i x hi hin hib
      refine .inl ⟨?_, hasb i e q2 hie, fun hl => hoth _ (r.inj i b x _ e en hib q1 hH hl rfl (hasb i e q2 hie) he)⟩
      unfold deadAt
      rw [hH]
      simp only
      rw [Array.getElem?_setIfInBounds, if_neg (Ne.symm hib)]
      exact q1

end

end Go.Eng

namespace Go.Eng
open Go

section
variable {Fr : Fence} {wf w : World} {m : AMap} {H : AHeap} {P : Program} {ρ : Operand → Option Value} {ρ' : Operand → Value}

theorem lenV_le {x : Value} {k : Nat} (h : lenV x = some k) : ∀ k', lenV x = some k' → k ≤ k' := by
  intro k' h'; rw [h] at h'; simp at h'; omega

theorem VRel.slice_inv {m : AMap} {base : Option Addr} {n c : Nat} {s' : Value} (h : VRel m (.slice base n c) s') : ∃ base' c', s' = .slice base' n c' := by
  cases h with
  | slice0 => exact ⟨_, _, rfl⟩
  | slice => exact ⟨_, _, rfl⟩
  | sliceE => exact ⟨_, _, rfl⟩

theorem aappend_run (r : R Fr wf m H w) {argTypes : Array TypeId} {t u ty : TypeId} {d : TypeDesc} (ht : argTypes[0]? = some t) (hu1 : argTypes[1]? = some u) (hd : P.underlying u = some d) (hni : ∀ k, d ≠ .int k)
    {s s' x x' v : Value} {H' : AHeap} (hs : VRel m s s') (hx : VRel m x x') (h : aappend P H t s x = some (v, H')) :
    ∃ m' w' v', (Builtin.append_ argTypes ty #[s', x']).run P w = .ok v' w' ∧ m.pre m' ∧ R Fr wf m' H' w' ∧ VRel m' v v' := by
  unfold aappend at h
  split at h
  case h_2 => simp at h
  rename_i e base n c k he hk
  have hu := elemS_u he
  have hlen := lenV_run (P := P) (w := w) hx hk
  obtain ⟨base', c', rfl⟩ := hs.slice_inv
  by_cases hk0 : k = 0
  · -- nothing is appended
    rw [if_pos hk0] at h
    subst hk0
    simp only [Option.map_eq_some_iff, Prod.mk.injEq] at h
    obtain ⟨sz0, hsz0, rfl, rfl⟩ := h
    have hc : n ≤ c' := by cases hs with
      | slice0 => exact Nat.le_refl _
      | slice _ h1 h2 => omega
      | sliceE => exact Nat.le_refl _
    cases hi : P.info? e with
    | none => simp [sizeT, hi] at hsz0
    | some i =>
    have hsz' : ∀ w, (sizeOf e).run P w = .ok i.size w := fun w => by simp [sizeOf, typeInfo, hi]
    obtain ⟨cs', hf, hl⟩ := firstOf_run (P := P) (sz := i.size) (n := 0) (cs := []) r hx (by
      cases hx <;> simp [lenV] at hk <;> simp [firstOf]) (fun _ _ => Nat.zero_le _)
    cases hl
    refine ⟨m, w, .slice base' n c', ?_, .refl m, r, hs⟩
    simp only [Builtin.append_, ht, hu1, List.getElem?_toArray, List.getElem?_cons_zero, List.getElem?_cons_succ, Sem.run_bind, run_underlying hu, run_underlying hd, Result.andThen_ok, hsz', Sem.run_pure]
    simp only [Bool.false_eq_true, if_false, Sem.run_bind, hlen, Result.andThen_ok, Nat.add_zero, if_pos hc, Bool.not_false, if_true, hf]
    cases base' with
    | none => simp
    | some a => simp [storeCells]
  · rw [if_neg hk0] at h
    split at h
    case h_2 => simp at h
    rename_i sz by_ z hsz hby hz
    split at h
    · simp at h
    rename_i hc1
    split at h
    · simp at h
    rename_i hroom
    split at h
    case h_2 => simp at h
    rename_i old new hold hnew
    split at h
    · simp at h
    rename_i hok
    split at h
    · simp at h
    rename_i hlens
    obtain ⟨hb0, hs0, hzl⟩ : by_ ≠ 0 ∧ sz ≠ 0 ∧ (vcells z).length = sz := by
      refine ⟨fun e => hc1 (.inl e), fun e => hc1 (.inr (.inl e)), ?_⟩
      exact Classical.byContradiction fun e => hc1 (.inr (.inr e))
    have hnl : new.length = k * sz := Classical.byContradiction fun e => hlens (.inl e)
    have hol : old.length = n * sz := Classical.byContradiction fun e => hlens (.inr e)
    simp only [Bool.not_eq_false, Bool.and_eq_true] at hok
    have hroom' : (n + k) * by_ ≤ 140737488355328 := by unfold room at hroom; omega
    cases hi : P.info? e with
    | none => simp [sizeT, hi] at hsz
    | some i =>
    have hib : i.bytes = by_ := by simpa [bytesT, hi] using hby
    have hti := fun w => run_typeInfo' hi w
    obtain ⟨hz1, hz2⟩ := run_zeroValue' hz w.drew
    by_cases hfit : n + k ≤ c'
    · -- in place
      cases hs with
      | slice0 => exfalso; omega
      | sliceE => exfalso; omega
      | @slice b o o' _ _ _ en he1 g1 g2 g3 g4 =>
      simp only at h
      split at h
      case h_2 => simp at h
      rename_i cc e' hH
      split at h
      case isFalse => simp at h
      rename_i hee
      subst hee
      simp only [Option.some.injEq, Prod.mk.injEq] at h
      obtain ⟨rfl, rfl⟩ := h
      obtain ⟨cs', hf, hl⟩ := firstOf_run (P := P) r hx hnew (lenV_le hk)
      have ho : o' = o + en.sh := g3.resolve_right (by omega)
      have hes : en.esz = e' := (r.obj b _ en hH he1).2.1
      have g4' : o' + c' * en.esz ≤ en.csz := g4.resolve_left (by omega)
      have hold' : old = (cc.drop o).take (n * e') ∧ (o + n * e' ≤ cc.length ∨ n * e' = 0) := by
        simp only [firstOf] at hold
        split at hold
        · rename_i h0
          simp at hold; subst hold
          exact ⟨by simp [h0], .inr h0⟩
        · unfold AHeap.cells? at hold
          simp only [hH] at hold
          split at hold
          · rename_i hle
            simp at hold
            exact ⟨hold.symm, .inl hle⟩
          · simp at hold
      obtain ⟨w', m', q1, q2, q3, en', q4, q5, q6, q7, q8⟩ := R.inplace r he1 hH hs0 hold'.1 hold'.2 ho hl hnl hok.1 hfit g4' P
      refine ⟨m', w', .slice (some ⟨en.blk, o', none⟩) (n + k) c', ?_, q2, q3, ?_⟩
      · simp only [Builtin.append_, ht, hu1, List.getElem?_toArray, List.getElem?_cons_zero, List.getElem?_cons_succ, Sem.run_bind, run_underlying hu, run_underlying hd, Result.andThen_ok, run_sizeOf' hsz, Sem.run_pure]
        simp only [Bool.false_eq_true, if_false, Sem.run_bind, hlen, Result.andThen_ok, if_pos hfit, Bool.not_false, if_true, hf, q1, Sem.run_pure]
      · have := VRel.slice (o := 0) (o' := o') (n := n + k) (c := n + k) (c' := c') q4 (Nat.le_refl _) hfit (.inl (by omega)) (.inr (by rw [q8, q7, ← hes]; exact g4'))
        rw [q5] at this
        exact this
    · -- a new row
      have hrd : R Fr wf m H w.drew := r.drew _
      obtain ⟨new', hf, hl⟩ := firstOf_run (P := P) hrd hx hnew (lenV_le hk)
      obtain ⟨old', hfo, hlo⟩ := firstOf_run (P := P) hrd hs hold (fun k' hk' => by simp [lenV] at hk'; omega)
      let cap := grownCap w (n + k) c' e
      have hcap : n + k ≤ cap := grownCap_ge w (n + k) c' e
      have hch : (choose (.appendCap (n + k) c' e)).run P w = .ok cap w.drew := rfl
      let arr : Array Value := (⟨old'⟩ : Array Value) ++ ⟨new'⟩ ++ Builtin.zeroCells z.cells (cap - (n + k))
      have hzs : z.cells.size = sz := by simpa [vcells] using hzl
      have hol' : old'.length = n * sz := by rw [← hlo.length]; exact hol
      have hnl' : new'.length = k * sz := by rw [← hl.length]; exact hnl
      have harr : arr.size = cap * sz := by
        simp only [arr, Array.size_append, List.size_toArray, size_zeroCells, hzs, hol', hnl', ← Nat.add_mul]
        congr 1; omega
      have hmul : (n + k) * sz ≤ cap * sz := Nat.mul_le_mul_right _ hcap
      have hadd : (n + k) * sz = n * sz + k * sz := Nat.add_mul _ _ _
      have hp : Pushed w.drew (w.drew.alloc (.cells arr e)) (.cells arr e) := ⟨rfl, rfl, rfl, rfl⟩
      have htake : arr.toList.take (old ++ new).length = old' ++ new' := by
        have : (old ++ new).length = (old' ++ new').length := by simp [hol, hnl, hol', hnl']
        rw [this]
        simp only [arr, Array.toList_append]
        exact List.take_left
      have hrun : (Builtin.append_ argTypes ty #[.slice base' n c', x']).run P w = .ok (.slice (some ⟨w.heap.size, 0, none⟩) (n + k) cap) (w.drew.alloc (.cells arr e)) := by
        have hnext : ¬ Builtin.nextslicecap (n + k) c' * i.bytes > 2 ^ 48 := by
          have h1 := nextslicecap_le (need := n + k) (old := c') (by omega)
          have h2 := Nat.mul_le_mul_right i.bytes h1
          rw [hib] at h2 ⊢
          have h3 : 2 * (n + k) * by_ = 2 * ((n + k) * by_) := Nat.mul_assoc _ _ _
          have e48 : (2 : Nat) ^ 48 = 281474976710656 := rfl
          rw [e48]
          omega
        have hbz : ¬ (((n + k : Nat) : Int) > IntKind.i64.max ∧ (False ∨ i.bytes = 0)) := by
          rintro ⟨_, h1 | h1⟩
          · exact h1
          · exact hb0 (hib ▸ h1)
        simp only [Builtin.append_, ht, hu1, List.getElem?_toArray, List.getElem?_cons_zero, List.getElem?_cons_succ, Sem.run_bind, run_underlying hu, run_underlying hd, Result.andThen_ok, run_sizeOf' hsz, Sem.run_pure]
        simp only [Bool.false_eq_true, if_false, Sem.run_bind, hlen, Result.andThen_ok, if_neg hfit, Bool.not_false, if_true, hti]
        rw [if_neg hbz]
        simp only [Sem.run_bind, hti, Result.andThen_ok]
        rw [if_neg hnext]
        simp only [Sem.run_bind, Result.andThen_ok, hch, hti, run_askRoom, hfo, hf, hz1, run_newRow', Sem.run_pure]
        rfl
      have hmadeR : R Fr wf (m.push (some ⟨w.heap.size, 0, arr.size, sz⟩)) (Array.push H (.cells (old ++ new) (.rw sz))) (w.drew.alloc (.cells arr e)) := by
        refine hrd.push hp rfl ⟨hrd.fresh, rfl, ⟨arr, e, (0, 0), hp.new, rfl, ?_, ?_⟩, notFrozen_zero (w := w) (cs := arr) (el := e) ⟨rfl, rfl, rfl, rfl⟩⟩
        · simp only [List.length_append, hol, hnl, harr]; omega
        · rw [List.drop_zero, htake]
          exact (hlo.append hl).mono (AMap.pre_push m _).le
      have hv : VRel (m.push (some ⟨w.heap.size, 0, arr.size, sz⟩)) (.slice (some (at0 H.size)) (n + k) (n + k)) (.slice (some ⟨w.heap.size, 0, none⟩) (n + k) cap) := by
        have hh : AMap.has (m.push (some ⟨w.heap.size, 0, arr.size, sz⟩)) H.size ⟨w.heap.size, 0, arr.size, sz⟩ := by rw [← r.size]; exact AMap.has_push m _
        exact .slice hh (Nat.le_refl _) hcap (.inl rfl) (.inr (by simp [harr]))
      cases hs with
      | slice0 =>
        simp only [Option.some.injEq, Prod.mk.injEq] at h
        obtain ⟨rfl, rfl⟩ := h
        exact ⟨_, _, _, hrun, AMap.pre_push m _, hmadeR, hv⟩
      | @sliceE b o a' en he1 =>
        simp only at h
        split at h
        case h_2 => simp at h
        rename_i cc e' hH
        split at h
        case isFalse => simp at h
        simp only [Option.some.injEq, Prod.mk.injEq] at h
        obtain ⟨rfl, rfl⟩ := h
        refine ⟨_, _, _, hrun, AMap.pre_push m _, ?_, hv⟩
        have hd2 : R Fr wf m (deadAt H b) w.drew := hrd.dead b
        refine hd2.push hp rfl ⟨hrd.fresh, rfl, ⟨arr, e, (0, 0), hp.new, rfl, ?_, ?_⟩, notFrozen_zero (w := w) (cs := arr) (el := e) ⟨rfl, rfl, rfl, rfl⟩⟩
        · simp only [List.length_append, hol, hnl, harr]; omega
        · rw [List.drop_zero, htake]
          exact (hlo.append hl).mono (AMap.pre_push m _).le
      | @slice b o o' _ _ _ en he1 g1 g2 g3 g4 =>
        simp only at h
        split at h
        case h_2 => simp at h
        rename_i cc e' hH
        split at h
        case isFalse => simp at h
        simp only [Option.some.injEq, Prod.mk.injEq] at h
        obtain ⟨rfl, rfl⟩ := h
        refine ⟨_, _, _, hrun, AMap.pre_push m _, ?_, hv⟩
        have hd2 : R Fr wf m (deadAt H b) w.drew := hrd.dead b
        refine hd2.push hp rfl ⟨hrd.fresh, rfl, ⟨arr, e, (0, 0), hp.new, rfl, ?_, ?_⟩, notFrozen_zero (w := w) (cs := arr) (el := e) ⟨rfl, rfl, rfl, rfl⟩⟩
        · simp only [List.length_append, hol, hnl, harr]; omega
        · rw [List.drop_zero, htake]
          exact (hlo.append hl).mono (AMap.pre_push m _).le
end

end Go.Eng

namespace Go.Eng
open Go

section
variable {Fr : Fence} {wf w : World} {m : AMap} {H : AHeap} {P : Program} {ρ : Operand → Option Value} {ρ' : Operand → Value}

/-- What an operation's run in the model must be. -/
def HeavyOk (P : Program) (Fr : Fence) (wf : World) (m : AMap) (H : AHeap) (w : World) (run : Result Next) : Out → AHeap → Prop
  | .val v, H' => ∃ m' w', m.pre m' ∧ R Fr wf m' H' w' ∧ ((∃ v', run = .ok (.value v') w' ∧ VRel m' v v') ∨ (run = .ok .skip w' ∧ v = undef))
  | .enter f args, H' => H' = H ∧ ∃ args', LRel m args args' ∧ run = (callFunc f ⟨args'⟩).run P w
  | .round l args, H' => H' = H ∧ ∃ e args', m.has l e ∧ LRel m args args' ∧ run = (Instr.yield e.blk ⟨args'⟩).run P w
  | .panic v, H' => H' = H ∧ ∃ v', VRel m v v' ∧ run = .halt (.panic v') w

theorem execOp_u {P : Program} {w w' : World} {s : Sem Unit} (h : s.run P w = .ok () w') :
    Sem.run P (do s; pure Next.skip) w = .ok .skip w' := by simp [h]

theorem acopy_run (r : R Fr wf m H w) {argTypes : Array TypeId} {t ty : TypeId} (ht : argTypes[0]? = some t)
    {s s' x x' v : Value} {H' : AHeap} (hs : VRel m s s') (hx : VRel m x x') (h : acopy P H t s x = some (v, H')) :
    ∃ w', (Builtin.copy_ argTypes ty #[s', x']).run P w = .ok v w' ∧ R Fr wf m H' w' ∧ VRel m v v := by
  unfold acopy at h
  split at h
  case h_2 => simp at h
  rename_i e base n c k he hk
  have hu := elemS_u he
  obtain ⟨base', c', rfl⟩ := hs.slice_inv
  split at h
  case h_2 => simp at h
  rename_i sz hsz
  have hmin : (if k ≤ n then k else n) = Nat.min k n := by
    by_cases hkn : k ≤ n
    · rw [if_pos hkn]; exact (Nat.min_eq_left hkn).symm
    · rw [if_neg hkn]; exact (Nat.min_eq_right (by omega)).symm
  simp only [hmin] at h
  split at h
  case h_2 => simp at h
  rename_i new hnew
  obtain ⟨new', hf, hl⟩ := firstOf_run (P := P) r hx hnew (fun k' hk' => by rw [hk] at hk'; simp at hk'; subst hk'; exact Nat.min_le_left _ _)
  have hlen := lenV_run (P := P) (w := w) hx hk
  split at h
  · simp at h
  rename_i hlen2
  have hnl : new.length = Nat.min k n * sz := Classical.byContradiction hlen2
  have hrun : ∀ w', (match base' with
      | some a => storeCells a new' 
      | none => pure () : Sem Unit).run P w = .ok () w' → (Builtin.copy_ argTypes ty #[.slice base' n c', x']).run P w = .ok (goInt (Nat.min k n : Nat)) w' := by
    intro w' hst
    simp only [Builtin.copy_, ht, List.getElem?_toArray, List.getElem?_cons_zero, List.getElem?_cons_succ, Sem.run_bind, run_underlying hu, Result.andThen_ok, run_sizeOf' hsz, hlen, hf]
    cases base' with
    | none => simp only [Sem.run_pure] at hst ⊢; simp at hst; subst hst; rfl
    | some a => simp only [Sem.run_bind] at hst ⊢; simp [hst]
  split at h
  · rename_i h0
    simp only [Option.some.injEq, Prod.mk.injEq] at h
    obtain ⟨rfl, rfl⟩ := h
    have hn0 : new' = [] := by
      rw [h0] at hnl
      have := hl.length
      rw [hnl] at this
      exact List.eq_nil_of_length_eq_zero this.symm
    subst hn0
    exact ⟨w, hrun w (by cases base' <;> simp [storeCells]), r, .int _ _⟩
  · rename_i h0
    cases hs with
    | slice0 => simp at h
    | sliceE =>
      exfalso; apply h0
      simp
    | @slice b o o' _ _ _ en he1 g1 g2 g3 g4 =>
      simp only [Option.map_eq_some_iff, Prod.mk.injEq] at h
      obtain ⟨H1, hst, rfl, rfl⟩ := h
      have hmin1 : Nat.min k n ≠ 0 := by intro e; rw [e] at h0; simp at h0
      have : Nat.min k n ≤ n := Nat.min_le_right _ _
      have ho : o' = o + en.sh := g3.resolve_right (by omega)
      subst ho
      obtain ⟨w', q1, q2⟩ := r.store P he1 hl hst
      exact ⟨w', hrun w' q1, q2, .int _ _⟩

theorem map_list {ρ' : Operand → Value} (arr : Array Operand) : arr.map ρ' = ⟨arr.toList.map ρ'⟩ := by apply Array.ext'; simp

theorem aheavy_run {C : Ctx} (r : R Fr wf m H w) (hρ : Operands m ρ ρ') {o : Oper} {out : Out} {H' : AHeap} (h : aheavy C ρ H o = some (out, H')) :
    HeavyOk C.P Fr wf m H w ((execOp ρ' o).run C.P w) out H' := by
  obtain ⟨dst, op, type, pos, after, guard⟩ := o
  unfold aheavy at h
  cases op <;> simp only at h <;> try (simp at h; done)
  case store t a x =>
    split at h
    · rename_i ad v ha hv
      simp only [Option.map_eq_some_iff, Prod.mk.injEq] at h
      obtain ⟨H1, hst, rfl, rfl⟩ := h
      unfold astore at hst
      split at hst
      case h_2 => simp at hst
      rename_i n hn
      split at hst
      case isFalse => simp at hst
      rename_i hlen
      have h1 := hρ _ _ ha
      generalize hcc : ρ' a = va at h1
      cases h1 with
      | ptr he =>
        have hvv := (hρ _ _ hv).cells
        obtain ⟨w', q1, q2⟩ := r.store C.P he hvv hst
        refine ⟨m, w', .refl m, q2, .inr ⟨?_, rfl⟩⟩
        simp only [execOp, hcc]
        refine execOp_u ?_
        have : ¬ (ρ' x).cells.size ≠ n := by
          have : (ρ' x).cells.size = (vcells (ρ' x)).length := by simp [vcells]
          rw [this, ← hvv.length, hlen]; simp
        simp only [Instr.storeAt, Instr.sureAddr, Sem.run_bind, Sem.run_pure, Result.andThen_ok, storeVar, run_sizeOf' hn, if_neg this]
        exact q1
    · simp at h
  case range t x =>
    split at h
    · rename_i s hx hu
      simp only [Option.some.injEq, Prod.mk.injEq] at h
      obtain ⟨rfl, rfl⟩ := h
      have hxx := (hρ _ _ hx).eq_of_free (by rfl)
      have hp : Pushed w (w.alloc (.stringIter s 0)) (.stringIter s 0) := ⟨rfl, rfl, rfl, rfl⟩
      refine ⟨m.push (some ⟨w.heap.size, 0, 0, 0⟩), w.alloc (.stringIter s 0), AMap.pre_push m _, r.push hp rfl ⟨r.fresh, rfl, hp.new⟩, .inl ⟨.pointer (some ⟨w.heap.size, 0, none⟩), ?_, ?_⟩⟩
      · simp only [execOp, hxx]
        refine execOp_v ?_
        have hu' : C.P.underlying t = some .string := hu
        simp only [Instr.range, Sem.run_bind, run_underlying hu', Result.andThen_ok, Sem.run_pure]
        rfl
      · have := VRel.ptr (o := 0) (by rw [← r.size]; exact AMap.has_push m ⟨w.heap.size, 0, 0, 0⟩ : AMap.has (m.push (some ⟨w.heap.size, 0, 0, 0⟩)) H.size _)
        simpa [at0] using this
    · simp at h
  case next it isS =>
    split at h
    · rename_i ad hit
      split at h
      · rename_i s pos hH hoff
        have h1 := hρ _ _ hit
        generalize hcc : ρ' it = vi at h1
        cases h1 with
        | @ptr b o en he =>
          simp only at hoff hH
          subst hoff
          obtain ⟨hnf, hsh, hw⟩ := r.obj b _ en hH he
          have hlt : en.blk < w.heap.size := (Array.getElem?_eq_some_iff.1 hw).1
          have hbH : b < H.size := (Array.getElem?_eq_some_iff.1 hH).1
          split at h
          · rename_i hpos
            simp only [Option.some.injEq, Prod.mk.injEq] at h
            obtain ⟨rfl, rfl⟩ := h
            refine ⟨m, { w with heap := w.heap.setIfInBounds en.blk (.stringIter s (pos + (Utf8.decode s pos).2)) }, .refl m, ?_, .inl ⟨.tuple #[.bool true, goInt pos, .int .i32 (Utf8.decode s pos).1], ?_, .tuple (.cons (.bool _) (.cons (.int _ _) (.cons (.int _ _) .nil)))⟩⟩
            · refine r.upd (.refl m) (by simp [r.size]) rfl rfl rfl (by simp) (fun k hk => ?_) ?_
              · show (w.heap.setIfInBounds _ _)[k]? = _
                rw [Array.getElem?_setIfInBounds, if_neg (by rintro rfl; exact hnf hk)]
              · intro i x e' hi he'
                by_cases hib : i = b
                · subst hib
                  obtain rfl := he.inj he'
                  simp [hbH] at hi; subst hi
                  refine .inr ⟨⟨hnf, hsh, ?_⟩, fun _ j x' e' hj hj1 hj2 hj3 => ?_⟩
                  · show (w.heap.setIfInBounds _ _)[en.blk]? = _
                    simp [hlt]
                  · rw [Array.getElem?_setIfInBounds, if_neg (Ne.symm hj)] at hj1
                    exact r.inj i j _ x' en e' (Ne.symm hj) hH hj1 rfl hj2 he hj3
                · rw [Array.getElem?_setIfInBounds, if_neg (Ne.symm hib)] at hi
                  refine .inl ⟨hi, he', fun hl => ?_⟩
                  have := r.inj i b x _ e' en hib hi hH hl rfl he' he
                  show (w.heap.setIfInBounds _ _)[e'.blk]? = _
                  rw [Array.getElem?_setIfInBounds, if_neg (Ne.symm this)]
            · simp only [execOp, hcc, hsh, Nat.add_zero]
              refine execOp_v ?_
              simp only [Instr.next, Sem.run_bind, getObj, Sem.run, hw, Result.andThen_ok, if_pos hpos, setObj, Sem.run_pure]
          · rename_i hpos
            simp only [Option.some.injEq, Prod.mk.injEq] at h
            obtain ⟨rfl, rfl⟩ := h
            refine ⟨m, w, .refl m, r, .inl ⟨.tuple #[.bool false], ?_, .tuple (.cons (.bool _) .nil)⟩⟩
            simp only [execOp, hcc, hsh, Nat.add_zero]
            refine execOp_v ?_
            simp only [Instr.next, Sem.run_bind, getObj, Sem.run, hw, Result.andThen_ok, if_neg hpos, Sem.run_pure]
      · simp at h
    · simp at h
  case panic x =>
    split at h
    · rename_i t v hx
      simp only [Option.some.injEq, Prod.mk.injEq] at h
      obtain ⟨rfl, rfl⟩ := h
      have h1 := hρ _ _ hx
      generalize hcc : ρ' x = vx at h1
      cases h1 with
      | iface _ hv =>
        refine ⟨rfl, _, .iface _ hv, ?_⟩
        simp [execOp, hcc, Instr.panic]
    · simp at h
  case call c =>
    obtain ⟨callee, args, argTypes⟩ := c
    cases callee with
    | value f =>
      simp only at h
      split at h
      · rename_i g first cap vs hf hm
        simp only [Option.some.injEq, Prod.mk.injEq] at h
        obtain ⟨rfl, rfl⟩ := h
        have h1 := hρ _ _ hf
        have hv := mapOpt_rel hρ hm
        generalize hcc : ρ' f = vf at h1
        cases h1 with
        | @func _ _ _ a' _ c' hfr h2 h3 =>
          cases hfr
          refine ⟨rfl, a' ++ args.toList.map ρ' ++ c', (h2.append hv).append h3, ?_⟩
          simp only [execOp, resolve, hcc, Deferred.ofValue, map_list]
          simp [invoke]
      · rename_i l first cap vs hf hm
        simp only [Option.some.injEq, Prod.mk.injEq] at h
        obtain ⟨rfl, rfl⟩ := h
        have h1 := hρ _ _ hf
        have hv := mapOpt_rel hρ hm
        generalize hcc : ρ' f = vf at h1
        cases h1 with
        | @func _ _ _ a' _ c' hfr h2 h3 =>
          cases hfr with
          | yield he =>
            refine ⟨rfl, _, a' ++ args.toList.map ρ', he, h2.append hv, ?_⟩
            simp only [execOp, resolve, hcc, Deferred.ofValue, map_list]
            simp [invoke]
      · simp at h
    | invoke rc name =>
      simp only at h
      split at h
      · rename_i t v vs hr hm
        split at h
        · rename_i i hi
          split at h
          · rename_i mth hfind
            have h1 := hρ _ _ hr
            have hv := mapOpt_rel hρ hm
            generalize hcc : ρ' rc = vr at h1
            cases h1 with
            | @iface _ _ v' hvv =>
            have hfind' : i.methods.find? (fun m => m.name == name) = some mth := by
              rw [← Array.find?_toList]; exact hfind
            have hrun : ∀ recv, (method (C.P.types.size + Made.depth) t v' name).run C.P w = .ok recv w →
                (execOp ρ' ⟨dst, .call { callee := .invoke rc name, args, argTypes }, type, pos, after, guard⟩).run C.P w = (callFunc recv.1 ⟨recv.2 :: args.toList.map ρ'⟩).run C.P w := by
              intro recv hrec
              simp only [execOp, resolve, hcc, map_list]
              have e1 : ((#[Value.iface t v'] ++ (⟨args.toList.map ρ'⟩ : Array Value)) : Array Value).extract 1 (#[Value.iface t v'] ++ (⟨args.toList.map ρ'⟩ : Array Value)).size = ⟨args.toList.map ρ'⟩ := by
                apply Array.ext'; simp [List.extract_eq_take_drop]
                exact List.take_of_length_le (by simp)
              have e0 : (#[Value.iface t v'] ++ (⟨args.toList.map ρ'⟩ : Array Value))[0]? = some (Value.iface t v') := by simp
              simp only [Sem.run_bind, Sem.run_pure, Result.andThen_ok, invoke, e0, e1, callMethod, run_program, hrec]
              have e2 : (#[recv.2] ++ (⟨args.toList.map ρ'⟩ : Array Value)) = ⟨recv.2 :: args.toList.map ρ'⟩ := by apply Array.ext'; simp
              rw [e2]
            have hdep : ∃ k, C.P.types.size + Made.depth = k + 1 := ⟨C.P.types.size + Made.depth - 1, by have h0 : 0 < Made.depth := (by decide); omega⟩
            obtain ⟨kk, hkk⟩ := hdep
            split at h
            · rename_i g hpath hfn
              split at h
              · rename_i pe a hu
                simp only [Option.some.injEq, Prod.mk.injEq] at h
                obtain ⟨rfl, rfl⟩ := h
                have hu' : C.P.underlying t = some (.pointer pe) := hu
                refine ⟨rfl, v' :: args.toList.map ρ', .cons hvv hv, ?_⟩
                rw [hrun (g, v')]
                rw [hkk]
                simp only [method, Sem.run_bind, run_typeInfo' hi, Result.andThen_ok, hfind', hpath, follow, Sem.run_pure, hfn, receiverAt, run_underlying hu', Place.get]
              · simp at h
            · rename_i g hpath hfn
              split at h
              · simp at h
              · rename_i d hnp hu
                simp only [Option.some.injEq, Prod.mk.injEq] at h
                obtain ⟨rfl, rfl⟩ := h
                have hu' : C.P.underlying t = some d := hu
                refine ⟨rfl, v' :: args.toList.map ρ', .cons hvv hv, ?_⟩
                rw [hrun (g, v')]
                rw [hkk]
                simp only [method, Sem.run_bind, run_typeInfo' hi, Result.andThen_ok, hfind', hpath, follow, Sem.run_pure, hfn, receiverAt, run_underlying hu']
                cases d <;> first | rfl | exact absurd rfl (hnp _)
              · simp at h
            · simp at h
          · simp at h
        · simp at h
      · simp at h
    | builtin b =>
      cases b <;> simp only at h <;> try (simp at h; done)
      case append =>
        split at h
        · rename_i s x t hm ht
          split at h
          · rename_i u hu1
            split at h
            · simp at h
            · rename_i d hni hd
              simp only [Option.map_eq_some_iff, Prod.mk.injEq] at h
              obtain ⟨⟨v, H1⟩, hap, rfl, rfl⟩ := h
              have hv := mapOpt_rel hρ hm
              have hl : ∃ s' x', args.toList.map ρ' = [s', x'] ∧ VRel m s s' ∧ VRel m x x' := by
                generalize args.toList.map ρ' = l at hv
                cases hv with | cons h1 h2 => cases h2 with | cons h3 h4 => cases h4; exact ⟨_, _, rfl, h1, h3⟩
              obtain ⟨s', x', hl, hs, hx⟩ := hl
              obtain ⟨m', w', v', q1, q2, q3, q4⟩ := aappend_run (P := C.P) (ty := type) r ht hu1 hd (fun k e => hni k (by rw [e])) hs hx hap
              refine ⟨m', w', q2, q3, .inl ⟨v', ?_, q4⟩⟩
              simp only [execOp]
              rw [invoke_builtin (b := .append) rfl]
              simp only [builtin, map_list, hl]
              exact execOp_v q1
            · simp at h
          · simp at h
        · simp at h
      case copy =>
        split at h
        · rename_i s x t hm ht
          simp only [Option.map_eq_some_iff, Prod.mk.injEq] at h
          obtain ⟨⟨v, H1⟩, hap, rfl, rfl⟩ := h
          have hv := mapOpt_rel hρ hm
          have hl : ∃ s' x', args.toList.map ρ' = [s', x'] ∧ VRel m s s' ∧ VRel m x x' := by
            generalize args.toList.map ρ' = l at hv
            cases hv with | cons h1 h2 => cases h2 with | cons h3 h4 => cases h4; exact ⟨_, _, rfl, h1, h3⟩
          obtain ⟨s', x', hl, hs, hx⟩ := hl
          obtain ⟨w', q1, q3, q4⟩ := acopy_run (P := C.P) (ty := type) r ht hs hx hap
          refine ⟨m, w', .refl m, q3, .inl ⟨v, ?_, q4⟩⟩
          simp only [execOp]
          rw [invoke_builtin (b := .copy) rfl]
          simp only [builtin, map_list, hl]
          exact execOp_v q1
        · simp at h
end

end Go.Eng

namespace Go.Eng
open Go

def GRel (m : AMap) (G : List (Nat × Nat)) : Prop := ∀ g b, lookupG G g = some b → ∃ e, m.has b e ∧ e.blk = g ∧ e.sh = 0

theorem GRel.mono {m m' : AMap} {G : List (Nat × Nat)} (h : GRel m G) (hm : m.le m') : GRel m' G :=
  fun g b hb => let ⟨e, h1, h2⟩ := h g b hb; ⟨e, hm.has _ _ h1, h2⟩

theorem aeval_rel {m : AMap} {G : List (Nat × Nat)} (hg : GRel m G) {tmps : List Value} {a : Act} (ht : LRel m tmps a.tmps.toList) : Operands m (aeval G tmps) a.eval := by
  intro x v h
  cases x with
  | tmp t =>
    obtain ⟨v', h1, h2⟩ := ht.get h
    have : a.tmps.getD t undef = v' := by
      rw [Array.getD_eq_getD_getElem?]
      have : a.tmps[t]? = some v' := by simpa using h1
      simp [this]
    simpa [Act.eval, this] using h2
  | const c =>
    simp only [aeval] at h
    split at h
    · rename_i hf; simp at h; subst h; exact .of_free hf
    · simp at h
  | global g =>
    simp only [aeval] at h
    split at h
    · rename_i b hb
      simp at h; subst h
      obtain ⟨e, h1, h2, h3⟩ := hg g b hb
      have := VRel.ptr (o := 0) h1
      rw [h2, h3] at this
      exact this
    · simp at h
  | func f => simp [aeval] at h; subst h; exact .func (.func f) .nil .nil

/-- The machine goes from the head of operation o to its end. -/
def OpSteps (P : Program) (o : Oper) (ρ' : Operand → Value) (w : World) (v' : Value) (w' : World) : Prop :=
  ∀ (b : Frame) (a : Act) (ops : Array Oper) (i : Nat) (rest : List Nat) (k : List Item) (cs : List Frame), b.kind = .normal → ops[i]? = some o → Region.wanted o (yielded ops a.tmps) = true → a.eval = ρ' →
    Steps P (lone (b.atR a (.inRegion ops (i :: rest) :: k)) cs w) (lone (b.atR (a.put o.dst v') (.inRegion ops rest :: k)) cs w')

/-- .. or leaves by a panic. -/
def OpPanics (P : Program) (o : Oper) (ρ' : Operand → Value) (w : World) (v' : Value) (w' : World) : Prop :=
  ∀ (b : Frame) (a : Act) (ops : Array Oper) (i : Nat) (rest : List Nat) (k : List Item) (cs : List Frame), b.kind = .normal → ops[i]? = some o → Region.wanted o (yielded ops a.tmps) = true → a.eval = ρ' →
    ∃ todo, Steps P (lone (b.atR a (.inRegion ops (i :: rest) :: k)) cs w) (lone { b.atR a todo with mode := .panicking [{ v := v', recovered := false }] } cs w')

/-- What is said of a call. -/
def CallSpec (C : Ctx) (f : FuncId) (args : List Value) (H : AHeap) : Rep → Prop
  | .ret v H' => ∀ (Fr : Fence) (wf : World) (m : AMap) (w : World) (args' : List Value), R Fr wf m H w → GRel m C.G → LRel m args args' →
      ∃ m' w' v', m.pre m' ∧ R Fr wf m' H' w' ∧ VRel m' v v' ∧
        ((callFunc f ⟨args'⟩).run C.P w = .ok (.value v') w' ∨
         ((callFunc f ⟨args'⟩).run C.P w = .ok (.enter f ⟨args'⟩) w ∧ ∀ cs, ∃ fr : Frame, Steps C.P (lone (Frame.enter C.P f ⟨args'⟩ .normal) cs w) (lone fr cs w') ∧ fr.fn = f ∧ fr.leaving C.P w' (.returned v')))
  | .panicked v H' => ∀ (Fr : Fence) (wf : World) (m : AMap) (w : World) (args' : List Value), R Fr wf m H w → GRel m C.G → LRel m args args' →
      ∃ m' w' v', m.pre m' ∧ R Fr wf m' H' w' ∧ VRel m' v v' ∧
        (callFunc f ⟨args'⟩).run C.P w = .ok (.enter f ⟨args'⟩) w ∧ ∀ cs, ∃ fr : Frame, Steps C.P (lone (Frame.enter C.P f ⟨args'⟩ .normal) cs w) (lone fr cs w') ∧ fr.fn = f ∧ fr.leaving C.P w' (.panicked [{ v := v', recovered := false }])
  | .code _ _ => False

/-- What is said of a round of a range over a function. -/
def RoundSpec (C : Ctx) (l : Nat) (args : List Value) (H : AHeap) : Rep → Prop
  | .ret v H' => ∀ (Fr : Fence) (wf : World) (m : AMap) (w : World) (args' : List Value) (e : MEnt), R Fr wf m H w → GRel m C.G → LRel m args args' → m.has l e →
      ∃ m' w' v', m.pre m' ∧ R Fr wf m' H' w' ∧ VRel m' v v' ∧ ∃ fn tmps assign body, (Instr.yield e.blk ⟨args'⟩).run C.P w = .ok (.round e.blk fn tmps assign body) w ∧
        ∀ c cs, Steps C.P (lone (Frame.round e.blk fn tmps assign body .normal) (c :: cs) w) (lone (c.finish v') cs w')
  | .panicked v H' => ∀ (Fr : Fence) (wf : World) (m : AMap) (w : World) (args' : List Value) (e : MEnt), R Fr wf m H w → GRel m C.G → LRel m args args' → m.has l e →
      ∃ m' w' v', m.pre m' ∧ R Fr wf m' H' w' ∧ VRel m' v v' ∧ ∃ fn tmps assign body, (Instr.yield e.blk ⟨args'⟩).run C.P w = .ok (.round e.blk fn tmps assign body) w ∧
        ∀ c cs, Steps C.P (lone (Frame.round e.blk fn tmps assign body .normal) (c :: cs) w) (lone (c.raise [{ v := v', recovered := false }]) cs w')
  | .code _ _ => False

section steps
variable {P : Program} {o : Oper} {ρ' : Operand → Value} {w w' : World}

theorem opSteps_value {v : Value} (h : (execOp ρ' o).run P w = .ok (.value v) w') (hd : ∀ c, o.op ≠ .defer c) : OpSteps P o ρ' w v w' := by
  intro b a ops i rest k cs hk ho hw he
  refine .one (step_lone_go ?_)
  rw [stepGR_op ho hw, Oper.semAt_eq _ _ _ hd, he]
  have hfin : ∀ v, (b.atR a (.inRegion ops (i :: rest) :: k)).finish v = b.atR (a.put o.dst v) (.inRegion ops rest :: k) := by
    intro v; rw [Frame.finish_atR, ho]; rfl
  simp [stepG.apply, h, hfin]

theorem opSteps_skip (h : (execOp ρ' o).run P w = .ok .skip w') (hd : ∀ c, o.op ≠ .defer c) : OpSteps P o ρ' w undef w' := by
  intro b a ops i rest k cs hk ho hw he
  refine .one (step_lone_go ?_)
  rw [stepGR_op ho hw, Oper.semAt_eq _ _ _ hd, he]
  have hfin : ∀ v, (b.atR a (.inRegion ops (i :: rest) :: k)).finish v = b.atR (a.put o.dst v) (.inRegion ops rest :: k) := by
    intro v; rw [Frame.finish_atR, ho]; rfl
  simp [stepG.apply, h, hfin]

theorem opPanics_now {v : Value} (h : (execOp ρ' o).run P w = .halt (.panic v) w') (hd : ∀ c, o.op ≠ .defer c) : OpPanics P o ρ' w v w' := by
  intro b a ops i rest k cs hk ho hw he
  refine ⟨.inRegion ops (i :: rest) :: k, .one (step_lone_go ?_)⟩
  rw [stepGR_op ho hw, Oper.semAt_eq _ _ _ hd, he]
  simp [stepG.apply, h, Frame.raise_atR]

theorem opSteps_enter {f : FuncId} {args : Array Value} {v : Value} (h : (execOp ρ' o).run P w = .ok (.enter f args) w) (hd : ∀ c, o.op ≠ .defer c)
    (hc : ∀ cs, ∃ fr : Frame, Steps P (lone (Frame.enter P f args .normal) cs w) (lone fr cs w') ∧ fr.fn = f ∧ fr.leaving P w' (.returned v)) : OpSteps P o ρ' w v w' := by
  intro b a ops i rest k cs hk ho hw he
  have hfin : ∀ v, (b.atR a (.inRegion ops (i :: rest) :: k)).finish v = b.atR (a.put o.dst v) (.inRegion ops rest :: k) := by
    intro v; rw [Frame.finish_atR, ho]; rfl
  obtain ⟨fr, hs, _, hl⟩ := hc (b.atR a (.inRegion ops (i :: rest) :: k) :: cs)
  have henter : step P (lone (b.atR a (.inRegion ops (i :: rest) :: k)) cs w) = .next (lone (Frame.enter P f args .normal) (b.atR a (.inRegion ops (i :: rest) :: k) :: cs) w) := by
    refine step_lone_go ?_
    rw [stepGR_op ho hw, Oper.semAt_eq _ _ _ hd, he]
    simp [stepG.apply, h, Frame.atR]
  refine .head henter (hs.trans (.one ?_))
  rw [← hfin]
  exact step_leave_returned hl

theorem opPanics_enter {f : FuncId} {args : Array Value} {v : Value} (h : (execOp ρ' o).run P w = .ok (.enter f args) w) (hd : ∀ c, o.op ≠ .defer c)
    (hc : ∀ cs, ∃ fr : Frame, Steps P (lone (Frame.enter P f args .normal) cs w) (lone fr cs w') ∧ fr.fn = f ∧ fr.leaving P w' (.panicked [{ v, recovered := false }])) : OpPanics P o ρ' w v w' := by
  intro b a ops i rest k cs hk ho hw he
  obtain ⟨fr, hs, _, hl⟩ := hc (b.atR a (.inRegion ops (i :: rest) :: k) :: cs)
  have henter : step P (lone (b.atR a (.inRegion ops (i :: rest) :: k)) cs w) = .next (lone (Frame.enter P f args .normal) (b.atR a (.inRegion ops (i :: rest) :: k) :: cs) w) := by
    refine step_lone_go ?_
    rw [stepGR_op ho hw, Oper.semAt_eq _ _ _ hd, he]
    simp [stepG.apply, h, Frame.atR]
  refine ⟨.inRegion ops (i :: rest) :: k, .head henter (hs.trans (.one ?_))⟩
  rw [← Frame.raise_atR]
  exact step_leave_panicked hl

theorem opSteps_round {l : Nat} {fn : FuncId} {tmps : Array Value} {assign body : Code} {v : Value} (h : (execOp ρ' o).run P w = .ok (.round l fn tmps assign body) w) (hd : ∀ c, o.op ≠ .defer c)
    (hc : ∀ c cs, Steps P (lone (Frame.round l fn tmps assign body .normal) (c :: cs) w) (lone (c.finish v) cs w')) : OpSteps P o ρ' w v w' := by
  intro b a ops i rest k cs hk ho hw he
  have hfin : ∀ v, (b.atR a (.inRegion ops (i :: rest) :: k)).finish v = b.atR (a.put o.dst v) (.inRegion ops rest :: k) := by
    intro v; rw [Frame.finish_atR, ho]; rfl
  have henter : step P (lone (b.atR a (.inRegion ops (i :: rest) :: k)) cs w) = .next (lone (Frame.round l fn tmps assign body .normal) (b.atR a (.inRegion ops (i :: rest) :: k) :: cs) w) := by
    refine step_lone_go ?_
    rw [stepGR_op ho hw, Oper.semAt_eq _ _ _ hd, he]
    simp [stepG.apply, h]
  refine .head henter ?_
  rw [← hfin]
  exact hc _ cs

theorem opPanics_round {l : Nat} {fn : FuncId} {tmps : Array Value} {assign body : Code} {v : Value} (h : (execOp ρ' o).run P w = .ok (.round l fn tmps assign body) w) (hd : ∀ c, o.op ≠ .defer c)
    (hc : ∀ c cs, Steps P (lone (Frame.round l fn tmps assign body .normal) (c :: cs) w) (lone (c.raise [{ v, recovered := false }]) cs w')) : OpPanics P o ρ' w v w' := by
  intro b a ops i rest k cs hk ho hw he
  have henter : step P (lone (b.atR a (.inRegion ops (i :: rest) :: k)) cs w) = .next (lone (Frame.round l fn tmps assign body .normal) (b.atR a (.inRegion ops (i :: rest) :: k) :: cs) w) := by
    refine step_lone_go ?_
    rw [stepGR_op ho hw, Oper.semAt_eq _ _ _ hd, he]
    simp [stepG.apply, h]
  refine ⟨.inRegion ops (i :: rest) :: k, .head henter ?_⟩
  rw [← Frame.raise_atR]
  exact hc _ cs
end steps

end Go.Eng

namespace Go.Eng
open Go

/-- What is known of the level below. -/
structure RecOk (C : Ctx) (rec : Req → Option Rep) : Prop where
  call : ∀ f args H rep, rec (.call f args H) = some rep → CallSpec C f args H rep
  round : ∀ l args H rep, rec (.round l args H) = some rep → RoundSpec C l args H rep

theorem not_defer {C : Ctx} {rec : Req → Option Rep} {at_ : Option Nat} {o : Oper} {ρ : Operand → Option Value} {H : AHeap} {x : Bool × Value × AHeap}
    (h : aout C rec at_ o ρ H = some x) : ∀ c, o.op ≠ .defer c := by
  intro c hc
  obtain ⟨dst, op, type, pos, after, guard⟩ := o
  simp only at hc
  subst hc
  simp [aout, isAlloc, heavy, alight] at h

section
variable {Fr : Fence} {wf w : World} {m : AMap} {H H' : AHeap} {C : Ctx} {rec : Req → Option Rep} {ρ : Operand → Option Value} {ρ' : Operand → Value} {o : Oper} {v : Value} {at_ : Option Nat}

theorem aout_val (hrec : RecOk C rec) (r : R Fr wf m H w) (hg : GRel m C.G) (hρ : Operands m ρ ρ') (hat : isAlloc C.P o = true → at_ = none)
    (h : aout C rec at_ o ρ H = some (true, v, H')) :
    ∃ m' w' v', m.pre m' ∧ R Fr wf m' H' w' ∧ VRel m' v v' ∧ OpSteps C.P o ρ' w v' w' := by
  have hd := not_defer h
  unfold aout at h
  split at h
  · rename_i hal
    split at h
    case h_2 => simp at h
    rename_i nw hnw
    obtain ⟨v', w', e, y, hrun, hm⟩ := aalloc_run r hρ hnw
    cases at_ with
    | none =>
      simp only [Option.some.injEq, Prod.mk.injEq, true_and] at h
      obtain ⟨rfl, rfl⟩ := h
      refine ⟨m.push (some e), w', v', AMap.pre_push m _, r.push hm.pushed hm.blk (hm.obj _ (AMap.pre_push m _).le), hm.val _ _ (by rw [← r.size]; exact AMap.has_push m e), opSteps_value hrun hd⟩
    | some id => exact absurd (hat hal) (by simp)
  · split at h
    · split at h
      · rename_i v1 H1 hh
        simp only [Option.some.injEq, Prod.mk.injEq, true_and] at h
        obtain ⟨rfl, rfl⟩ := h
        obtain ⟨m', w', q1, q2, q3⟩ := aheavy_run r hρ hh
        rcases q3 with ⟨v', q3, q4⟩ | ⟨q3, rfl⟩
        · exact ⟨m', w', v', q1, q2, q4, opSteps_value q3 hd⟩
        · exact ⟨m', w', undef, q1, q2, .undef, opSteps_skip q3 hd⟩
      · simp at h
      · rename_i f args H1 hh
        obtain ⟨rfl, args', ha, hrun⟩ := aheavy_run r hρ hh
        split at h
        · rename_i v1 H2 hr
          simp only [Option.some.injEq, Prod.mk.injEq, true_and] at h
          obtain ⟨rfl, rfl⟩ := h
          obtain ⟨m', w', v', q1, q2, q3, q4⟩ := hrec.call _ _ _ _ hr Fr wf m w args' r hg ha
          refine ⟨m', w', v', q1, q2, q3, ?_⟩
          rcases q4 with q4 | ⟨q4, q5⟩
          · exact opSteps_value (hrun.trans q4) hd
          · exact opSteps_enter (hrun.trans q4) hd q5
        · simp at h
        · simp at h
      · rename_i l args H1 hh
        obtain ⟨rfl, e, args', he, ha, hrun⟩ := aheavy_run r hρ hh
        split at h
        · rename_i v1 H2 hr
          simp only [Option.some.injEq, Prod.mk.injEq, true_and] at h
          obtain ⟨rfl, rfl⟩ := h
          obtain ⟨m', w', v', q1, q2, q3, fn, tmps, assign, body, q4, q5⟩ := hrec.round _ _ _ _ hr Fr wf m w args' e r hg ha he
          exact ⟨m', w', v', q1, q2, q3, opSteps_round (hrun.trans q4) hd q5⟩
        · simp at h
        · simp at h
      · simp at h
    · split at h
      · rename_i v1 hl
        simp only [Option.some.injEq, Prod.mk.injEq, true_and] at h
        obtain ⟨rfl, rfl⟩ := h
        obtain ⟨v', q1, q2⟩ := alight_run r hρ hl
        exact ⟨m, w, v', .refl m, r, q2, opSteps_value q1 hd⟩
      · simp at h

theorem aout_panic (hrec : RecOk C rec) (r : R Fr wf m H w) (hg : GRel m C.G) (hρ : Operands m ρ ρ')
    (h : aout C rec at_ o ρ H = some (false, v, H')) :
    ∃ m' w' v', m.pre m' ∧ R Fr wf m' H' w' ∧ VRel m' v v' ∧ OpPanics C.P o ρ' w v' w' := by
  have hd := not_defer h
  unfold aout at h
  split at h
  · split at h
    case h_2 => simp at h
    cases at_ with
    | none => simp at h
    | some id =>
      simp only at h
      split at h <;> simp at h
  · split at h
    · split at h
      · simp at h
      · rename_i v1 H1 hh
        simp only [Option.some.injEq, Prod.mk.injEq, true_and] at h
        obtain ⟨rfl, rfl⟩ := h
        obtain ⟨rfl, v', q1, q2⟩ := aheavy_run r hρ hh
        exact ⟨m, w, v', .refl m, r, q1, opPanics_now q2 hd⟩
      · rename_i f args H1 hh
        obtain ⟨rfl, args', ha, hrun⟩ := aheavy_run r hρ hh
        split at h
        · simp at h
        · rename_i v1 H2 hr
          simp only [Option.some.injEq, Prod.mk.injEq, true_and] at h
          obtain ⟨rfl, rfl⟩ := h
          obtain ⟨m', w', v', q1, q2, q3, q4, q5⟩ := hrec.call _ _ _ _ hr Fr wf m w args' r hg ha
          exact ⟨m', w', v', q1, q2, q3, opPanics_enter (hrun.trans q4) hd q5⟩
        · simp at h
      · rename_i l args H1 hh
        obtain ⟨rfl, e, args', he, ha, hrun⟩ := aheavy_run r hρ hh
        split at h
        · simp at h
        · rename_i v1 H2 hr
          simp only [Option.some.injEq, Prod.mk.injEq, true_and] at h
          obtain ⟨rfl, rfl⟩ := h
          obtain ⟨m', w', v', q1, q2, q3, fn, tmps, assign, body, q4, q5⟩ := hrec.round _ _ _ _ hr Fr wf m w args' e r hg ha he
          exact ⟨m', w', v', q1, q2, q3, opPanics_round (hrun.trans q4) hd q5⟩
        · simp at h
      · simp at h
    · split at h <;> simp at h
end

/-- A frame's state: what the interpreter holds, and what the machine's activation holds. -/
inductive DRel (m : AMap) : List Nat → List Deferred → Prop
  | nil : DRel m [] []
  | cons {d : Nat} {e : MEnt} {ds : List Nat} {ds' : List Deferred} : m.has d e → DRel m ds ds' → DRel m (d :: ds) ({ target := .collected e.blk, args := #[] } :: ds')

theorem DRel.mono {m m' : AMap} (h : m.le m') {d : List Nat} {d' : List Deferred} (x : DRel m d d') : DRel m' d d' := by
  induction x with
  | nil => exact .nil
  | cons h1 _ ih => exact .cons (h.has _ _ h1) ih

structure SRel (C : Ctx) (Fr : Fence) (wf : World) (m : AMap) (s : ASt) (w : World) (a : Act) : Prop where
  r : R Fr wf m s.H w
  g : GRel m C.G
  tmps : LRel m s.tmps a.tmps.toList
  dfs : DRel m s.dfs a.defers

theorem put_toList (a : Act) (d : Option Tmp) (v : Value) : (a.put d v).tmps.toList = (match d with | some d => a.tmps.toList.set d v | none => a.tmps.toList) := by
  cases d <;> simp [Act.put]

theorem put_defers (a : Act) (d : Option Tmp) (v : Value) : (a.put d v).defers = a.defers := by
  cases d <;> rfl

theorem SRel.put {C : Ctx} {Fr : Fence} {wf w w' : World} {m m' : AMap} {s : ASt} {a : Act} (h : SRel C Fr wf m s w a) (hm : m.le m') {H' : AHeap} (r' : R Fr wf m' H' w') {v v' : Value} (hv : VRel m' v v') (d : Option Tmp) :
    SRel C Fr wf m' (s.put d v H') w' (a.put d v') := by
  refine ⟨?_, h.g.mono hm, ?_, ?_⟩
  · cases d <;> exact r'
  · rw [put_toList]
    cases d with
    | none => exact h.tmps.mono hm
    | some d => exact (h.tmps.mono hm).set d hv
  · rw [put_defers]
    cases d <;> exact h.dfs.mono hm

theorem awanted_rel {m : AMap} {ops : Array Oper} {o : Oper} {tmps : List Value} {tmps' : Array Value} (ht : LRel m tmps tmps'.toList) : Region.wanted o (yielded ops tmps') = awanted ops o tmps := by
  unfold Region.wanted awanted
  cases hgd : o.guard with
  | none => rfl
  | some p =>
    obtain ⟨j, want⟩ := p
    simp only
    unfold yielded
    cases hd : (ops[j]?).bind (·.dst) with
    | none => simp
    | some d =>
      simp only [Option.bind_some]
      cases hv : tmps[d]? with
      | none =>
        have : tmps'[d]? = none := by
          have := LRel.map_get _ _ ht d hv
          simpa using this
        simp [this]
      | some v =>
        obtain ⟨v', h1, h2⟩ := ht.get hv
        have h1' : tmps'[d]? = some v' := by simpa using h1
        rw [h1']
        cases h2 <;> simp
        all_goals (cases want <;> rename_i b <;> cases b <;> rfl)

end Go.Eng

namespace Go.Eng
open Go

def SameFor (j : Code) (k1 k : List Item) : Prop :=
  match j with
  | .exit id => exitTo id k1 = exitTo id k
  | .goto l => gotoIn l k1 = gotoIn l k
  | .ret => True
  | _ => False

def Good (fn : FuncId) (ro : Option Nat) (b : Frame) : Prop := b.kind = .normal ∧ b.fn = fn ∧ b.roundOf = ro

def RdRel (m : AMap) : Option Nat → Option Nat → Prop
  | none, none => True
  | some l, some l' => ∃ e, m.has l e ∧ e.blk = l'
  | _, _ => False

theorem RdRel.mono {m m' : AMap} (h : m.le m') {a b : Option Nat} (x : RdRel m a b) : RdRel m' a b := by
  cases a <;> cases b <;> first | exact x | exact x.elim fun e he => ⟨e, h.has _ _ he.1, he.2⟩

/-- From a start the machine comes to an exit, with the state that the interpreter tells. -/
def Comes (C : Ctx) (Fr : Fence) (wf : World) (m : AMap) (fn : FuncId) (ro : Option Nat) (start : Frame → List Item → List Frame → Machine) (e : AExit) (s' : ASt) : Prop :=
  ∃ m' w' a', m.pre m' ∧ match e with
    | .normal => SRel C Fr wf m' s' w' a' ∧ ∀ b k cs, Good fn ro b → Steps C.P (start b k cs) (lone (b.atR a' k) cs w')
    | .jump j => SRel C Fr wf m' s' w' a' ∧ ∀ b k cs, Good fn ro b → ∃ k1, SameFor j k1 k ∧ Steps C.P (start b k cs) (lone (b.atR a' (.code j :: k1)) cs w')
    | .panic v => R Fr wf m' s'.H w' ∧ GRel m' C.G ∧ DRel m' s'.dfs a'.defers ∧ ∃ v', VRel m' v v' ∧
        ∀ b k cs, Good fn ro b → ∃ todo, Steps C.P (start b k cs) (lone { b.atR a' todo with mode := .panicking [{ v := v', recovered := false }] } cs w')

structure RecOk2 (C : Ctx) (rec : Req → Option Rep) : Prop extends RecOk C rec where
  loop : ∀ fn rd c s e s', rec (.loop fn rd c s) = some (.code e s') → ∀ Fr wf m w a ro, RdRel m rd ro → SRel C Fr wf m s w a →
    Comes C Fr wf m fn ro (fun b k cs => lone (b.atR a (.code c :: .inLoop c :: k)) cs w) e s'
  scope : ∀ fn rd body rest s e s', rec (.scope fn rd body rest s) = some (.code e s') → ∀ Fr wf m w a ro, RdRel m rd ro → SRel C Fr wf m s w a →
    Comes C Fr wf m fn ro (fun b k cs => lone (b.atR a (.code rest :: .inScope body :: k)) cs w) e s'

section
variable {C : Ctx} {Fr : Fence} {wf : World} {m : AMap} {fn : FuncId} {ro : Option Nat} {start start' : Frame → List Item → List Frame → Machine} {e : AExit} {s' : ASt}

/-- The same from an earlier start. -/
theorem Comes.of_steps (h : Comes C Fr wf m fn ro start' e s') (hs : ∀ b k cs, Good fn ro b → Steps C.P (start b k cs) (start' b k cs)) : Comes C Fr wf m fn ro start e s' := by
  obtain ⟨m', w', a', hle, h⟩ := h
  refine ⟨m', w', a', hle, ?_⟩
  cases e with
  | normal => exact ⟨h.1, fun b k cs hb => (hs b k cs hb).trans (h.2 b k cs hb)⟩
  | jump j => exact ⟨h.1, fun b k cs hb => let ⟨k1, q1, q2⟩ := h.2 b k cs hb; ⟨k1, q1, (hs b k cs hb).trans q2⟩⟩
  | panic v => exact ⟨h.1, h.2.1, h.2.2.1, h.2.2.2.elim fun v' hv => ⟨v', hv.1, fun b k cs hb => let ⟨todo, q⟩ := hv.2 b k cs hb; ⟨todo, (hs b k cs hb).trans q⟩⟩⟩

theorem Comes.le {m0 : AMap} (hm : m0.pre m) (h : Comes C Fr wf m fn ro start e s') : Comes C Fr wf m0 fn ro start e s' := by
  obtain ⟨m', w', a', hle, h⟩ := h
  exact ⟨m', w', a', hm.trans hle, h⟩

end

theorem stepR_scope {P : Program} {b : Frame} {a : Act} {k : List Item} {cs : List Frame} {w : World} {c : Code} : step P (lone (b.atR a (.code (.scope c) :: k)) cs w) = .next (lone (b.atR a (.code c :: .inScope c :: k)) cs w) :=
  step_lone_go (by simp [stepG, stepG.exec, Frame.atR])

theorem stepR_inScope {P : Program} {b : Frame} {a : Act} {k : List Item} {cs : List Frame} {w : World} {c : Code} : step P (lone (b.atR a (.inScope c :: k)) cs w) = .next (lone (b.atR a k) cs w) :=
  step_lone_go (by simp [stepG, stepG.exec, Frame.atR])

section
variable {C : Ctx} {rec : Req → Option Rep} {Fr : Fence} {wf : World} {fn : FuncId} {ro : Option Nat}

theorem astep_normal (hrec : RecOk C rec) {ops : Array Oper} {i : Nat} {s s' : ASt} (h : astep C rec ops none i s = some (.normal, s')) {m : AMap} {w : World} {a : Act} (hs : SRel C Fr wf m s w a) :
    ∃ m' w' a', m.pre m' ∧ SRel C Fr wf m' s' w' a' ∧ ∀ (b : Frame) (rest : List Nat) (k : List Item) (cs : List Frame), b.kind = .normal → Steps C.P (lone (b.atR a (.inRegion ops (i :: rest) :: k)) cs w) (lone (b.atR a' (.inRegion ops rest :: k)) cs w') := by
  unfold astep at h
  split at h
  · simp at h
  rename_i o ho
  have hwant := awanted_rel (ops := ops) (o := o) hs.tmps
  split at h
  · rename_i hw
    unfold aop1 at h
    split at h
    · rename_i v H1 ha
      simp only [Option.some.injEq, Prod.mk.injEq, true_and] at h
      subst h
      obtain ⟨m', w', v', q1, q2, q3, q4⟩ := aout_val (at_ := none) hrec hs.r hs.g (aeval_rel hs.g hs.tmps) (fun _ => rfl) ha
      exact ⟨m', w', a.put o.dst v', q1, hs.put q1 q2 q3 _, fun b rest k cs hb => q4 b a ops i rest k cs hb ho (hwant.trans hw) rfl⟩
    · simp at h
    · simp at h
  · rename_i hw
    simp only [Option.some.injEq, Prod.mk.injEq, true_and] at h
    subst h
    refine ⟨m, w, a.put o.dst undef, .refl m, hs.put (.refl m) hs.r .undef _, fun b rest k cs hb => .one ?_⟩
    have := stepR_op_skip (P := C.P) (b := b) (a := a) (k := k) (cs := cs) (w := w) (ops := ops) (i := i) (rest := rest) (by
      simp only [ho, Option.map_some, Option.getD_some, hwant]
      simpa using hw)
    rw [ho] at this
    exact this

theorem astep_panic (hrec : RecOk C rec) {ops : Array Oper} {i : Nat} {s s' : ASt} {v : Value} (h : astep C rec ops none i s = some (.panic v, s')) {m : AMap} {w : World} {a : Act} (hs : SRel C Fr wf m s w a) :
    ∃ m' w', m.pre m' ∧ R Fr wf m' s'.H w' ∧ GRel m' C.G ∧ DRel m' s'.dfs a.defers ∧ ∃ v', VRel m' v v' ∧
      ∀ (b : Frame) (rest : List Nat) (k : List Item) (cs : List Frame), b.kind = .normal → ∃ todo, Steps C.P (lone (b.atR a (.inRegion ops (i :: rest) :: k)) cs w) (lone { b.atR a todo with mode := .panicking [{ v := v', recovered := false }] } cs w') := by
  unfold astep at h
  split at h
  · simp at h
  rename_i o ho
  have hwant := awanted_rel (ops := ops) (o := o) hs.tmps
  split at h
  · rename_i hw
    unfold aop1 at h
    split at h
    · simp at h
    · rename_i v1 H1 ha
      simp only [Option.some.injEq, Prod.mk.injEq, AExit.panic.injEq] at h
      obtain ⟨rfl, rfl⟩ := h
      obtain ⟨m', w', v', q1, q2, q3, q4⟩ := aout_panic (at_ := none) hrec hs.r hs.g (aeval_rel hs.g hs.tmps) ha
      exact ⟨m', w', q1, q2, hs.g.mono q1, hs.dfs.mono q1, v', q3, fun b rest k cs hb => q4 b a ops i rest k cs hb ho (hwant.trans hw) rfl⟩
    · simp at h
  · simp at h

theorem aops_sound (hrec : RecOk C rec) {ops : Array Oper} : ∀ (l : List Nat) {s s' : ASt} {e : AExit}, aops C rec ops l s = some (e, s') → ∀ {m : AMap} {w : World} {a : Act}, SRel C Fr wf m s w a →
    Comes C Fr wf m fn ro (fun b k cs => lone (b.atR a (.inRegion ops l :: k)) cs w) e s'
  | [], s, s', e, h, m, w, a, hs => by
    simp [aops] at h
    obtain ⟨rfl, rfl⟩ := h
    exact ⟨m, w, a, .refl m, hs, fun b k cs _ => .one stepR_region_end⟩
  | i :: r, s, s', e, h, m, w, a, hs => by
    simp only [aops] at h
    split at h
    · rename_i s1 h1
      obtain ⟨m1, w1, a1, q1, q2, q3⟩ := astep_normal hrec h1 hs
      exact (Comes.of_steps (aops_sound hrec r h q2) fun b k cs hb => q3 b r k cs hb.1).le q1
    · rename_i x hx
      cases e with
      | normal => exact absurd h (hx _)
      | jump j =>
        exfalso
        unfold astep at h
        split at h
        · simp at h
        · split at h
          · unfold aop1 at h
            split at h <;> simp at h
          · simp at h
      | panic v =>
        obtain ⟨m', w', q1, q2, q3, q4, v', q5, q6⟩ := astep_panic hrec h hs
        exact ⟨m', w', a, q1, q2, q3, q4, v', q5, fun b k cs hb => q6 b r k cs hb.1⟩
end


/-- What is left to show of a region that draws its order. -/
def DrawOk (C : Ctx) (rec : Req → Option Rep) : Prop := ∀ (id : Nat) (ops : Array Oper) (s s' : ASt) (e : AExit), aregion C rec ops true s = some (e, s') →
  ∀ (Fr : Fence) (wf : World) (fn : FuncId) (ro : Option Nat) (m : AMap) (w : World) (a : Act), SRel C Fr wf m s w a → Comes C Fr wf m fn ro (fun b k cs => lone (b.atR a (.code (.region id ops true) :: k)) cs w) e s'

theorem pass_code {j x : Code} {k1 k : List Item} (h : SameFor j k1 (.code x :: k)) : SameFor j k1 k := by
  cases j <;> first | exact h | trivial

theorem pass_loop {j x : Code} {k1 k : List Item} (h : SameFor j k1 (.inLoop x :: k)) : SameFor j k1 k := by
  cases j <;> first | exact h | trivial

section
variable {C : Ctx} {rec : Req → Option Rep} {Fr : Fence} {wf : World} {fn : FuncId} {ro : Option Nat}

theorem run_newObj' (P : Program) (w : World) (o : Obj) : (newObj o).run P w = .ok w.heap.size (w.alloc o) := rfl

theorem enterLoop_run {P : Program} {m : AMap} {H H1 : AHeap} {w : World} (r : R Fr wf m H w) {rd : Option Nat} (hrd : RdRel m rd ro) {dfs dfs1 : List Nat} {D : Nat}
    (h : enterSt rd H dfs = some (H1, D, dfs1))
    (tmps : List Value) (tmps' : Array Value) (ht : LRel m tmps tmps'.toList) (params : Array Tmp) (assign body : Code) {dd : List Deferred} (hd : DRel m dfs dd) :
    ∃ m' w' mark e, (Instr.enterLoop fn tmps' params assign body ro).run P w = .ok (e.blk, mark) w' ∧ m.pre m' ∧ m'.has H1.size e ∧
      R Fr wf m' (Array.push H1 (.loop { state := .ready, pending := none, fn, tmps := ⟨tmps⟩, params, assign, body, defers := D })) w' ∧ DRel m' dfs1 (mark ++ dd) := by
  unfold enterSt at h
  cases rd with
  | none =>
    cases ro with
    | some => exact hrd.elim
    | none =>
    simp only [Option.some.injEq, Prod.mk.injEq] at h
    obtain ⟨rfl, rfl, rfl⟩ := h
    have hp1 : Pushed w (w.alloc (.deferred (some []))) (.deferred (some [])) := ⟨rfl, rfl, rfl, rfl⟩
    let e1 : MEnt := ⟨w.heap.size, 0, 0, 0⟩
    have r1 : R Fr wf (m.push (some e1)) (Array.push H .defr) (w.alloc (.deferred (some []))) := r.push hp1 rfl ⟨r.fresh, hp1.new⟩
    have hD : AMap.has (m.push (some e1)) H.size e1 := by rw [← r.size]; exact AMap.has_push m e1
    let l' : Loop := { state := .ready, pending := none, fn, tmps := tmps', params, assign, body, defers := w.heap.size }
    have hp2 : Pushed (w.alloc (.deferred (some []))) ((w.alloc (.deferred (some []))).alloc (.loop l')) (.loop l') := ⟨rfl, rfl, rfl, rfl⟩
    let e2 : MEnt := ⟨w.heap.size + 1, 0, 0, 0⟩
    have hb2 : e2.blk = (w.alloc (.deferred (some []))).heap.size := by simp [e2]
    have hle2 : AMap.pre (m.push (some e1)) ((m.push (some e1)).push (some e2)) := AMap.pre_push _ _
    have r2 := r1.push (x := .loop { state := .ready, pending := none, fn, tmps := ⟨tmps⟩, params, assign, body, defers := H.size }) (e := e2) hp2 hb2
      ⟨by rw [hb2]; exact r1.fresh, l', by rw [hb2]; exact hp2.new, ⟨rfl, rfl, rfl, (ht.mono ((AMap.pre_push m _).trans hle2).le), rfl, rfl, rfl, e1, hle2.has _ _ hD, rfl⟩⟩
    refine ⟨_, _, [{ target := .collected w.heap.size, args := #[] }], e2, ?_, (AMap.pre_push m _).trans hle2, by rw [← r1.size]; exact AMap.has_push _ e2, r2, ?_⟩
    · simp only [Instr.enterLoop, Sem.run_bind, run_newObj', Result.andThen_ok, Sem.run_pure, hb2, l']
    · exact .cons (hle2.has _ _ hD) (hd.mono ((AMap.pre_push m _).trans hle2).le)
  | some l =>
    cases ro with
    | none => exact hrd.elim
    | some l0 =>
    obtain ⟨el, hel, rfl⟩ := hrd
    simp only at h
    split at h
    case h_2 => simp at h
    rename_i rr hH
    simp only [Option.some.injEq, Prod.mk.injEq] at h
    obtain ⟨rfl, rfl, rfl⟩ := h
    obtain ⟨hnf, l', hw, hl⟩ := r.obj l _ el hH hel
    obtain ⟨ed, hed, hdef⟩ := hl.defers
    let l2 : Loop := { state := .ready, pending := none, fn, tmps := tmps', params, assign, body, defers := l'.defers }
    have hp2 : Pushed w (w.alloc (.loop l2)) (.loop l2) := ⟨rfl, rfl, rfl, rfl⟩
    let e2 : MEnt := ⟨w.heap.size, 0, 0, 0⟩
    have hle2 : AMap.pre m (m.push (some e2)) := AMap.pre_push _ _
    have r2 := r.push (x := .loop { state := .ready, pending := none, fn, tmps := ⟨tmps⟩, params, assign, body, defers := rr.defers }) (e := e2) hp2 rfl
      ⟨r.fresh, l2, hp2.new, ⟨rfl, rfl, rfl, ht.mono hle2, rfl, rfl, rfl, ed, hle2.has _ _ hed, hdef⟩⟩
    refine ⟨_, _, [], e2, ?_, hle2, by rw [← r.size]; exact AMap.has_push _ e2, r2, hd.mono hle2⟩
    have hgl : (Instr.getLoop el.blk).run P w = .ok l' w := by
      simp only [Instr.getLoop, Sem.run_bind, getObj, Sem.run, hw, Result.andThen_ok]
      rfl
    simp only [Instr.enterLoop, Sem.run_bind, hgl, run_newObj', Result.andThen_ok, Sem.run_pure]
    rfl

/-- A loop's record is written anew. -/
theorem R.setLoop {m : AMap} {H : AHeap} {w : World} (r : R Fr wf m H w) {l : Nat} {e : MEnt} (he : m.has l e) {q q2 : Loop} {q2' : Loop} (hH : H[l]? = some (.loop q)) (hq : LoopRel m q2 q2') :
    R Fr wf m (H.setIfInBounds l (.loop q2)) { w with heap := w.heap.setIfInBounds e.blk (.loop q2') } := by
  obtain ⟨hnf, l', hw, hl⟩ := r.obj l _ e hH he
  have hlt : e.blk < w.heap.size := (Array.getElem?_eq_some_iff.1 hw).1
  have hbH : l < H.size := (Array.getElem?_eq_some_iff.1 hH).1
  refine r.upd (.refl m) (by simp [r.size]) rfl rfl rfl (by simp) (fun k hk => ?_) ?_
  · show (w.heap.setIfInBounds _ _)[k]? = _
    rw [Array.getElem?_setIfInBounds, if_neg (by rintro rfl; exact hnf hk)]
  · intro i x e' hi he'
    by_cases hib : i = l
    · subst hib
      obtain rfl := he.inj he'
      simp [hbH] at hi; subst hi
      refine .inr ⟨⟨hnf, q2', ?_, hq⟩, fun _ j x' e' hj hj1 hj2 hj3 => ?_⟩
      · show (w.heap.setIfInBounds _ _)[e.blk]? = _
        simp [hlt]
      · rw [Array.getElem?_setIfInBounds, if_neg (Ne.symm hj)] at hj1
        exact r.inj i j _ x' e e' (Ne.symm hj) hH hj1 rfl hj2 he hj3
    · rw [Array.getElem?_setIfInBounds, if_neg (Ne.symm hib)] at hi
      refine .inl ⟨hi, he', fun hl => ?_⟩
      have := r.inj i l x _ e' e hib hi hH hl rfl he' he
      show (w.heap.setIfInBounds _ _)[e'.blk]? = _
      rw [Array.getElem?_setIfInBounds, if_neg (Ne.symm this)]

theorem run_getLoop {P : Program} {w : World} {b : Nat} {q : Loop} (h : w.heap[b]? = some (.loop q)) : (Instr.getLoop b).run P w = .ok q w := by
  simp only [Instr.getLoop, Sem.run_bind, getObj, Sem.run, h, Result.andThen_ok]
  rfl

theorem run_setObj_loop {P : Program} {w : World} {b : Nat} {q q2 : Loop} (h : w.heap[b]? = some (.loop q)) : (setObj b (.loop q2)).run P w = .ok () { w with heap := w.heap.setIfInBounds b (.loop q2) } := by
  simp only [setObj, Sem.run, h]
end

end Go.Eng

namespace Go.Eng
open Go

section
variable {C : Ctx} {rec : Req → Option Rep} {Fr : Fence} {wf : World}

theorem cond_eval {m : AMap} {s : ASt} {w : World} {a : Act} (hs : SRel C Fr wf m s w a) {c : Operand} {t : Bool} (h : aeval C.G s.tmps c = some (.bool t)) : a.eval c = .bool t := by
  have := aeval_rel hs.g hs.tmps _ _ h
  generalize a.eval c = v at this
  cases this; rfl

theorem endLoop_run {P : Program} {w : World} {b : Nat} {q : Loop} (h : w.heap[b]? = some (.loop q)) (hb : q.state ≠ .busy) :
    (Instr.endLoop b).run P w = .ok q.pending { w with heap := w.heap.setIfInBounds b (.loop { q with state := .exhausted }) } := by
  have h1 := run_getLoop (P := P) h
  have h2 := run_setObj_loop (P := P) (q2 := { q with state := .exhausted }) h
  have h3 : (q.state == .busy) = false := by
    cases hq : q.state <;> first | rfl | exact absurd hq hb
  simp only [Instr.endLoop, Sem.run_bind, h1, Result.andThen_ok, h3, Bool.false_eq_true, if_false, h2, Sem.run_pure]

/-- The function that is ranged over is an entry: it is answered at once. -/
theorem stepR_rangeValue {P : Program} {b : Frame} {a : Act} {k : List Item} {cs : List Frame} {w : World} {g : Operand} {ps : Array Tmp} {assign body : Code} {l : Nat} {mark : List Deferred} {w₁ w₁' w₂ : World} {d : Deferred} {v : Value}
    (he : (Instr.enterLoop b.fn a.tmps ps assign body b.roundOf).run P w = .ok (l, mark) w₁)
    (hres : (resolve a.eval (rangeCall g l) 0).run P w₁ = .ok d w₁') (hinv : (invoke d.target d.args).run P w₁' = .ok (.value v) w₂) :
    step P (lone (b.atR a (.code (.rangeFunc g ps assign body) :: k)) cs w) =
      .next (lone (b.atR { a with defers := mark ++ a.defers } (.endRangeFunc l :: k)) cs w₂) :=
  step_lone_go (by
    have hev := Frame.eval_atR b { a with defers := mark ++ a.defers } (.inRangeFunc l :: k)
    simp only [Frame.atR] at hev
    have hres' : Sem.run P (resolve ({ tmps := a.tmps, defers := mark ++ a.defers } : Act).eval { callee := .value g, args := #[.const (.func (.yield l) #[] #[])], argTypes := #[] } 0) w₁ = .ok d w₁' := hres
    simp [stepG, stepG.exec, Frame.atR, Sem.runT_eq, he, GStep.bare_after, stepG.apply, hev, Sem.run_bind, hres', hinv, Result.andThen, Frame.finish])

theorem acode_sound (hrec : RecOk2 C rec) (hdraw : DrawOk C rec) (fn : FuncId) (rd : Option Nat) : ∀ (c : Code) {s s' : ASt} {e : AExit}, acode C rec fn rd c s = some (e, s') →
    ∀ {m : AMap} {w : World} {a : Act} {ro : Option Nat}, RdRel m rd ro → SRel C Fr wf m s w a →
    Comes C Fr wf m fn ro (fun b k cs => lone (b.atR a (.code c :: k)) cs w) e s' := by
  intro c
  induction c with
  | skip =>
    intro s s' e h m w a ro hrd hs
    simp [acode] at h; obtain ⟨rfl, rfl⟩ := h
    exact ⟨m, w, a, .refl m, hs, fun b k cs _ => .one stepR_skip⟩
  | label l =>
    intro s s' e h m w a ro hrd hs
    simp [acode] at h; obtain ⟨rfl, rfl⟩ := h
    exact ⟨m, w, a, .refl m, hs, fun b k cs _ => .one stepR_label⟩
  | region id ops draw =>
    intro s s' e h m w a ro hrd hs
    simp only [acode] at h
    cases draw with
    | true => exact hdraw id ops s s' e h Fr wf fn ro m w a hs
    | false =>
      simp only [aregion, Bool.false_eq_true, if_false] at h
      exact (aops_sound hrec.toRecOk _ h hs).of_steps fun b k cs _ => .one stepR_region
  | seq x y ihx ihy =>
    intro s s' e h m w a ro hrd hs
    simp only [acode] at h
    split at h
    · rename_i s1 h1
      obtain ⟨m1, w1, a1, q1, q2, q3⟩ := ihx h1 hrd hs
      exact (Comes.of_steps (ihy h (hrd.mono q1) q2) fun b k cs hb => .head stepR_seq (q3 b (.code y :: k) cs hb)).le q1
    · rename_i z hz
      have hx := ihx h hrd hs
      obtain ⟨m1, w1, a1, q1, q2⟩ := hx
      refine ⟨m1, w1, a1, q1, ?_⟩
      cases e with
      | normal => exact absurd h (hz _)
      | jump j => exact ⟨q2.1, fun b k cs hb => let ⟨k1, r1, r2⟩ := q2.2 b (.code y :: k) cs hb; ⟨k1, pass_code r1, .head stepR_seq r2⟩⟩
      | panic v => exact ⟨q2.1, q2.2.1, q2.2.2.1, q2.2.2.2.elim fun v' hv => ⟨v', hv.1, fun b k cs hb => let ⟨todo, r⟩ := hv.2 b (.code y :: k) cs hb; ⟨todo, .head stepR_seq r⟩⟩⟩
  | cond cc x y ihx ihy =>
    intro s s' e h m w a ro hrd hs
    simp only [acode] at h
    split at h
    · rename_i hc
      exact (ihx h hrd hs).of_steps fun b k cs _ => .one (by simpa using stepR_cond (x := x) (y := y) (cond_eval hs hc))
    · rename_i hc
      exact (ihy h hrd hs).of_steps fun b k cs _ => .one (by simpa using stepR_cond (x := x) (y := y) (cond_eval hs hc))
    · simp at h
  | block id body ih =>
    intro s s' e h m w a ro hrd hs
    simp only [acode] at h
    split at h
    · rename_i id' s1 h1
      obtain ⟨m1, w1, a1, q1, q2, q3⟩ := ih h1 hrd hs
      split at h
      · rename_i hid
        subst hid
        simp only [Option.some.injEq, Prod.mk.injEq] at h
        obtain ⟨rfl, rfl⟩ := h
        refine ⟨m1, w1, a1, q1, q2, fun b k cs hb => ?_⟩
        obtain ⟨k1, r1, r2⟩ := q3 b (.inBlock id' :: k) cs hb
        exact .head stepR_block (r2.trans (.one (stepR_exit (by rw [show exitTo id' k1 = exitTo id' (.inBlock id' :: k) from r1]; simp [exitTo]))))
      · rename_i hid
        simp only [Option.some.injEq, Prod.mk.injEq] at h
        obtain ⟨rfl, rfl⟩ := h
        refine ⟨m1, w1, a1, q1, q2, fun b k cs hb => ?_⟩
        obtain ⟨k1, r1, r2⟩ := q3 b (.inBlock id :: k) cs hb
        refine ⟨k1, ?_, .head stepR_block r2⟩
        have : (id == id') = false := by simp; exact fun h => hid h.symm
        show exitTo id' k1 = exitTo id' k
        rw [show exitTo id' k1 = exitTo id' (.inBlock id :: k) from r1]
        simp [exitTo, this]
    · rename_i z hz
      obtain ⟨m1, w1, a1, q1, q2⟩ := ih h hrd hs
      refine ⟨m1, w1, a1, q1, ?_⟩
      cases e with
      | normal => exact ⟨q2.1, fun b k cs hb => .head stepR_block ((q2.2 b (.inBlock id :: k) cs hb).trans (.one stepR_inBlock))⟩
      | jump j =>
        refine ⟨q2.1, fun b k cs hb => ?_⟩
        obtain ⟨k1, r1, r2⟩ := q2.2 b (.inBlock id :: k) cs hb
        refine ⟨k1, ?_, .head stepR_block r2⟩
        cases j with
        | exit id' => exact absurd h (hz _ _)
        | goto l => exact r1
        | ret => trivial
        | _ => exact r1.elim
      | panic v => exact ⟨q2.1, q2.2.1, q2.2.2.1, q2.2.2.2.elim fun v' hv => ⟨v', hv.1, fun b k cs hb => let ⟨todo, r⟩ := hv.2 b (.inBlock id :: k) cs hb; ⟨todo, .head stepR_block r⟩⟩⟩
  | loop body ih =>
    intro s s' e h m w a ro hrd hs
    simp only [acode] at h
    split at h
    · rename_i s1 h1
      obtain ⟨m1, w1, a1, q1, q2, q3⟩ := ih h1 hrd hs
      split at h
      · rename_i e1 s2 hr
        simp only [Option.some.injEq, Prod.mk.injEq] at h
        obtain ⟨rfl, rfl⟩ := h
        exact (Comes.of_steps (hrec.loop _ _ _ _ _ _ hr Fr wf m1 w1 a1 ro (hrd.mono q1) q2) fun b k cs hb => .head stepR_loop ((q3 b (.inLoop body :: k) cs hb).trans (.one stepR_inLoop))).le q1
      · simp at h
    · rename_i z hz
      obtain ⟨m1, w1, a1, q1, q2⟩ := ih h hrd hs
      refine ⟨m1, w1, a1, q1, ?_⟩
      cases e with
      | normal => exact absurd h (hz _)
      | jump j => exact ⟨q2.1, fun b k cs hb => let ⟨k1, r1, r2⟩ := q2.2 b (.inLoop body :: k) cs hb; ⟨k1, pass_loop r1, .head stepR_loop r2⟩⟩
      | panic v => exact ⟨q2.1, q2.2.1, q2.2.2.1, q2.2.2.2.elim fun v' hv => ⟨v', hv.1, fun b k cs hb => let ⟨todo, r⟩ := hv.2 b (.inLoop body :: k) cs hb; ⟨todo, .head stepR_loop r⟩⟩⟩
  | exit id =>
    intro s s' e h m w a ro hrd hs
    simp [acode] at h; obtain ⟨rfl, rfl⟩ := h
    exact ⟨m, w, a, .refl m, hs, fun b k cs _ => ⟨k, rfl, .refl _ _⟩⟩
  | goto l =>
    intro s s' e h m w a ro hrd hs
    simp [acode] at h; obtain ⟨rfl, rfl⟩ := h
    exact ⟨m, w, a, .refl m, hs, fun b k cs _ => ⟨k, rfl, .refl _ _⟩⟩
  | ret =>
    intro s s' e h m w a ro hrd hs
    simp [acode] at h; obtain ⟨rfl, rfl⟩ := h
    exact ⟨m, w, a, .refl m, hs, fun b k cs _ => ⟨k, trivial, .refl _ _⟩⟩
  | refuse why =>
    intro s s' e h m w a ro hrd hs
    simp [acode] at h
  | scope body ih =>
    intro s s' e h m w a ro hrd hs
    simp only [acode] at h
    split at h
    · rename_i l s1 h1
      obtain ⟨m1, w1, a1, q1, q2, q3⟩ := ih h1 hrd hs
      split at h
      · rename_i rest hl
        split at h
        · rename_i e1 s2 hr
          simp only [Option.some.injEq, Prod.mk.injEq] at h
          obtain ⟨rfl, rfl⟩ := h
          refine (Comes.of_steps (hrec.scope _ _ _ _ _ _ _ hr Fr wf m1 w1 a1 ro (hrd.mono q1) q2) fun b k cs hb => ?_).le q1
          obtain ⟨k1, r1, r2⟩ := q3 b (.inScope body :: k) cs hb
          exact .head stepR_scope (r2.trans (.one (stepR_goto (by rw [show gotoIn l k1 = gotoIn l (.inScope body :: k) from r1]; simp [gotoIn, hl]))))
        · simp at h
      · rename_i hl
        simp only [Option.some.injEq, Prod.mk.injEq] at h
        obtain ⟨rfl, rfl⟩ := h
        refine ⟨m1, w1, a1, q1, q2, fun b k cs hb => ?_⟩
        obtain ⟨k1, r1, r2⟩ := q3 b (.inScope body :: k) cs hb
        refine ⟨k1, ?_, .head stepR_scope r2⟩
        show gotoIn l k1 = gotoIn l k
        rw [show gotoIn l k1 = gotoIn l (.inScope body :: k) from r1]
        simp [gotoIn, hl]
    · rename_i z hz
      obtain ⟨m1, w1, a1, q1, q2⟩ := ih h hrd hs
      refine ⟨m1, w1, a1, q1, ?_⟩
      cases e with
      | normal => exact ⟨q2.1, fun b k cs hb => .head stepR_scope ((q2.2 b (.inScope body :: k) cs hb).trans (.one stepR_inScope))⟩
      | jump j =>
        refine ⟨q2.1, fun b k cs hb => ?_⟩
        obtain ⟨k1, r1, r2⟩ := q2.2 b (.inScope body :: k) cs hb
        refine ⟨k1, ?_, .head stepR_scope r2⟩
        cases j with
        | exit id' => exact r1
        | goto l => exact absurd h (hz _ _)
        | ret => trivial
        | _ => exact r1.elim
      | panic v => exact ⟨q2.1, q2.2.1, q2.2.2.1, q2.2.2.2.elim fun v' hv => ⟨v', hv.1, fun b k cs hb => let ⟨todo, r⟩ := hv.2 b (.inScope body :: k) cs hb; ⟨todo, .head stepR_scope r⟩⟩⟩
  | rangeFunc f params assign body _ _ =>
    intro s s' e h m w a ro hrd hs
    simp only [acode] at h
    split at h
    case h_2 => simp at h
    rename_i g first cap hf
    split at h
    · simp at h
    rename_i H1 D dfs1 henter
    have hfv := aeval_rel hs.g hs.tmps _ _ hf
    obtain ⟨m1, w1, mark, el, q1, q2, q3, q4, q5⟩ := enterLoop_run (fn := fn) (P := C.P) hs.r hrd henter s.tmps a.tmps hs.tmps params assign body hs.dfs
    generalize hfe : a.eval f = vf at hfv
    cases hfv with
    | @func _ f' _ first' _ cap' hfr hfi hca =>
    cases hfr
    have hargs : LRel m1 (first ++ [.func (.yield H1.size) #[] #[]] ++ cap) (first' ++ [.func (.yield el.blk) #[] #[]] ++ cap') :=
      ((hfi.mono q2).append (.cons (.func (.yield q3) .nil .nil) .nil)).append (hca.mono q2)
    have hresolve : (resolve a.eval (rangeCall f el.blk) 0).run C.P w1 = .ok { target := .fn (.func g) ⟨cap'⟩, args := ⟨first'⟩ ++ #[.func (.yield el.blk) #[] #[]] } w1 := by
      have e : (rangeCall f el.blk).args.map a.eval = #[.func (.yield el.blk) #[] #[]] := by simp [rangeCall, Act.eval]
      simp only [resolve, e]
      show (Deferred.ofValue (a.eval f) _).run _ _ = _
      rw [hfe]
      rfl
    have hinv : ∀ w, (invoke (.fn (.func g) ⟨cap'⟩) ((⟨first'⟩ : Array Value) ++ #[.func (.yield el.blk) #[] #[]])).run C.P w = (callFunc g ⟨first' ++ [.func (.yield el.blk) #[] #[]] ++ cap'⟩).run C.P w := by
      intro w; simp [invoke]
    split at h
    · rename_i v H3 hr
      obtain ⟨m2, w2, v2, p1, p2, p3, p4⟩ := hrec.call _ _ _ _ hr Fr wf m1 w1 _ q4 (hs.g.mono q2) hargs
      split at h
      case h_2 => simp at h
      rename_i r3 hH3
      have he3 := p1.has _ _ q3
      obtain ⟨hnf, l3, hw3, hl3⟩ := p2.obj _ _ _ hH3 he3
      have hend : ∀ (hb : r3.state ≠ .busy), (Instr.endLoop el.blk).run C.P w2 = .ok r3.pending { w2 with heap := w2.heap.setIfInBounds el.blk (.loop { l3 with state := .exhausted }) } := by
        intro hb
        have := endLoop_run (P := C.P) hw3 (by rw [hl3.state]; exact hb)
        rw [← hl3.pending]
        exact this
      have r4 : R Fr wf m2 (H3.setIfInBounds H1.size (.loop { r3 with state := .exhausted })) { w2 with heap := w2.heap.setIfInBounds el.blk (.loop { l3 with state := .exhausted }) } :=
        R.setLoop p2 he3 hH3 ⟨rfl, hl3.pending, hl3.fn, hl3.tmps, hl3.params, hl3.assign, hl3.body, hl3.defers⟩
      have hS : SRel C Fr wf m2 { tmps := s.tmps, H := H3.setIfInBounds H1.size (.loop { r3 with state := .exhausted }), dfs := dfs1 } { w2 with heap := w2.heap.setIfInBounds el.blk (.loop { l3 with state := .exhausted }) } { a with defers := mark ++ a.defers } :=
        ⟨r4, hs.g.mono (q2.trans p1), hs.tmps.mono (q2.trans p1), q5.mono p1⟩
      -- the way there
      have way : ∀ (hb : r3.state ≠ .busy) b k cs, Good fn ro b → Steps C.P (lone (b.atR a (.code (.rangeFunc f params assign body) :: k)) cs w)
          (lone (b.atR { a with defers := mark ++ a.defers } ((r3.pending.map Item.code).toList ++ k)) cs { w2 with heap := w2.heap.setIfInBounds el.blk (.loop { l3 with state := .exhausted }) }) := by
        intro hb b k cs hg
        rcases p4 with p4 | ⟨p4, p5⟩
        · have henter := stepR_rangeValue (P := C.P) (b := b) (a := a) (k := k) (cs := cs) (w := w) (g := f) (ps := params) (assign := assign) (body := body) (by rw [hg.2.1, hg.2.2]; exact q1) hresolve ((hinv w1).trans p4)
          exact .head henter (.one (stepR_endRangeFunc (hend hb)))
        · obtain ⟨fr, g1, g2, g3⟩ := p5 (b.atR { a with defers := mark ++ a.defers } (.inRangeFunc el.blk :: k) :: cs)
          have henter := stepR_rangeFunc (P := C.P) (b := b) (a := a) (k := k) (cs := cs) (w := w) (g := f) (ps := params) (assign := assign) (body := body) (by rw [hg.2.1, hg.2.2]; exact q1) hresolve ((hinv w1).trans p4)
          refine .head henter (g1.trans (.head ?_ (.one (stepR_endRangeFunc (hend hb)))))
          have := step_leave_returned (c := b.atR { a with defers := mark ++ a.defers } (.inRangeFunc el.blk :: k)) (cs := cs) g3
          rw [finish_atR_inRangeFunc] at this
          exact this
      split at h
      · simp at h
      · rename_i hbusy
        have hb : r3.state ≠ .busy := fun hq => hbusy hq
        split at h
        · rename_i hp
          simp only [Option.some.injEq, Prod.mk.injEq] at h
          obtain ⟨rfl, rfl⟩ := h
          refine ⟨m2, _, _, q2.trans p1, hS, fun b k cs hg => ?_⟩
          have := way hb b k cs hg
          rw [hp] at this
          exact this
        · rename_i c hp
          split at h
          · simp only [Option.some.injEq, Prod.mk.injEq] at h
            obtain ⟨rfl, rfl⟩ := h
            rename_i hj
            refine ⟨m2, _, _, q2.trans p1, hS, fun b k cs hg => ⟨k, ?_, ?_⟩⟩
            · cases c <;> first | rfl | trivial | simp [isJump] at hj
            · have := way hb b k cs hg
              rw [hp] at this
              exact this
          · simp at h
    · rename_i v H3 hr
      obtain ⟨m2, w2, v2, p1, p2, p3, p4, p5⟩ := hrec.call _ _ _ _ hr Fr wf m1 w1 _ q4 (hs.g.mono q2) hargs
      simp only [Option.some.injEq, Prod.mk.injEq] at h
      obtain ⟨rfl, rfl⟩ := h
      refine ⟨m2, w2, { a with defers := mark ++ a.defers }, q2.trans p1, p2, hs.g.mono (q2.trans p1), q5.mono p1, v2, p3, fun b k cs hg => ?_⟩
      obtain ⟨fr, g1, g2, g3⟩ := p5 (b.atR { a with defers := mark ++ a.defers } (.inRangeFunc el.blk :: k) :: cs)
      have henter := stepR_rangeFunc (P := C.P) (b := b) (a := a) (k := k) (cs := cs) (w := w) (g := f) (ps := params) (assign := assign) (body := body) (by rw [hg.2.1, hg.2.2]; exact q1) hresolve ((hinv w1).trans p4)
      refine ⟨.inRangeFunc el.blk :: k, .head henter (g1.trans (.one ?_))⟩
      rw [← Frame.raise_atR]
      exact step_leave_panicked g3
    · simp at h
end

end Go.Eng

namespace Go.Eng
open Go

section
variable {C : Ctx} {rec : Req → Option Rep} {Fr : Fence} {wf : World}

theorem run_takeDeferred' {P : Program} {w : World} {b : Nat} (h : w.heap[b]? = some (.deferred (some []))) :
    (Instr.takeDeferred b).run P w = .ok [] { w with heap := w.heap.setIfInBounds b (.deferred none) } := by
  simp only [Instr.takeDeferred, Sem.run_bind, getObj, setObj, Sem.run, h, Result.andThen_ok]
  rfl

theorem takeAll_steps (P : Program) : ∀ (dfs : List Nat) {H H2 : AHeap}, takeAll dfs H = some H2 → ∀ {m : AMap} {w : World} {ds : List Deferred}, R Fr wf m H w → DRel m dfs ds →
    ∃ w2, R Fr wf m H2 w2 ∧ ∀ (fr : Frame) (cs : List Frame), fr.mode ≠ .run → fr.defers = ds → Steps P (lone fr cs w) (lone { fr with defers := [] } cs w2)
  | [], H, H2, h, m, w, ds, r, hd => by
    simp [takeAll] at h; subst h
    cases hd
    exact ⟨w, r, fun fr cs _ he => by
      have : ({ fr with defers := [] } : Frame) = fr := by rw [← he]
      rw [this]; exact .refl _ _⟩
  | d :: dfs, H, H2, h, m, w, ds, r, hd => by
    simp only [takeAll] at h
    split at h
    case h_2 => simp at h
    rename_i hH
    cases hd with
    | @cons _ e _ ds' he hd =>
      obtain ⟨hnf, hw⟩ := r.obj d _ e hH he
      have hlt : e.blk < w.heap.size := (Array.getElem?_eq_some_iff.1 hw).1
      have hbH : d < H.size := (Array.getElem?_eq_some_iff.1 hH).1
      have r2 : R Fr wf m (H.setIfInBounds d .taken) { w with heap := w.heap.setIfInBounds e.blk (.deferred none) } := by
        refine r.upd (.refl m) (by simp [r.size]) rfl rfl rfl (by simp) (fun k hk => ?_) ?_
        · show (w.heap.setIfInBounds _ _)[k]? = _
          rw [Array.getElem?_setIfInBounds, if_neg (by rintro rfl; exact hnf hk)]
        · intro i x e' hi he'
          by_cases hib : i = d
          · subst hib
            simp [hbH] at hi; subst hi
            exact .inr ⟨trivial, fun hl => by simp [live] at hl⟩
          · rw [Array.getElem?_setIfInBounds, if_neg (Ne.symm hib)] at hi
            refine .inl ⟨hi, he', fun hl => ?_⟩
            have := r.inj i d x _ e' e hib hi hH hl rfl he' he
            show (w.heap.setIfInBounds _ _)[e'.blk]? = _
            rw [Array.getElem?_setIfInBounds, if_neg (Ne.symm this)]
      obtain ⟨w2, q1, q2⟩ := takeAll_steps P dfs h r2 hd
      refine ⟨w2, q1, fun fr cs hm hfd => ?_⟩
      have h1 := step_collected (P := P) (cs := cs) hm hfd rfl (run_takeDeferred' hw)
      exact .head h1 (q2 { fr with defers := [] ++ ds' } cs hm rfl)

def resOf (tmps : Array Value) : ResultVar → Sem Value
  | .tmp t => pure (tmps.getD t undef)
  | .cell a t => do loadVar t (← asAddr (tmps.getD a undef))

theorem results_eq (fn : Func) (tmps : Array Value) : results fn tmps = (do
    let vs ← fn.results.mapM (resOf tmps)
    pure (if h : vs.size = 1 then vs[0] else .tuple vs)) := by
  unfold results
  congr 1

theorem results_run {P : Program} {m : AMap} {H : AHeap} {w : World} (r : R Fr wf m H w) {tmps : List Value} {tmps' : Array Value} (ht : LRel m tmps tmps'.toList) :
    ∀ (l : List ResultVar) {vs : List Value}, mapOpt (aresult P tmps H) l = some vs → ∃ vs', (l.mapM (resOf tmps')).run P w = .ok vs' w ∧ LRel m vs vs'
  | [], vs, h => by simp [mapOpt] at h; subst h; exact ⟨[], by simp, .nil⟩
  | x :: l, vs, h => by
    simp only [mapOpt] at h
    split at h
    case h_2 => simp at h
    rename_i y ys h1 h2
    simp at h; subst h
    obtain ⟨ys', g1, g2⟩ := results_run r ht l h2
    have getD : ∀ {t : Nat} {v : Value}, tmps[t]? = some v → ∃ v', tmps'.getD t undef = v' ∧ VRel m v v' := by
      intro t v hv
      obtain ⟨v', q1, q2⟩ := ht.get hv
      refine ⟨v', ?_, q2⟩
      have : tmps'[t]? = some v' := by simpa using q1
      simp [Array.getD_eq_getD_getElem?, this]
    cases x with
    | tmp t =>
      obtain ⟨v', q1, q2⟩ := getD h1
      refine ⟨v' :: ys', ?_, .cons q2 g2⟩
      have hr : (resOf tmps' (.tmp t)).run P w = .ok v' w := by simp [resOf, q1]
      simp only [List.mapM_cons, Sem.run_bind, hr, Sem.run_pure, Result.andThen_ok, g1]
    | cell a t =>
      simp only [aresult] at h1
      split at h1
      case h_2 => simp at h1
      rename_i ad ha
      obtain ⟨v', q1, q2⟩ := getD ha
      cases q2 with
      | ptr he =>
        obtain ⟨y', p1, p2⟩ := aload_run (P := P) r he h1
        refine ⟨y' :: ys', ?_, .cons p2 g2⟩
        have hr : (resOf tmps' (.cell a t)).run P w = .ok y' w := by simp only [resOf, q1, asAddr, Sem.run_bind, Sem.run_pure, Result.andThen_ok, p1]
        simp only [List.mapM_cons, Sem.run_bind, hr, Sem.run_pure, Result.andThen_ok, g1]

theorem oneOr_rel {m : AMap} {vs vs' : List Value} (h : LRel m vs vs') : VRel m (oneOr vs) (if h : (⟨vs'⟩ : Array Value).size = 1 then (⟨vs'⟩ : Array Value)[0] else .tuple ⟨vs'⟩) := by
  cases h with
  | nil => simpa [oneOr] using VRel.tuple (m := m) .nil
  | cons h1 h2 => cases h2 with
    | nil => simpa [oneOr] using h1
    | cons h3 h4 =>
      simp only [List.size_toArray, List.length_cons]
      rw [dif_neg (by omega)]
      exact .tuple (.cons h1 (.cons h3 h4))

theorem leave_sound {fn : Func} {f : FuncId} (hf : C.P.funcs[f]? = some fn) {s : ASt} {rep : Rep} (h : leave C fn s = some rep) {m : AMap} {w : World} {a : Act} (hs : SRel C Fr wf m s w a) :
    ∃ v H', rep = .ret v H' ∧ ∃ w' v', R Fr wf m H' w' ∧ VRel m v v' ∧ ∀ (fr : Frame) (cs : List Frame), fr.mode = .returning → fr.tmps = a.tmps → fr.defers = a.defers → fr.fn = f → fr.kind = .normal →
      Steps C.P (lone fr cs w) (lone { fr with defers := [] } cs w') ∧ ({ fr with defers := [] } : Frame).leaving C.P w' (.returned v') := by
  unfold leave at h
  split at h
  · simp at h
  rename_i H2 hta
  split at h
  case h_2 => simp at h
  rename_i vs hvs
  simp at h; subst h
  obtain ⟨w2, q1, q2⟩ := takeAll_steps C.P s.dfs hta hs.r hs.dfs
  obtain ⟨vs', p1, p2⟩ := results_run q1 hs.tmps fn.results.toList hvs
  refine ⟨_, _, rfl, w2, _, q1, oneOr_rel p2, fun fr cs hm ht hd hfn hk => ⟨q2 fr cs (by rw [hm]; simp) hd, hm, rfl, hk, fn, by rw [← hfn] at hf; exact hf, ?_⟩⟩
  rw [results_eq]
  rw [show ({ fr with defers := [] } : Frame).tmps = a.tmps from ht]
  simp only [Sem.run_bind, Array.mapM_eq_mapM_toList, Sem.run_map, p1, Result.andThen_ok, Sem.run_pure]
end

end Go.Eng
