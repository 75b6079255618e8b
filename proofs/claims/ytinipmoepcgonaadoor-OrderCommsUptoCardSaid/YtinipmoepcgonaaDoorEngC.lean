/-
  An interpreter of the model over a heap of its own, and the rules by which its answers are found: part 3.
-/
import Derived.Test.YtinipmoepcgonaaDoorEngB
set_option linter.unusedSimpArgs false
set_option linter.unusedVariables false

namespace Go.Eng
open Go

def pev (tm : List (Nat × PV)) : Operand → Option PV
  | .tmp t => tm.lookup t
  | .const v => if free v then some (.dv (.sc v)) else none
  | .func f => some (.fn f [] [])
  | .global _ => none

/-- A value's cells. -/
def pcells : PV → Option (List PV)
  | .bad => none
  | .tup _ => none
  | .ag cs => some cs
  | .dv (.ag cs) => some (cs.map .dv)
  | .dv (.sc v) => if (vcells v).all free then some ((vcells v).map fun w => .dv (.sc w)) else none
  | x => some [x]

def pblit (c : List PV) (off : Nat) : List PV → List PV
  | [] => c
  | v :: vs => pblit (c.set off v) (off + 1) vs

def pfill (place : Nat → Option (Nat × Nat)) (cells : List PV) : List (Nat × PV) → Option (List PV)
  | [] => some cells
  | (i, x) :: rest => match place i, pcells x with
    | some (off, size), some xs => if xs.length = size ∧ off + xs.length ≤ cells.length then pfill place (pblit cells off xs) rest else none
    | _, _ => none

def pparts (g : Operand → Option PV) : List (Nat × Operand) → Option (List (Nat × PV))
  | [] => some []
  | (i, x) :: r => match g x, pparts g r with
    | some v, some vs => some ((i, v) :: vs)
    | _, _ => none

/-- The bytes of cells. -/
def bytesOfD : List DV → Option (List UInt8)
  | [] => some []
  | .sc (.int .u8 n) :: r => match bytesOfD r with
    | some l => some (UInt8.ofNat n.toNat :: l)
    | none => none
  | _ :: _ => none

def str (l : List UInt8) : Value := .string ⟨⟨l⟩⟩

/-- What the slice reads: its cells. -/
def pview (O : List Ob) (k off m : Nat) : Option (Prop × Nat × List DV) :=
  match O[k]? with
  | some (.row z cs) => some (off + m * z ≤ cs.length, z, (cs.drop off).take (m * z))
  | some (.fro z cs) => some (off + m * z ≤ cs.length, z, (cs.drop off).take (m * z))
  | _ => none

def pLoad (P : Program) (O : List Ob) (t : TypeId) : PV → Option (Prop × PV)
  | .ld cs => match isAggT P t, sizeT P t with
    | some true, some n => some (n ≤ cs.length, .dv (.ag (cs.take n)))
    | some false, _ => some (0 < cs.length, .dv (cs.headD (.sc undef)))
    | _, _ => none
  | .pt k off => match isAggT P t, sizeT P t with
    | some true, some n => match O[k]? with
      | some (.var cs) => some (off + n ≤ cs.length, .ag ((cs.drop off).take n))
      | some (.row _ cs) => some (off + n ≤ cs.length, .dv (.ag ((cs.drop off).take n)))
      | some (.fro _ cs) => some (off + n ≤ cs.length, .dv (.ag ((cs.drop off).take n)))
      | _ => none
    | some false, _ => match O[k]? with
      | some (.var cs) => some (off < cs.length, cs.getD off .bad)
      | some (.row _ cs) => some (off < cs.length, .dv (cs.getD off (.sc undef)))
      | some (.fro _ cs) => some (off < cs.length, .dv (cs.getD off (.sc undef)))
      | _ => none
    | _, _ => none
  | _ => none

def isNilC : Value → Bool
  | .pointer none => true
  | .slice none 0 0 => true
  | .nilFunc => true
  | _ => false

/-- That it is not nil, of a type's kind. -/
def notNil (P : Program) (t : TypeId) : Value → PV → Option Prop
  | .slice none 0 0, .dv (.sl _ n _) => match P.underlying t with | some (.slice _) => some (n ≠ 0) | _ => none
  | .slice none 0 0, .ow _ _ n => match P.underlying t with | some (.slice _) => some (n ≠ 0) | _ => none
  | .pointer none, .pt _ _ => match P.underlying t with | some (.pointer _) => some True | _ => none
  | .pointer none, .ld _ => match P.underlying t with | some (.pointer _) => some True | _ => none
  | _, _ => none

def pBin (P : Program) (op : BinOp) (t : TypeId) (x y : Operand) : PV → PV → Option (Prop × PV)
  | .dv (.sc a), .dv (.sc b) => match op, a, b with
    | .quo, .int k a, .int j b => if k = j then some (b ≠ 0, .dv (.sc (.int k (k.wrap (a.tdiv b))))) else none
    | .rem, .int k a, .int j b => if k = j then some (b ≠ 0, .dv (.sc (.int k (a.tmod b)))) else none
    | .shl, .int k a, .int _ b => some (0 ≤ b, .dv (.sc (.int k (k.wrap (a * 2 ^ (min b.toNat k.bits))))))
    | .shr, .int k a, .int _ b => some (0 ≤ b, .dv (.sc (.int k (a.fdiv (2 ^ (min b.toNat k.bits))))))
    | _, _, _ => (abin P op t x y a b).map fun r => (True, .dv (.sc r))
  | .dv (.sc a), b => match op with
    | .eql => (notNil P t a b).map fun φ => (φ, .dv (.sc (.bool false)))
    | .neq => (notNil P t a b).map fun φ => (φ, .dv (.sc (.bool true)))
    | _ => none
  | a, .dv (.sc b) => match op with
    | .eql => (notNil P t b a).map fun φ => (φ, .dv (.sc (.bool false)))
    | .neq => (notNil P t b a).map fun φ => (φ, .dv (.sc (.bool true)))
    | _ => none
  | _, _ => none

def pConv (P : Program) (O : List Ob) (s d : TypeId) : PV → Option (Prop × PV)
  | .dv (.sl z _ cs) => match P.underlying s, P.underlying d with
    | some (.slice e), some .string => match P.underlying e with
      | some (.int .u8) => if z = 1 then (bytesOfD cs).map fun l => (True, .dv (.sc (str l))) else none
      | _ => none
    | _, _ => none
  | .ow k off n => match P.underlying s, P.underlying d with
    | some (.slice e), some .string => match P.underlying e with
      | some (.int .u8) => match pview O k off n with
        | some (φ, z, cs) => if z = 1 then (bytesOfD cs).map fun l => (φ, .dv (.sc (str l))) else none
        | none => none
      | _ => none
    | _, _ => none
  | _ => none

/-- A bound: what is owed, and which it is. -/
def pbound (dflt : Nat) : Option (Option PV) → Option (Prop × Nat)
  | none => some (True, dflt)
  | some (some (.dv (.sc (.int _ i)))) => some (0 ≤ i, i.toNat)
  | _ => none

def pSlice (P : Program) (O : List Ob) (t : TypeId) (x : PV) (lo hi mx : Option (Option PV)) : Option (Prop × PV) :=
  match x with
  | .dv (.sl z n cs) => match elemS P t, pbound 0 lo, pbound n hi, mx with
    | some e, some (φl, l), some (φh, h), none => if sizeT P e = some z then some (φl ∧ φh ∧ l ≤ h ∧ h ≤ n, .dv (.sl z (h - l) ((cs.drop (l * z)).take ((h - l) * z)))) else none
    | some e, some (φl, l), some (φh, h), some m => match hi, pbound 0 (some m) with
      | some _, some (φm, m) => if sizeT P e = some z then some (φl ∧ φh ∧ φm ∧ l ≤ h ∧ h ≤ m ∧ m ≤ n, .dv (.sl z (h - l) ((cs.drop (l * z)).take ((h - l) * z)))) else none
      | _, _ => none
    | _, _, _, _ => none
  | .ow k off n => match elemS P t, pbound 0 lo, pbound n hi, mx, O[k]? with
    | some e, some (φl, l), some (φh, h), none, some (.row z _) => if sizeT P e = some z then some (φl ∧ φh ∧ l ≤ h ∧ h ≤ n, .ow k (off + l * z) (h - l)) else none
    | some e, some (φl, l), some (φh, h), none, some (.fro z _) => if sizeT P e = some z then some (φl ∧ φh ∧ l ≤ h ∧ h ≤ n, .ow k (off + l * z) (h - l)) else none
    | _, _, _, _, _ => none
  | .dv (.sc (.slice none 0 0)) => match elemS P t, pbound 0 lo, pbound 0 hi, mx with
    | some e, some (φl, l), some (φh, h), none => if (sizeT P e).isSome then some (φl ∧ φh ∧ l = 0 ∧ h = 0, .dv (.sc (.slice none 0 0))) else none
    | _, _, _, _ => none
  | .dv (.sc (.string s)) => match P.underlying t, pbound 0 lo, pbound s.size hi, mx with
    | some .string, some (φl, l), some (φh, h), none => some (φl ∧ φh ∧ l ≤ h ∧ h ≤ s.size, .dv (.sc (str ((s.data.toList.take h).drop l))))
    | _, _, _, _ => none
  | _ => none

def pFieldAddr (P : Program) (t : TypeId) (f : Nat) (x : PV) : Option (Prop × PV) :=
  match P.underlying t with
  | some (.struct fs) => match fs[f]? with
    | some fl => match sizeT P fl.type with
      | some (_ + 1) => match x with
        | .pt k off => some (True, .pt k (off + fl.offset))
        | .ld cs => some (fl.offset ≤ cs.length, .ld (cs.drop fl.offset))
        | _ => none
      | _ => none
    | none => none
  | _ => none

/-- A part of an array or struct. -/
def pPart (P : Program) (t : TypeId) (off : Nat) : PV → Option (Prop × PV)
  | .ag cs => match isAggT P t, sizeT P t with
    | some true, some n => some (off + n ≤ cs.length, .ag ((cs.drop off).take n))
    | some false, _ => some (off < cs.length, cs.getD off .bad)
    | _, _ => none
  | .dv (.ag cs) => match isAggT P t, sizeT P t with
    | some true, some n => some (off + n ≤ cs.length, .dv (.ag ((cs.drop off).take n)))
    | some false, _ => some (off < cs.length, .dv (cs.getD off (.sc undef)))
    | _, _ => none
  | _ => none

def pField (P : Program) (t : TypeId) (f : Nat) (x : PV) : Option (Prop × PV) :=
  match P.underlying t with
  | some (.struct fs) => match fs[f]? with
    | some fl => pPart P fl.type fl.offset x
    | none => none
  | _ => none

def pIndexAddr (P : Program) (_O : List Ob) (t : TypeId) (x i : PV) : Option (Prop × PV) :=
  match i with
  | .dv (.sc (.int _ i)) => match x, P.underlying t with
    | .dv (.sl z n cs), some (.slice e) => if sizeT P e = some z then some (0 ≤ i ∧ i < (n : Int), .ld (cs.drop (i.toNat * z))) else none
    | .ow k off n, some (.slice e) => match sizeT P e with
      | some z => some (0 ≤ i ∧ i < (n : Int), .pt k (off + i.toNat * z))
      | none => none
    | .pt k off, some (.array n e) => match sizeT P e with
      | some z => some (0 ≤ i ∧ i < (n : Int), .pt k (off + i.toNat * z))
      | none => none
    | .ld cs, some (.array n e) => match sizeT P e with
      | some z => some (0 ≤ i ∧ i < (n : Int) ∧ i.toNat * z ≤ cs.length, .ld (cs.drop (i.toNat * z)))
      | none => none
    | _, _ => none
  | _ => none

def pIndex (P : Program) (t : TypeId) (x i : PV) : Option (Prop × PV) :=
  match i with
  | .dv (.sc (.int _ i)) => match x, P.underlying t with
    | .dv (.sc (.string s)), some .string => some (0 ≤ i ∧ i < (s.data.toList.length : Int), .dv (.sc (.int .u8 ((s.data.toList.getD i.toNat 0).toNat))))
    | .ag cs, some (.array n e) => match sizeT P e with
      | some z => (pPart P e (i.toNat * z) (.ag cs)).map fun r => ((0 ≤ i ∧ i < (n : Int)) ∧ r.1, r.2)
      | none => none
    | .dv (.ag cs), some (.array n e) => match sizeT P e with
      | some z => (pPart P e (i.toNat * z) (.dv (.ag cs))).map fun r => ((0 ≤ i ∧ i < (n : Int)) ∧ r.1, r.2)
      | none => none
    | _, _ => none
  | _ => none

def pTA (P : Program) (x : PV) (asserted : TypeId) (commaOk : Bool) : Option (Prop × PV) :=
  let go (t : TypeId) (whole inner : PV) : Option (Prop × PV) :=
    match P.underlying asserted with
    | some (.interface want) => match P.info? t with
      | some i => match Instr.missingMethod want i.methods with
        | none => some (True, if commaOk then .tup [whole, .dv (.sc (.bool true))] else whole)
        | some _ => if commaOk then (zeroT P asserted).map fun z => (True, .tup [.dv (.sc z), .dv (.sc (.bool false))]) else none
      | none => none
    | some _ =>
      if t = asserted then some (True, if commaOk then .tup [inner, .dv (.sc (.bool true))] else inner)
      else if commaOk then (zeroT P asserted).map fun z => (True, .tup [.dv (.sc z), .dv (.sc (.bool false))]) else none
    | none => none
  match x with
  | .ifc t y => go t (.ifc t y) y
  | .dv (.ifc t d) => go t (.dv (.ifc t d)) (.dv d)
  | _ => none

def pBuild (P : Program) (t : TypeId) (parts : List (Nat × PV)) : Option (Prop × PV) :=
  match zeroT P t, P.underlying t with
  | some z, some (.struct fs) =>
    if (fs.toList.all fun f => (sizeT P f.type).isSome) = false then none else
    match pcells (.dv (.sc z)) with
    | some zc => (pfill (fun i => match fs[i]? with | some f => (sizeT P f.type).map fun n => (f.offset, n) | none => none) zc parts).map fun cs => (True, .ag cs)
    | none => none
  | some z, some (.array _ e) => match sizeT P e, pcells (.dv (.sc z)) with
    | some sz, some zc => (pfill (fun i => some (i * sz, sz)) zc parts).map fun cs => (True, .ag cs)
    | _, _ => none
  | _, _ => none

def pLen (P : Program) (t : TypeId) : PV → Option (Prop × PV)
  | .dv (.sl _ n _) => match P.underlying t with
    | some (.slice _) => some (True, .dv (.sc (goInt n)))
    | _ => none
  | .ow _ _ n => match P.underlying t with
    | some (.slice _) => some (True, .dv (.sc (goInt n)))
    | _ => none
  | .ag _ => match P.underlying t with
    | some (.array n _) => some (True, .dv (.sc (goInt n)))
    | _ => none
  | .dv (.ag _) => match P.underlying t with
    | some (.array n _) => some (True, .dv (.sc (goInt n)))
    | _ => none
  | .pt _ _ => match P.underlying t with
    | some (.pointer e) => match P.underlying e with
      | some (.array n _) => some (True, .dv (.sc (goInt n)))
      | _ => none
    | _ => none
  | _ => none

/-- By what is owed of scalars alone. -/
def plS (P : Program) (g : Operand → Option PV) (o : Oper) : Option (Prop × PV) :=
  match alight P (scOf g) #[] o with
  | some v => if free v then some (True, .dv (.sc v)) else none
  | none => none

def isSc : Option PV → Bool
  | some (.dv (.sc _)) => true
  | _ => false

def pl (P : Program) (g : Operand → Option PV) (O : List Ob) (o : Oper) : Option (Prop × PV) :=
  match o.op with
  | .move x => (g x).map fun y => (True, y)
  | .assign x => (g x).map fun y => (True, y)
  | .pick c a b => match g c, g a, g b with
    | some (.dv (.sc (.bool t))), some (.dv (.sc u)), some (.dv (.sc v)) => some (True, .dv (.sc (if t then u else v)))
    | some (.dv (.sc (.bool true))), some u, some _ => some (True, u)
    | some (.dv (.sc (.bool false))), some _, some v => some (True, v)
    | _, _, _ => none
  | .load t a => (g a).bind (pLoad P O t)
  | .nilCheck x => match g x with
    | some (.pt k off) => some (True, .pt k off)
    | some (.ld cs) => some (True, .ld cs)
    | some (.fn f a b) => some (True, .fn f a b)
    | some (.ifc t y) => some (True, .ifc t y)
    | some (.dv (.ifc t y)) => some (True, .dv (.ifc t y))
    | _ => plS P g o
  | .binOp op t x y _ => match g x, g y with
    | some a, some b => pBin P op t x y a b
    | _, _ => none
  | .convert s d x => if isSc (g x) then plS P g o else (g x).bind (pConv P O s d)
  | .makeInterface t x => match P.underlying t with
    | some (.interface _) => none
    | some _ => match g x with
      | some (.dv (.sc v)) => if free (.iface t v) then some (True, .dv (.sc (.iface t v))) else none
      | some (.dv d) => some (True, .dv (.ifc t d))
      | some y => some (True, .ifc t y)
      | none => none
    | none => none
  | .makeFunc (.func f) first cap => match mapOpt g first.toList, mapOpt g cap.toList with
    | some a, some b => some (True, .fn f a b)
    | _, _ => none
  | .slice t x lo hi mx => (g x).bind fun y => pSlice P O t y (lo.map g) (hi.map g) (mx.map g)
  | .fieldAddr t x f => (g x).bind (pFieldAddr P t f)
  | .field t x f => if isSc (g x) then plS P g o else (g x).bind (pField P t f)
  | .indexAddr t x i => (g x).bind fun y => (g i).bind (pIndexAddr P O t y)
  | .index t x i => (g x).bind fun y => (g i).bind (pIndex P t y)
  | .typeAssert x _ asserted ok => if isSc (g x) then plS P g o else (g x).bind fun y => pTA P y asserted ok
  | .extract x i => match g x with
    | some (.tup cs) => some (i < cs.length, cs.getD i .bad)
    | _ => plS P g o
  | .build t parts => (pparts g parts.toList).bind (pBuild P t)
  | .call { callee := .builtin .len, args, argTypes } => match args.toList, argTypes[0]? with
    | [x], some t => if isSc (g x) then plS P g o else (g x).bind (pLen P t)
    | _, _ => none
  | _ => plS P g o
end Go.Eng

namespace Go.Eng
open Go

def RVL (H : AHeap) (Z : Nat → Prop) (B : Blks) (cs : List PV) (vs : List Value) : Prop :=
  cs.length = vs.length ∧ ∀ (i : Nat) x v, cs[i]? = some x → vs[i]? = some v → RV H Z B x v

section
variable {P : Program} {H : AHeap} {Z : Nat → Prop} {B : Blks} {O : List Ob} {g : Operand → Option PV} {ρ : Operand → Option Value}

theorem RVL.nil : RVL H Z B [] [] := ⟨rfl, fun i x v h => by simp at h⟩
theorem RVL.cons {x : PV} {v : Value} {xs : List PV} {vs : List Value} (h : RV H Z B x v) (k : RVL H Z B xs vs) : RVL H Z B (x :: xs) (v :: vs) :=
  ⟨by simp [k.1], fun i y w hy hw => by
    cases i with
    | zero => simp at hy hw; subst hy; subst hw; exact h
    | succ i => exact k.2 i y w (by simpa using hy) (by simpa using hw)⟩

theorem mapOpt_ok (hg : ∀ x y, g x = some y → ∃ v, ρ x = some v ∧ RV H Z B y v) : ∀ {l : List Operand} {r : List PV}, mapOpt g l = some r → ∃ vs, mapOpt ρ l = some vs ∧ RVL H Z B r vs
  | [], r, k => by cases k; exact ⟨[], rfl, .nil⟩
  | x :: xs, r, k => by
    simp only [mapOpt] at k
    cases hx : g x with
    | none => simp [hx] at k
    | some y => cases hxs : mapOpt g xs with
      | none => simp [hx, hxs] at k
      | some ys =>
        rw [hx, hxs] at k
        cases k
        obtain ⟨v, h1, h2⟩ := hg x y hx
        obtain ⟨vs, h3, h4⟩ := mapOpt_ok hg hxs
        exact ⟨v :: vs, by simp only [mapOpt, h1, h3], .cons h2 h4⟩

theorem sc_ok (hg : ∀ x y, g x = some y → ∃ v, ρ x = some v ∧ RV H Z B y v) (x : Operand) (v : Value) (h : scOf g x = some v) : ρ x = some v := by
  unfold scOf at h
  split at h
  · rename_i w hx
    cases h
    obtain ⟨u, h1, h2⟩ := hg x _ hx
    cases h2 with
    | dv hd => cases hd; exact h1
  · cases h

theorem plS_ok (hg : ∀ x y, g x = some y → ∃ v, ρ x = some v ∧ RV H Z B y v) {o : Oper} {φ : Prop} {y : PV} (h : plS P g o = some (φ, y)) : ∃ v, alight P ρ H o = some v ∧ RV H Z B y v := by
  unfold plS at h
  cases ha : alight P (scOf g) #[] o with
  | none => simp [ha] at h
  | some v =>
    simp only [ha] at h
    split at h
    · rename_i hf
      cases h
      exact ⟨v, alight_mono (sc_ok hg) ha, .dv (.sc hf)⟩
    · cases h

theorem RDs.drop {cs : List DV} {vs : List Value} {o k : Nat} (h : RDs H Z cs vs o) (hk : k ≤ cs.length) : RDs H Z (cs.drop k) vs (o + k) :=
  ⟨by have := h.1; simp only [List.length_drop]; omega, fun i x v hx hv => h.2 (k + i) x v (by simpa using hx) (by rw [show o + (k + i) = o + k + i by omega]; exact hv)⟩

theorem RDs.take {cs : List DV} {vs : List Value} {o : Nat} (k : Nat) (h : RDs H Z cs vs o) : RDs H Z (cs.take k) vs o :=
  ⟨by have := h.1; simp only [List.length_take]; omega, fun i x v hx hv => h.2 i x v (by rw [List.getElem?_take] at hx; split at hx; exact hx; cases hx) hv⟩

theorem RDs.get {cs : List DV} {vs : List Value} {o i : Nat} (h : RDs H Z cs vs o) (hi : i < cs.length) (d : DV) : ∃ v, vs[o + i]? = some v ∧ RD H Z (cs.getD i d) v := by
  have := h.1
  refine ⟨vs[o + i]'(by omega), by simp [show o + i < vs.length by omega], ?_⟩
  exact h.2 i _ _ (by simp [List.getD, hi]) (by simp [show o + i < vs.length by omega])

theorem RDs.agg {cs : List DV} {vs : List Value} {o n : Nat} (h : RDs H Z cs vs o) (hn : n ≤ cs.length) : RD H Z (.ag (cs.take n)) (.agg ⟨(vs.drop o).take n⟩) :=
  .ag (by have := h.1; simp; omega) fun i x v hx hv => by
    rw [List.getElem?_take] at hx hv
    split at hx
    · rename_i hi
      rw [if_pos hi, List.getElem?_drop] at hv
      exact h.2 i x v hx hv
    · cases hx

theorem RVs.get {cs : List PV} {vs : List Value} {o i : Nat} (h : RVs H Z B cs vs o) (hi : i < cs.length) (d : PV) : ∃ v, vs[o + i]? = some v ∧ RV H Z B (cs.getD i d) v := by
  have := h.1
  refine ⟨vs[o + i]'(by omega), by simp [show o + i < vs.length by omega], ?_⟩
  exact h.2 i _ _ (by simp [List.getD, hi]) (by simp [show o + i < vs.length by omega])

theorem RVs.agg {cs : List PV} {vs : List Value} {o k n : Nat} (h : RVs H Z B cs vs o) (hn : k + n ≤ cs.length) : RV H Z B (.ag ((cs.drop k).take n)) (.agg ⟨(vs.drop (o + k)).take n⟩) :=
  .ag (by have := h.1; simp; omega) fun i x v hx hv => by
    rw [List.getElem?_take] at hx hv
    split at hx
    · rename_i hi
      rw [List.getElem?_drop] at hx
      rw [if_pos hi, List.getElem?_drop] at hv
      exact h.2 (k + i) x v hx (by rw [show o + (k + i) = o + k + i by omega]; exact hv)
    · cases hx

/-- The row of an object. -/
theorem row_cells (hO : ∀ k o, O[k]? = some o → OkOb H Z B k o) {k z : Nat} {cs : List DV} (hk : O[k]? = some (.row z cs) ∨ O[k]? = some (.fro z cs)) :
    (∃ b o vs st, B[k]? = some (some (b, o)) ∧ H[b]? = some (.cells vs st) ∧ (st = .ro ∨ st = .rw z) ∧ z ≠ 0 ∧ RDs H Z cs vs o) ∨ (B[k]? = some none ∧ cs = []) := by
  rcases hk with hk | hk
  · rcases hO k _ hk with ⟨b, o, vs, h1, h2, h3, h4⟩ | h
    · exact .inl ⟨b, o, vs, _, h1, h2, .inr rfl, h3, h4⟩
    · exact .inr h
  · rcases hO k _ hk with ⟨b, o, vs, st, h1, _, h2, h3, h4, h5⟩ | h
    · exact .inl ⟨b, o, vs, st, h1, h2, h3, h4, h5⟩
    · exact .inr h

theorem alive_of {z : Nat} {st : St} (h : st = .ro ∨ st = .rw z) : st ≠ .dead := by rcases h with rfl | rfl <;> simp

theorem RDs.cells? {cs : List DV} {vs : List Value} {b o n : Nat} {st : St} (h : RDs H Z cs vs o) (hb : H[b]? = some (.cells vs st)) (hs : st ≠ .dead) (hn : n ≤ cs.length) : H.cells? ⟨b, o, none⟩ n = some ((vs.drop o).take n) :=
  cells?_eq hb hs (by have := h.1; omega)

theorem bytes_ok : ∀ {cs : List DV} {vs : List Value} {l : List UInt8}, bytesOfD cs = some l → cs.length = vs.length → (∀ (i : Nat) x v, cs[i]? = some x → vs[i]? = some v → RD H Z x v) → bytesOfCells vs = some l
  | [], [], l, h, _, _ => by cases h; rfl
  | [], _ :: _, _, _, h, _ => by simp at h
  | _ :: _, [], _, _, h, _ => by simp at h
  | c :: cs, v :: vs, l, h, hl, hr => by
    unfold bytesOfD at h
    split at h
    · rename_i h0; cases h0
    · rename_i n r heq
      cases heq
      split at h
      · rename_i l' hl'
        cases h
        have := bytes_ok (vs := vs) hl' (by simpa using hl) fun i x v hx hv => hr (i + 1) x v (by simpa using hx) (by simpa using hv)
        have h0 := hr 0 _ _ rfl rfl
        cases h0
        simp only [bytesOfCells, this]
      · cases h
    · cases h

theorem win_ok {cs : List DV} {vs : List Value} {o n : Nat} (h : RDs H Z cs vs o) (hn : n = cs.length) : cs.length = ((vs.drop o).take n).length ∧ ∀ (i : Nat) x v, cs[i]? = some x → ((vs.drop o).take n)[i]? = some v → RD H Z x v := by
  subst hn
  have := h.1
  refine ⟨by simp; omega, fun i x v hx hv => ?_⟩
  rw [List.getElem?_take] at hv
  split at hv
  · rw [List.getElem?_drop] at hv; exact h.2 i x v hx hv
  · cases hv

theorem pcells_ok {x : PV} {v : Value} {cs : List PV} (h : RV H Z B x v) (hc : pcells x = some cs) : RVL H Z B cs (vcells v) := by
  have one : ∀ {y : PV} {w : Value}, RV H Z B y w → vcells w = [w] → RVL H Z B [y] (vcells w) := fun hy hw => by rw [hw]; exact .cons hy .nil
  cases h with
  | bad => cases hc
  | tup => cases hc
  | ag h1 h2 => cases hc; exact ⟨h1, h2⟩
  | ow h1 h2 => cases hc; exact one (.ow h1 h2) rfl
  | ow0 h1 => cases hc; exact one (.ow0 h1) rfl
  | pt h1 => cases hc; exact one (.pt h1) rfl
  | ld h1 h2 h3 h4 h5 => cases hc; exact one (.ld h1 h2 h3 h4 h5) rfl
  | fn h1 h2 h3 h4 => cases hc; exact one (.fn h1 h2 h3 h4) rfl
  | ifc h1 => cases hc; exact one (.ifc h1) rfl
  | dv hd => cases hd with
    | sc hf =>
      simp only [pcells] at hc
      split at hc
      · rename_i ha
        cases hc
        refine ⟨by simp, fun i x w hx hw => ?_⟩
        rw [List.getElem?_map, hw] at hx
        simp only [Option.map_some, Option.some.injEq] at hx
        subst hx
        rw [List.all_eq_true] at ha
        exact .dv (.sc (ha _ (List.mem_of_getElem? hw)))
      · cases hc
    | nil => cases hc; exact one (.dv .nil) rfl
    | sl h1 h2 h3 h4 h5 h6 h7 h8 => cases hc; exact one (.dv (.sl h1 h2 h3 h4 h5 h6 h7 h8)) rfl
    | ag h1 h2 =>
      cases hc
      refine ⟨by rw [List.length_map]; exact h1, fun i x w hx hw => ?_⟩
      rw [List.getElem?_map] at hx
      obtain ⟨d, hd, rfl⟩ := Option.map_eq_some_iff.1 hx
      exact .dv (h2 i d w hd hw)
    | ifc h1 => cases hc; exact one (.dv (.ifc h1)) rfl

theorem RVL.set {cs : List PV} {vs : List Value} (h : RVL H Z B cs vs) (i : Nat) {x : PV} {v : Value} (hx : RV H Z B x v) : RVL H Z B (cs.set i x) (vs.set i v) := by
  refine ⟨by simp [h.1], fun j y w hy hw => ?_⟩
  rw [List.getElem?_set] at hy hw
  split at hy
  · rename_i hij
    subst hij
    rw [if_pos rfl] at hw
    split at hy
    · cases hy
      split at hw
      · cases hw; exact hx
      · cases hw
    · cases hy
  · rename_i hij
    rw [if_neg hij] at hw
    exact h.2 j y w hy hw

theorem RVL.blit : ∀ {xs : List PV} {ws : List Value} {cs : List PV} {vs : List Value} (off : Nat), RVL H Z B cs vs → RVL H Z B xs ws → RVL H Z B (pblit cs off xs) (Go.Eng.blit vs off ws)
  | [], [], _, _, _, h, _ => h
  | [], _ :: _, _, _, _, _, k => by have := k.1; simp at this
  | _ :: _, [], _, _, _, _, k => by have := k.1; simp at this
  | x :: xs, w :: ws, cs, vs, off, h, k => by
    simp only [pblit, Go.Eng.blit]
    exact RVL.blit (off + 1) (h.set off (k.2 0 x w rfl rfl)) ⟨by have := k.1; simpa using this, fun i y u hy hu => k.2 (i + 1) y u (by simpa using hy) (by simpa using hu)⟩

theorem pblit_length : ∀ (c : List PV) (off : Nat) (vs : List PV), (pblit c off vs).length = c.length
  | _, _, [] => rfl
  | c, off, v :: vs => by simp only [pblit]; rw [pblit_length]; simp

/-- Parts, one by one. -/
inductive RPs (H : AHeap) (Z : Nat → Prop) (B : Blks) : List (Nat × PV) → List (Nat × Value) → Prop where
  | nil : RPs H Z B [] []
  | cons {i : Nat} {x : PV} {v : Value} {xs : List (Nat × PV)} {vs : List (Nat × Value)} : RV H Z B x v → RPs H Z B xs vs → RPs H Z B ((i, x) :: xs) ((i, v) :: vs)

theorem pparts_ok (hg : ∀ x y, g x = some y → ∃ v, ρ x = some v ∧ RV H Z B y v) : ∀ {l : List (Nat × Operand)} {r : List (Nat × PV)}, pparts g l = some r →
    ∃ vs, partsOf ρ l = some vs ∧ RPs H Z B r vs
  | [], r, k => by cases k; exact ⟨[], rfl, .nil⟩
  | (i, x) :: xs, r, k => by
    simp only [pparts] at k
    cases hx : g x with
    | none => simp [hx] at k
    | some y => cases hxs : pparts g xs with
      | none => simp [hx, hxs] at k
      | some ys =>
        rw [hx, hxs] at k
        cases k
        obtain ⟨v, h1, h2⟩ := hg x y hx
        obtain ⟨vs, h3, h4⟩ := pparts_ok hg hxs
        exact ⟨(i, v) :: vs, by simp only [partsOf, h1, h3], .cons h2 h4⟩

theorem pfill_ok {place : Nat → Option (Nat × Nat)} : ∀ {parts : List (Nat × PV)} {vps : List (Nat × Value)} {cs : List PV} {vs : List Value} {r : List PV},
    RPs H Z B parts vps → RVL H Z B cs vs → pfill place cs parts = some r → ∃ ws, fillL place vs vps = some ws ∧ RVL H Z B r ws
  | [], _, _, _, _, .nil, h, k => by cases k; exact ⟨_, rfl, h⟩
  | _, _, cs, vs, r, .cons (i := i) (x := x) hxv hr, h, k => by
    simp only [pfill] at k
    cases hp : place i with
    | none => simp [hp] at k
    | some os =>
      obtain ⟨off, size⟩ := os
      cases hc : pcells x with
      | none => simp [hp, hc] at k
      | some xs =>
        simp only [hp, hc] at k
        split at k
        · rename_i hl
          have hcs := pcells_ok hxv hc
          obtain ⟨ws, h1, h2⟩ := pfill_ok hr (RVL.blit off h hcs) k
          refine ⟨ws, ?_, h2⟩
          simp only [fillL, hp]
          rw [if_pos ⟨by rw [← hcs.1]; exact hl.1, by rw [← hcs.1, ← h.1]; exact hl.2⟩]
          exact h1
        · cases k
end
end Go.Eng

namespace Go.Eng
open Go

theorem extract_list (s : ByteArray) (l h : Nat) : s.extract l h = ⟨⟨(s.data.toList.take h).drop l⟩⟩ := by
  apply ByteArray.ext
  rw [ByteArray.data_extract]
  apply Array.ext'
  simp [List.drop_take]

theorem pureRun_bind {α β : Type} (P : Program) (m : Sem α) (f : α → Sem β) : pureRun P (m >>= f) = (pureRun P m).bind fun a => pureRun P (f a) := by
  show pureRun P (Sem.bind m f) = _
  induction m with
  | pure a => rfl
  | program k ih => exact ih P
  | _ => rfl

theorem pureRun_pure {α : Type} (P : Program) (a : α) : pureRun P (pure a : Sem α) = some a := rfl

theorem pureRun_underlying {P : Program} {t : TypeId} {d : TypeDesc} (h : P.underlying t = some d) : pureRun P (underlying t) = some d := by
  unfold underlying
  rw [pureRun_bind, show pureRun P program = some P from rfl]
  simp only [Option.bind_some, h]
  rfl

/-- A bound as the model gets it. -/
def IsB (d : Nat) (v : Option Value) (l : Nat) : Prop := (v = none ∧ l = d) ∨ ∃ k i, v = some (.int k i) ∧ 0 ≤ i ∧ l = i.toNat

theorem pureRun_sliceBound (P : Program) {k : IntKind} {i : Int} {y : Nat} {c : BoundsCode} (h0 : 0 ≤ i) (h1 : i ≤ y) : pureRun P (Instr.sliceBound (.int k i) y c) = some i.toNat := by
  unfold Instr.sliceBound
  rw [pureRun_bind]
  have : pureRun P (asIntOf (.int k i)) = some (k, i) := rfl
  rw [this]
  simp only [Option.bind_some, if_pos (show 0 ≤ i ∧ i ≤ (y : Int) from ⟨h0, h1⟩)]
  rfl

theorem pureRun_bounds (P : Program) {b : Bool} {n : Nat} {lo hi : Option Value} {l h : Nat} (hl : IsB 0 lo l) (hh : IsB n hi h) (h1 : l ≤ h) (h2 : h ≤ n) : pureRun P (Instr.sliceBounds b n n lo hi none) = some (l, h, n) := by
  unfold Instr.sliceBounds
  rcases hl with ⟨rfl, rfl⟩ | ⟨k, i, rfl, h3, rfl⟩ <;> rcases hh with ⟨rfl, rfl⟩ | ⟨k', j, rfl, h4, rfl⟩
  · rfl
  · have e2 : ∀ {c}, pureRun P (Instr.sliceBound (.int k' j) n c) = some j.toNat := pureRun_sliceBound P h4 (by omega)
    simp only [pureRun_bind, pureRun_pure, Option.bind_some, e2]
  · have e1 : ∀ {c}, pureRun P (Instr.sliceBound (.int k i) h c) = some i.toNat := pureRun_sliceBound P h3 (by omega)
    simp only [pureRun_bind, pureRun_pure, Option.bind_some, e1]
  · have e2 : ∀ {c}, pureRun P (Instr.sliceBound (.int k' j) n c) = some j.toNat := pureRun_sliceBound P h4 (by omega)
    have e1 : ∀ {c}, pureRun P (Instr.sliceBound (.int k i) j.toNat c) = some i.toNat := pureRun_sliceBound P h3 (by omega)
    simp only [pureRun_bind, pureRun_pure, Option.bind_some, e1, e2]

theorem slice_str (P : Program) {t : TypeId} (ht : P.underlying t = some .string) (s : ByteArray) {lo hi : Option Value} {l h : Nat} (hl : IsB 0 lo l) (hh : IsB s.size hi h) (h1 : l ≤ h) (h2 : h ≤ s.size) :
    pureRun P (Instr.sliceAt t (.string s) lo hi none) = some (str ((s.data.toList.take h).drop l)) := by
  unfold Instr.sliceAt
  rw [pureRun_bind, pureRun_underlying ht]
  simp only [Option.bind_some]
  unfold Instr.slice
  rw [pureRun_bind, pureRun_underlying ht]
  simp only [Option.bind_some, Option.isSome_none, Bool.false_eq_true, if_false, pureRun_bind, pureRun_pure, pureRun_bounds P hl hh h1 h2, extract_list]
  rfl

section
variable {P : Program} {H : AHeap} {Z : Nat → Prop} {B : Blks} {O : List Ob} {g : Operand → Option PV} {ρ : Operand → Option Value}

theorem pview_ok (hO : ∀ k o, O[k]? = some o → OkOb H Z B k o) {k off m z : Nat} {cs : List DV} {φ : Prop} (h : pview O k off m = some (φ, z, cs)) (hφ : φ) {v : Value} (hv : RV H Z B (.ow k off m) v) :
    (∃ b o c vs st, v = .slice (some ⟨b, o + off, none⟩) m c ∧ B[k]? = some (some (b, o)) ∧ H[b]? = some (.cells vs st) ∧ (st = .ro ∨ st = .rw z) ∧ z ≠ 0 ∧ cs.length = m * z ∧ RDs H Z cs vs (o + off) ∧ m ≤ c) ∨
    (v = .slice none 0 0 ∧ m = 0 ∧ cs = []) := by
  have main : ∀ cs0, (O[k]? = some (.row z cs0) ∨ O[k]? = some (.fro z cs0)) → off + m * z ≤ cs0.length → cs = (cs0.drop off).take (m * z) → (∃ b o c vs st, v = .slice (some ⟨b, o + off, none⟩) m c ∧ B[k]? = some (some (b, o)) ∧ H[b]? = some (.cells vs st) ∧ (st = .ro ∨ st = .rw z) ∧ z ≠ 0 ∧ cs.length = m * z ∧ RDs H Z cs vs (o + off) ∧ m ≤ c) ∨
    (v = .slice none 0 0 ∧ m = 0 ∧ cs = []) := fun cs0 hk hl hcs => by
    rcases row_cells hO hk with ⟨b, o, vs, st, h1, h2, h3, h4, h5⟩ | ⟨h1, h2⟩
    · cases hv with
      | ow e1 e2 =>
        rw [h1] at e1
        cases e1
        refine .inl ⟨b, o, _, vs, st, rfl, h1, h2, h3, h4, by rw [hcs]; simp; omega, ?_, e2⟩
        rw [hcs]
        exact (h5.drop (by omega)).take _
      | ow0 e1 => rw [h1] at e1; cases e1
    · cases hv with
      | ow e1 e2 => rw [h1] at e1; cases e1
      | ow0 e1 => subst h2; exact .inr ⟨rfl, rfl, by rw [hcs]; simp⟩
  unfold pview at h
  split at h
  · rename_i hk; cases h; exact main _ (.inl hk) hφ rfl
  · rename_i hk; cases h; exact main _ (.inr hk) hφ rfl
  · cases h

theorem pLoad_ok (hO : ∀ k o, O[k]? = some o → OkOb H Z B k o) {t : TypeId} {x y : PV} {φ : Prop} (h : pLoad P O t x = some (φ, y)) (hφ : φ) {v : Value} (hv : RV H Z B x v) :
    ∃ a w, v = .pointer (some a) ∧ aload P H t a = some w ∧ RV H Z B y w := by
  unfold pLoad at h
  cases hv with
  | ld h1 h2 h3 h4 h5 =>
    rename_i b o cs vs st
    have hr : RDs H Z cs vs o := ⟨h4, h5⟩
    simp only at h
    split at h
    · rename_i n ha hn
      cases h
      refine ⟨_, _, rfl, by simp only [aload, ha, hn, hr.cells? h2 h3 hφ, Option.map_some], .dv (hr.agg hφ)⟩
    · rename_i ha
      cases h
      obtain ⟨w, e1, e2⟩ := hr.get hφ (.sc undef)
      refine ⟨_, w, rfl, by simp only [aload, ha]; rw [cell?_eq h2 h3]; exact e1, .dv ?_⟩
      cases cs with
      | nil => simp at hφ
      | cons c cs => exact e2
    · cases h
  | pt h1 =>
    rename_i k off b o
    simp only at h
    have rowc : ∀ {z : Nat} {cs : List DV}, (O[k]? = some (.row z cs) ∨ O[k]? = some (.fro z cs)) → ∃ vs st, H[b]? = some (.cells vs st) ∧ st ≠ .dead ∧ RDs H Z cs vs o := fun hk => by
      rcases row_cells hO hk with ⟨b', o', vs, st, e1, e2, e3, e4, e5⟩ | ⟨e1, e2⟩
      · rw [h1] at e1; cases e1; exact ⟨vs, st, e2, alive_of e3, e5⟩
      · rw [h1] at e1; cases e1
    have agg : ∀ {z n : Nat} {cs : List DV}, isAggT P t = some true → sizeT P t = some n → (O[k]? = some (.row z cs) ∨ O[k]? = some (.fro z cs)) → off + n ≤ cs.length →
        ∃ w, aload P H t ⟨b, o + off, none⟩ = some w ∧ RV H Z B (.dv (.ag ((cs.drop off).take n))) w := fun {z n cs} ha hn hk hl => by
      obtain ⟨vs, st, e1, e2, e3⟩ := rowc hk
      have hd := e3.drop (k := off) (by omega)
      have hl2 : n ≤ (cs.drop off).length := by rw [List.length_drop]; exact Nat.le_sub_of_add_le (by rw [Nat.add_comm]; exact hl)
      exact ⟨_, by simp only [aload, ha, hn, hd.cells? e1 e2 hl2, Option.map_some], .dv (hd.agg hl2)⟩
    have one : ∀ {z : Nat} {cs : List DV}, isAggT P t = some false → (O[k]? = some (.row z cs) ∨ O[k]? = some (.fro z cs)) → off < cs.length →
        ∃ w, aload P H t ⟨b, o + off, none⟩ = some w ∧ RV H Z B (.dv (cs.getD off (.sc undef))) w := fun ha hk hl => by
      obtain ⟨vs, st, e1, e2, e3⟩ := rowc hk
      obtain ⟨w, f1, f2⟩ := e3.get hl (.sc undef)
      exact ⟨w, by simp only [aload, ha]; rw [cell?_eq e1 e2]; exact f1, .dv f2⟩
    split at h
    · rename_i n ha hn
      split at h
      · rename_i cs hk
        cases h
        obtain ⟨b', o', vs, e1, e2, e3⟩ := hO k _ hk
        rw [h1] at e1; cases e1
        have hl := e3.1
        refine ⟨_, _, rfl, ?_, e3.agg hφ⟩
        simp only [aload, ha, hn]
        rw [cells?_eq e2 (by simp) (by omega)]
        rfl
      · rename_i hk; cases h; obtain ⟨w, e1, e2⟩ := agg ha hn (.inl hk) hφ; exact ⟨_, w, rfl, e1, e2⟩
      · rename_i hk; cases h; obtain ⟨w, e1, e2⟩ := agg ha hn (.inr hk) hφ; exact ⟨_, w, rfl, e1, e2⟩
      · cases h
    · rename_i ha
      split at h
      · rename_i cs hk
        cases h
        obtain ⟨b', o', vs, e1, e2, e3⟩ := hO k _ hk
        rw [h1] at e1; cases e1
        obtain ⟨w, f1, f2⟩ := e3.get hφ .bad
        exact ⟨_, w, rfl, by simp only [aload, ha]; rw [cell?_eq e2 (by simp)]; exact f1, f2⟩
      · rename_i hk; cases h; obtain ⟨w, e1, e2⟩ := one ha (.inl hk) hφ; exact ⟨_, w, rfl, e1, e2⟩
      · rename_i hk; cases h; obtain ⟨w, e1, e2⟩ := one ha (.inr hk) hφ; exact ⟨_, w, rfl, e1, e2⟩
      · cases h
    · cases h
  | _ => cases h

theorem notNil_ok {t : TypeId} {a b : Value} {y : PV} {φ : Prop} (h : notNil P t a y = some φ) (hφ : φ) (hb : RV H Z B y b) :
    (∀ (op : BinOp) (x1 x2 : Operand), op = .eql → abin P op t x1 x2 a b = some (.bool false) ∧ abin P op t x1 x2 b a = some (.bool false)) ∧
    (∀ (op : BinOp) (x1 x2 : Operand), op = .neq → abin P op t x1 x2 a b = some (.bool true) ∧ abin P op t x1 x2 b a = some (.bool true)) := by
  unfold notNil at h
  split at h
  · -- a slice
    rename_i z n cs
    split at h
    · rename_i e hu
      cases h
      cases hb with
      | dv hd => cases hd with
        | nil => exact absurd rfl hφ
        | sl h1 h2 h3 h4 h5 h6 h7 h8 =>
          constructor <;> rintro op x1 x2 rfl <;> constructor <;> simp [abin, free, freeN, nilEq, eqKind, isNilOf, hu]
    · cases h
  · split at h
    · rename_i e hu
      cases h
      cases hb with
      | ow0 h1 => exact absurd rfl hφ
      | ow h1 h2 => constructor <;> rintro op x1 x2 rfl <;> constructor <;> simp [abin, free, freeN, nilEq, eqKind, isNilOf, hu]
    · cases h
  · split at h
    · rename_i e hu
      cases h
      cases hb with
      | pt h1 => constructor <;> rintro op x1 x2 rfl <;> constructor <;> simp [abin, free, freeN, nilEq, eqKind, isNilOf, hu]
    · cases h
  · split at h
    · rename_i e hu
      cases h
      cases hb with
      | ld h1 h2 h3 h4 h5 => constructor <;> rintro op x1 x2 rfl <;> constructor <;> simp [abin, free, freeN, nilEq, eqKind, isNilOf, hu]
    · cases h
  · cases h

theorem abin_free {op : BinOp} {t : TypeId} {x y : Operand} {a b r : Value} (ha : free a = true) (hb : free b = true) (h : abin P op t x y a b = some r) : free r = true := by
  unfold abin at h
  rw [if_pos (by simp [ha, hb])] at h
  split at h
  · split at h
    · cases h; assumption
    · cases h
  · cases h

theorem pBin_ok {op : BinOp} {t : TypeId} {x1 x2 : Operand} {x y r : PV} {φ : Prop} (h : pBin P op t x1 x2 x y = some (φ, r)) (hφ : φ) {a b : Value} (ha : RV H Z B x a) (hb : RV H Z B y b) :
    ∃ w, abin P op t x1 x2 a b = some w ∧ RV H Z B r w := by
  unfold pBin at h
  split at h
  · rename_i u v
    cases ha with
    | dv ha => cases ha with
      | sc ha => cases hb with
        | dv hb => cases hb with
          | sc hb =>
            split at h
            · split at h
              · rename_i hk
                subst hk
                cases h
                exact ⟨_, abin_quo hφ, .dv (.sc rfl)⟩
              · cases h
            · split at h
              · rename_i hk
                subst hk
                cases h
                exact ⟨_, abin_rem hφ, .dv (.sc rfl)⟩
              · cases h
            · cases h
              exact ⟨_, abin_shl hφ, .dv (.sc rfl)⟩
            · cases h
              exact ⟨_, abin_shr hφ, .dv (.sc rfl)⟩
            · rw [Option.map_eq_some_iff] at h
              obtain ⟨w, h1, h2⟩ := h
              cases h2
              exact ⟨w, h1, .dv (.sc (abin_free ha hb h1))⟩
  · rename_i u _
    cases ha with
    | dv ha => cases ha with
      | sc ha =>
        split at h
        · rw [Option.map_eq_some_iff] at h
          obtain ⟨ψ, h1, h2⟩ := h
          cases h2
          exact ⟨_, ((notNil_ok h1 hφ hb).1 _ _ _ rfl).1, .dv (.sc rfl)⟩
        · rw [Option.map_eq_some_iff] at h
          obtain ⟨ψ, h1, h2⟩ := h
          cases h2
          exact ⟨_, ((notNil_ok h1 hφ hb).2 _ _ _ rfl).1, .dv (.sc rfl)⟩
        · cases h
  · cases hb with
    | dv hb => cases hb with
      | sc hb =>
        split at h
        · rw [Option.map_eq_some_iff] at h
          obtain ⟨ψ, h1, h2⟩ := h
          cases h2
          exact ⟨_, ((notNil_ok h1 hφ ha).1 _ _ _ rfl).2, .dv (.sc rfl)⟩
        · rw [Option.map_eq_some_iff] at h
          obtain ⟨ψ, h1, h2⟩ := h
          cases h2
          exact ⟨_, ((notNil_ok h1 hφ ha).2 _ _ _ rfl).2, .dv (.sc rfl)⟩
        · cases h
  · cases h
end
end Go.Eng

namespace Go.Eng
open Go

section
variable {P : Program} {H : AHeap} {Z : Nat → Prop} {B : Blks} {O : List Ob} {g : Operand → Option PV} {ρ : Operand → Option Value}

theorem pConv_ok (hO : ∀ k o, O[k]? = some o → OkOb H Z B k o) {s d : TypeId} {x y : PV} {φ : Prop} (h : pConv P O s d x = some (φ, y)) (hφ : φ) {v : Value} (hv : RV H Z B x v)
    {o : Oper} {a : Operand} (ho : o.op = .convert s d a) (hρ : ρ a = some v) : ∃ w, alight P ρ H o = some w ∧ RV H Z B y w := by
  have main : ∀ {e : TypeId} {l : List UInt8}, P.underlying s = some (.slice e) → P.underlying d = some .string → P.underlying e = some (.int .u8) →
      (∃ ad n c vs, v = .slice (some ad) n c ∧ H.cells? ad n = some vs ∧ bytesOfCells vs = some l) ∨ (v = .slice none 0 0 ∧ l = []) → ∃ w, alight P ρ H o = some w ∧ RV H Z B (.dv (.sc (str l))) w := by
    rintro e l h1 h2 h3 (⟨ad, n, c, vs, rfl, h4, h5⟩ | ⟨rfl, rfl⟩)
    · exact ⟨str l, by simp only [alight, ho, hρ, h1, h2, h3, h4, h5, Option.map_some]; rfl, .dv (.sc rfl)⟩
    · exact ⟨str [], by simp only [alight, ho, hρ, h1, h2, h3]; rfl, .dv (.sc rfl)⟩
  unfold pConv at h
  split at h
  · split at h
    · rename_i hu1 hu2
      split at h
      · rename_i hu3
        split at h
        · rename_i hz
          subst hz
          rw [Option.map_eq_some_iff] at h
          obtain ⟨l, hl, h2⟩ := h
          cases h2
          refine main hu1 hu2 hu3 ?_
          cases hv with
          | dv hd => cases hd with
            | nil => cases hl; exact .inr ⟨rfl, rfl⟩
            | sl h1 h2 h3 h4 h5 h6 h7 h8 =>
              have hr : RDs H Z _ _ _ := ⟨h7, h8⟩
              have hn := h6
              rw [Nat.mul_one] at hn
              have hw := win_ok hr hn.symm
              exact .inl ⟨_, _, _, _, rfl, hr.cells? h2 (alive_of h3) (by omega), bytes_ok hl hw.1 hw.2⟩
        · cases h
      · cases h
    · cases h
  · split at h
    · rename_i hu1 hu2
      split at h
      · rename_i hu3
        split at h
        · rename_i ψ z cs hview
          split at h
          · rename_i hz
            subst hz
            rw [Option.map_eq_some_iff] at h
            obtain ⟨l, hl, h2⟩ := h
            cases h2
            refine main hu1 hu2 hu3 ?_
            rcases pview_ok hO hview hφ hv with ⟨b, oo, c, vs, st, rfl, _, e2, e3, e4, e5, e6, _⟩ | ⟨rfl, rfl, rfl⟩
            · rw [Nat.mul_one] at e5
              have hw := win_ok e6 e5.symm
              exact .inl ⟨_, _, _, _, rfl, e6.cells? e2 (alive_of e3) (by omega), bytes_ok hl hw.1 hw.2⟩
            · cases hl; exact .inr ⟨rfl, rfl⟩
          · cases h
        · cases h
      · cases h
    · cases h
  · cases h

/-- A bound, as the interpreter reads it. -/
theorem pbound_ok (hg : ∀ x y, g x = some y → ∃ v, ρ x = some v ∧ RV H Z B y v) {d : Nat} {lo : Option Operand} {φ : Prop} {l : Nat} (h : pbound d (lo.map g) = some (φ, l)) (hφ : φ) :
    (∀ n, (lo = none → d ≤ n) → l ≤ n → bound n d (lo.map ρ) = some l) ∧ IsB d (lo.bind ρ) l ∧ okArg (lo.map ρ) = true ∧ (lo.map ρ).all (fun v => v.all free) = true := by
  cases lo with
  | none => cases h; exact ⟨fun n _ _ => rfl, .inl ⟨rfl, rfl⟩, rfl, rfl⟩
  | some x =>
    simp only [Option.map_some] at h
    unfold pbound at h
    split at h
    · rename_i h0; cases h0
    · rename_i k i hx
      cases h
      simp only [Option.some.injEq] at hx
      obtain ⟨v, h1, h2⟩ := hg x _ hx
      cases h2 with
      | dv hd => cases hd with
        | sc hf =>
          refine ⟨fun n _ hn => ?_, .inr ⟨k, i, by simp [h1], hφ, rfl⟩, by simp [h1, okArg], by simp [h1, hf]⟩
          simp only [Option.map_some, h1, bound, idx]
          rw [if_pos ⟨hφ, by omega⟩]
    · cases h

theorem aslice_of {t e : TypeId} {z : Nat} {a : Option Addr} {n c : Nat} {lo hi : Option (Option Value)} {l h : Nat} (he : elemS P t = some e) (hz : sizeT P e = some z)
    (hh : bound c n hi = some h) (hl : bound h 0 lo = some l) : aslice P t a n c lo hi none = some (.slice (a.map (·.add (l * z))) (h - l) (c - l)) := by
  simp only [aslice, show bound c c none = some c from rfl, hh, hl, he, hz]

theorem aslice_of3 {t e : TypeId} {z : Nat} {a : Option Addr} {n c : Nat} {lo : Option (Option Value)} {hv mv : Option Value} {l h m : Nat} (he : elemS P t = some e) (hz : sizeT P e = some z)
    (hm : bound c c (some mv) = some m) (hh : bound m n (some hv) = some h) (hl : bound h 0 lo = some l) : aslice P t a n c lo (some hv) (some mv) = some (.slice (a.map (·.add (l * z))) (h - l) (m - l)) := by
  simp only [aslice, hm, hh, hl, he, hz]

theorem slOk_of {t e : TypeId} {z : Nat} {b o : Nat} {vs : List Value} {st : St} (he : elemS P t = some e) (hz : sizeT P e = some z) (hb : H[b]? = some (.cells vs st)) (hs : st = .ro ∨ st = .rw z) : slOk P H t (some ⟨b, o, none⟩) = true := by
  rcases hs with rfl | rfl <;> simp [slOk, stOf, hb, he, hz]

theorem pSlice_ok (hO : ∀ k o, O[k]? = some o → OkOb H Z B k o) (hg : ∀ x y, g x = some y → ∃ v, ρ x = some v ∧ RV H Z B y v) {t : TypeId} {x y : PV} {lo hi mx : Option Operand} {φ : Prop}
    (h : pSlice P O t x (lo.map g) (hi.map g) (mx.map g) = some (φ, y)) (hφ : φ) {v : Value} (hv : RV H Z B x v)
    {o : Oper} {a : Operand} (ho : o.op = .slice t a lo hi mx) (hρ : ρ a = some v) : ∃ w, alight P ρ H o = some w ∧ RV H Z B y w := by
  have sub : ∀ {cs : List DV} {vs : List Value} {oo n z l h : Nat}, RDs H Z cs vs oo → cs.length = n * z → l ≤ h → h ≤ n → RDs H Z ((cs.drop (l * z)).take ((h - l) * z)) vs (oo + l * z) ∧ ((cs.drop (l * z)).take ((h - l) * z)).length = (h - l) * z := by
    intro cs vs oo n z l h hr hc h1 h2
    have h3 : l * z ≤ h * z := Nat.mul_le_mul_right z h1
    have h4 : h * z ≤ n * z := Nat.mul_le_mul_right z h2
    have h5 : (h - l) * z = h * z - l * z := by rw [Nat.sub_mul]
    refine ⟨(hr.drop (by omega)).take _, ?_⟩
    simp only [List.length_take, List.length_drop, hc]
    omega
  unfold pSlice at h
  split at h
  · rename_i z n cs
    split at h
    · rename_i e φl l φh hh he hlo hhi hmx
      split at h
      · rename_i hz
        cases h
        obtain ⟨q1, q2, q3, q4⟩ := hφ
        obtain rfl : mx = none := by cases mx with | none => rfl | some m => simp at hmx
        obtain ⟨b1, _, _, _⟩ := pbound_ok hg hlo q1
        obtain ⟨b2, _, _, _⟩ := pbound_ok hg hhi q2
        cases hv with
        | dv hd => cases hd with
          | nil =>
            obtain rfl : hh = 0 := by omega
            obtain rfl : l = 0 := by omega
            refine ⟨_, by simp only [alight, ho, hρ, slOk, if_true, Option.map_none]; exact aslice_of he hz (b2 0 (fun _ => Nat.le_refl _) (by omega)) (b1 0 (fun _ => Nat.le_refl _) (by omega)), ?_⟩
            simp
            exact .dv .nil
          | sl h1 h2 h3 h4 h5 h6 h7 h8 =>
            have hs := sub ⟨h7, h8⟩ h6 q3 q4
            refine ⟨_, by simp only [alight, ho, hρ, slOk_of he hz h2 h3, if_true, Option.map_none]; exact aslice_of he hz (b2 _ (fun _ => h5) (by omega)) (b1 _ (fun _ => Nat.zero_le _) (by omega)), ?_⟩
            rw [Option.map_some, addr_add0]
            exact .dv (.sl h1 h2 h3 h4 (by omega) hs.2 hs.1.1 hs.1.2)
      · cases h
    · rename_i e φl l φh hh m he hlo hhi hmx
      split at h
      · rename_i hi' φm m' hhi' hm
        split at h
        · rename_i hz
          cases h
          obtain ⟨q1, q2, q5, q3, q4, q6⟩ := hφ
          obtain ⟨mo, rfl⟩ : ∃ mo, mx = some mo := by cases mx with | none => simp at hmx | some m => exact ⟨m, rfl⟩
          obtain ⟨hio, rfl⟩ : ∃ hio, hi = some hio := by cases hi with | none => simp at hhi' | some m => exact ⟨m, rfl⟩
          rw [← hmx] at hm
          obtain ⟨b1, _, _, _⟩ := pbound_ok hg hlo q1
          obtain ⟨b2, _, _, _⟩ := pbound_ok hg hhi q2
          have hm' : ∀ c, m' ≤ c → bound c c ((some mo).map ρ) = some m' := fun c hc => by
            have := (pbound_ok hg hm q5).1 c (fun h => by cases h) hc
            simp only [Option.map_some] at this ⊢
            cases hp : ρ mo with
            | none => rw [hp] at this; cases this
            | some w => rw [hp] at this; exact this
          have hb2 : ∀ c, hh ≤ c → bound c n ((some hio).map ρ) = some hh := fun c hc => b2 c (fun h => by cases h) hc
          cases hv with
          | dv hd => cases hd with
            | nil =>
              obtain rfl : hh = 0 := by omega
              obtain rfl : l = 0 := by omega
              refine ⟨_, by simp only [alight, ho, hρ, slOk, if_true, Option.map_some]; exact aslice_of3 he hz (hm' 0 (by omega)) (hb2 _ (by omega)) (b1 0 (fun _ => Nat.le_refl _) (by omega)), ?_⟩
              obtain rfl : m' = 0 := by omega
              simp
              exact .dv .nil
            | sl h1 h2 h3 h4 h5 h6 h7 h8 =>
              have hs := sub ⟨h7, h8⟩ h6 q3 (by omega)
              refine ⟨_, by simp only [alight, ho, hρ, slOk_of he hz h2 h3, if_true, Option.map_some]; exact aslice_of3 he hz (hm' _ (by omega)) (hb2 _ (by omega)) (b1 _ (fun _ => Nat.zero_le _) (by omega)), ?_⟩
              rw [Option.map_some, addr_add0]
              exact .dv (.sl h1 h2 h3 h4 (by omega) hs.2 hs.1.1 hs.1.2)
        · cases h
      · cases h
    · cases h
  · rename_i k off n
    have main : ∀ {e : TypeId} {φl φh : Prop} {l hh z : Nat} {cs : List DV}, elemS P t = some e → pbound 0 (lo.map g) = some (φl, l) → pbound n (hi.map g) = some (φh, hh) → mx.map g = none → (O[k]? = some (.row z cs) ∨ O[k]? = some (.fro z cs)) → sizeT P e = some z →
        (φl ∧ φh ∧ l ≤ hh ∧ hh ≤ n) → ∃ w, alight P ρ H o = some w ∧ RV H Z B (.ow k (off + l * z) (hh - l)) w := by
      intro e φl φh l hh z cs he hlo hhi hmx hk hz ⟨q1, q2, q3, q4⟩
      obtain rfl : mx = none := by cases mx with | none => rfl | some m => simp at hmx
      obtain ⟨b1, _, _, _⟩ := pbound_ok hg hlo q1
      obtain ⟨b2, _, _, _⟩ := pbound_ok hg hhi q2
      rcases row_cells hO hk with ⟨b, oo, vs, st, e1, e2, e3, e4, e5⟩ | ⟨e1, _⟩
      · cases hv with
        | ow f1 f2 =>
          rw [e1] at f1
          cases f1
          refine ⟨_, by simp only [alight, ho, hρ, slOk_of he hz e2 e3, if_true, Option.map_none]; exact aslice_of he hz (b2 _ (fun _ => f2) (by omega)) (b1 _ (fun _ => Nat.zero_le _) (by omega)), ?_⟩
          have := RV.ow (H := H) (Z := Z) (off := off + l * z) (n := hh - l) e1 (c := _ - l) (Nat.sub_le_sub_right (Nat.le_trans q4 f2) l)
          rw [← Nat.add_assoc] at this
          rw [Option.map_some, addr_add0]
          exact this
        | ow0 f1 => rw [e1] at f1; cases f1
      · cases hv with
        | ow f1 f2 => rw [e1] at f1; cases f1
        | ow0 f1 =>
          obtain rfl : hh = 0 := by omega
          obtain rfl : l = 0 := by omega
          refine ⟨_, by simp only [alight, ho, hρ, slOk, if_true, Option.map_none]; exact aslice_of he hz (b2 0 (fun _ => Nat.le_refl _) (by omega)) (b1 0 (fun _ => Nat.le_refl _) (by omega)), ?_⟩
          simp
          exact .ow0 e1
    split at h
    · rename_i he hlo hhi hmx hk
      split at h
      · rename_i hz; cases h; exact main he hlo hhi hmx (.inl hk) hz hφ
      · cases h
    · rename_i he hlo hhi hmx hk
      split at h
      · rename_i hz; cases h; exact main he hlo hhi hmx (.inr hk) hz hφ
      · cases h
    · cases h
  · split at h
    · rename_i e φl l φh hh he hlo hhi hmx
      split at h
      · rename_i hz
        cases h
        obtain ⟨q1, q2, rfl, rfl⟩ := hφ
        obtain rfl : mx = none := by cases mx with | none => rfl | some m => simp at hmx
        obtain ⟨b1, _, _, _⟩ := pbound_ok hg hlo q1
        obtain ⟨b2, _, _, _⟩ := pbound_ok hg hhi q2
        obtain ⟨z, hz⟩ := Option.isSome_iff_exists.1 hz
        cases hv with
        | dv hd => cases hd with
          | sc hf =>
            refine ⟨_, by simp only [alight, ho, hρ, slOk, if_true, Option.map_none]; exact aslice_of he hz (b2 0 (fun _ => Nat.le_refl _) (by omega)) (b1 0 (fun _ => Nat.le_refl _) (by omega)), ?_⟩
            simp
            exact .dv (.sc rfl)
      · cases h
    · cases h
  · rename_i s
    split at h
    · rename_i φl l φh hh hu hlo hhi hmx
      cases h
      obtain ⟨q1, q2, q3, q4⟩ := hφ
      obtain rfl : mx = none := by cases mx with | none => rfl | some m => simp at hmx
      obtain ⟨_, b1, c1, d1⟩ := pbound_ok hg hlo q1
      obtain ⟨_, b2, c2, d2⟩ := pbound_ok hg hhi q2
      cases hv with
      | dv hd => cases hd with
        | sc hf =>
          refine ⟨_, ?_, .dv (.sc (v := str ((s.data.toList.take hh).drop l)) rfl)⟩
          simp only [alight, ho, hρ, c1, c2, d1, d2, show okArg none = true from rfl, Option.map_none, Option.all_none, Bool.and_self, if_true, Option.bind_none]
          rw [slice_str P hu s b1 b2 q3 q4]
          rfl
    · cases h
  · cases h
end
end Go.Eng

namespace Go.Eng
open Go

section
variable {P : Program} {H : AHeap} {Z : Nat → Prop} {B : Blks} {O : List Ob} {g : Operand → Option PV} {ρ : Operand → Option Value}

theorem pFieldAddr_ok {t : TypeId} {f : Nat} {x y : PV} {φ : Prop} (h : pFieldAddr P t f x = some (φ, y)) (hφ : φ) {v : Value} (hv : RV H Z B x v)
    {o : Oper} {a : Operand} (ho : o.op = .fieldAddr t a f) (hρ : ρ a = some v) : ∃ w, alight P ρ H o = some w ∧ RV H Z B y w := by
  unfold pFieldAddr at h
  split at h
  · rename_i fs hu
    split at h
    · rename_i fl hf
      split at h
      · rename_i m hm
        split at h
        · cases h
          cases hv with
          | pt h1 =>
            rename_i k off b oo
            refine ⟨.pointer (some ⟨b, oo + (off + fl.offset), none⟩), ?_, .pt h1⟩
            simp only [alight, ho, hρ, hu, hf, hm, Option.isNone_none, if_true, addr_add0, Nat.add_assoc]
        · cases h
          cases hv with
          | ld h1 h2 h3 h4 h5 =>
            rename_i cs b oo vs st
            have hr : RDs H Z _ _ _ := ⟨h4, h5⟩
            have hd := hr.drop hφ
            refine ⟨.pointer (some ⟨b, oo + fl.offset, none⟩), ?_, .ld h1 h2 h3 hd.1 hd.2⟩
            simp only [alight, ho, hρ, hu, hf, hm, Option.isNone_none, if_true, addr_add0]
        · cases h
      · cases h
    · cases h
  · cases h

theorem pPart_ok {t : TypeId} {off : Nat} {x y : PV} {φ : Prop} (h : pPart P t off x = some (φ, y)) (hφ : φ) {v : Value} (hv : RV H Z B x v) :
    ∃ cs w, v = .agg ⟨cs⟩ ∧ partV P t cs off = some w ∧ RV H Z B y w := by
  unfold pPart at h
  split at h
  · cases hv with
    | ag h1 h2 =>
      rename_i cs vs
      have hr : RVs H Z B cs vs 0 := ⟨by omega, fun i x v hx hv => h2 i x v hx (by simpa using hv)⟩
      split at h
      · rename_i n ha hn
        cases h
        refine ⟨_, _, rfl, by simp only [partV, ha, hn]; rw [if_pos (by rw [← h1]; exact hφ)], ?_⟩
        have := hr.agg hφ
        rwa [Nat.zero_add] at this
      · rename_i ha
        cases h
        obtain ⟨w, e1, e2⟩ := hr.get hφ .bad
        rw [Nat.zero_add] at e1
        exact ⟨_, w, rfl, by simp only [partV, ha]; exact e1, e2⟩
      · cases h
  · cases hv with
    | dv hd => cases hd with
      | ag h1 h2 =>
        rename_i cs vs
        have hr : RDs H Z cs vs 0 := ⟨by omega, fun i x v hx hv => h2 i x v hx (by simpa using hv)⟩
        split at h
        · rename_i n ha hn
          cases h
          refine ⟨_, _, rfl, by simp only [partV, ha, hn]; rw [if_pos (by rw [← h1]; exact hφ)], ?_⟩
          have := (hr.drop (k := off) (by omega)).agg (n := n) (by simp only [List.length_drop]; omega)
          rw [Nat.zero_add] at this
          exact .dv this
        · rename_i ha
          cases h
          obtain ⟨w, e1, e2⟩ := hr.get hφ (.sc undef)
          rw [Nat.zero_add] at e1
          exact ⟨_, w, rfl, by simp only [partV, ha]; exact e1, .dv e2⟩
        · cases h
  · cases h

theorem pField_ok {t : TypeId} {f : Nat} {x y : PV} {φ : Prop} (h : pField P t f x = some (φ, y)) (hφ : φ) {v : Value} (hv : RV H Z B x v)
    {o : Oper} {a : Operand} (ho : o.op = .field t a f) (hρ : ρ a = some v) : ∃ w, alight P ρ H o = some w ∧ RV H Z B y w := by
  unfold pField at h
  split at h
  · rename_i fs hu
    split at h
    · rename_i fl hf
      obtain ⟨cs, w, rfl, h1, h2⟩ := pPart_ok h hφ hv
      exact ⟨w, by simp only [alight, ho, hρ, hu, hf]; exact h1, h2⟩
    · cases h
  · cases h

theorem pIndexAddr_ok {t : TypeId} {x i y : PV} {φ : Prop} (h : pIndexAddr P O t x i = some (φ, y)) (hφ : φ) {v j : Value} (hv : RV H Z B x v) (hi : RV H Z B i j)
    {o : Oper} {a c : Operand} (ho : o.op = .indexAddr t a c) (hρ : ρ a = some v) (hc : ρ c = some j) : ∃ w, alight P ρ H o = some w ∧ RV H Z B y w := by
  unfold pIndexAddr at h
  split at h
  · rename_i k m
    obtain rfl : j = .int k m := by cases hi with | dv hd => cases hd with | sc hf => rfl
    split at h
    · rename_i z n cs e hu
      split at h
      · rename_i hz
        cases h
        cases hv with
        | dv hd => cases hd with
          | nil => simp at hφ; omega
          | sl h1 h2 h3 h4 h5 h6 h7 h8 =>
            rename_i b oo c' vs st
            have hm : m.toNat * z ≤ cs.length := by
              rw [h6]; exact Nat.mul_le_mul_right z (by omega)
            have hr : RDs H Z _ _ _ := ⟨h7, h8⟩
            have hd := hr.drop hm
            refine ⟨.pointer (some ⟨b, oo + m.toNat * z, none⟩), ?_, .ld h1 h2 (alive_of h3) hd.1 hd.2⟩
            simp only [alight, ho, hρ, hc, hu, hz, Option.isNone_none, and_true, hφ.1, hφ.2, if_true, addr_add0]
      · cases h
    · rename_i kk off n e hu
      split at h
      · rename_i z hz
        cases h
        cases hv with
        | ow h1 h2 =>
          rename_i b oo c'
          refine ⟨.pointer (some ⟨b, oo + (off + m.toNat * z), none⟩), ?_, .pt h1⟩
          simp only [alight, ho, hρ, hc, hu, hz, Option.isNone_none, and_true, hφ.1, hφ.2, if_true, addr_add0, Nat.add_assoc]
        | ow0 h1 => simp at hφ; omega
      · cases h
    · rename_i kk off n e hu
      split at h
      · rename_i z hz
        cases h
        cases hv with
        | pt h1 =>
          rename_i b oo
          refine ⟨.pointer (some ⟨b, oo + (off + m.toNat * z), none⟩), ?_, .pt h1⟩
          simp only [alight, ho, hρ, hc, hu, hz, Option.isNone_none, and_true, hφ.1, hφ.2, if_true, addr_add0, Nat.add_assoc]
      · cases h
    · rename_i cs n e hu
      split at h
      · rename_i z hz
        cases h
        cases hv with
        | ld h1 h2 h3 h4 h5 =>
          rename_i b oo vs st
          have hr : RDs H Z _ _ _ := ⟨h4, h5⟩
          have hd := hr.drop hφ.2.2
          refine ⟨.pointer (some ⟨b, oo + m.toNat * z, none⟩), ?_, .ld h1 h2 h3 hd.1 hd.2⟩
          simp only [alight, ho, hρ, hc, hu, hz, Option.isNone_none, and_true, hφ.1, hφ.2.1, if_true, addr_add0]
      · cases h
    · cases h
  · cases h

theorem pIndex_ok {t : TypeId} {x i y : PV} {φ : Prop} (h : pIndex P t x i = some (φ, y)) (hφ : φ) {v j : Value} (hv : RV H Z B x v) (hi : RV H Z B i j)
    {o : Oper} {a c : Operand} (ho : o.op = .index t a c) (hρ : ρ a = some v) (hc : ρ c = some j) : ∃ w, alight P ρ H o = some w ∧ RV H Z B y w := by
  have part : ∀ {n z : Nat} {e : TypeId} {k : IntKind} {m : Int} {r : Prop × PV}, P.underlying t = some (.array n e) → sizeT P e = some z → j = .int k m → pPart P e (m.toNat * z) x = some r → r.1 → (0 ≤ m ∧ m < (n : Int)) →
      ∃ w, alight P ρ H o = some w ∧ RV H Z B r.2 w := by
    intro n z e k m r hu hz hj h1 h2 h3
    subst hj
    obtain ⟨cs, w, rfl, e1, e2⟩ := pPart_ok (x := x) h1 h2 hv
    exact ⟨w, by simp only [alight, ho, hρ, hc, hu, hz]; rw [if_pos h3]; exact e1, e2⟩
  unfold pIndex at h
  split at h
  · rename_i k m
    obtain rfl : j = .int k m := by cases hi with | dv hd => cases hd with | sc hf => rfl
    split at h
    · rename_i s hu
      cases h
      obtain rfl : v = .string s := by cases hv with | dv hd => cases hd with | sc hf => rfl
      have hlt : m.toNat < s.data.toList.length := by omega
      refine ⟨_, ?_, .dv (.sc rfl)⟩
      simp only [alight, ho, hρ, hc, hu, hφ.1, if_true]
      rw [List.getElem?_eq_getElem hlt]
      have hlt2 : m.toNat < s.data.size := by simpa using hlt
      simp [List.getD]
      rw [Array.getElem?_eq_getElem hlt2, Option.getD_some]
    · rename_i cs n e hu
      split at h
      · rename_i z hz
        rw [Option.map_eq_some_iff] at h
        obtain ⟨r, h1, h2⟩ := h
        cases h2
        exact part hu hz rfl h1 hφ.2 hφ.1
      · cases h
    · rename_i cs n e hu
      split at h
      · rename_i z hz
        rw [Option.map_eq_some_iff] at h
        obtain ⟨r, h1, h2⟩ := h
        cases h2
        exact part hu hz rfl h1 hφ.2 hφ.1
      · cases h
    · cases h
  · cases h

theorem zeroT_free {t : TypeId} {z : Value} (h : zeroT P t = some z) : free z = true := by
  unfold zeroT at h
  split at h
  · split at h
    · split at h
      · cases h; assumption
      · cases h
    · cases h
  · cases h

theorem RV.tup2 {x y : PV} {v w : Value} (h : RV H Z B x v) (k : RV H Z B y w) : RV H Z B (.tup [x, y]) (.tuple #[v, w]) := by
  have := RVL.cons h (RVL.cons k (RVL.nil (H := H) (Z := Z) (B := B)))
  exact .tup (vs := [v, w]) this.1 this.2

theorem pTA_ok {a : TypeId} {ok : Bool} {x y : PV} {φ : Prop} (h : pTA P x a ok = some (φ, y)) {v : Value} (hv : RV H Z B x v) : ∃ w, atypeAssert P v a ok = some w ∧ RV H Z B y w := by
  have bool : ∀ c : Bool, RV H Z B (.dv (.sc (.bool c))) (.bool c) := fun c => .dv (.sc rfl)
  have go : ∀ (t : TypeId) (whole inner : PV) (u : Value), v = .iface t u → RV H Z B whole v → RV H Z B inner u →
      (match P.underlying a with
        | some (.interface want) => match P.info? t with
          | some i => match Instr.missingMethod want i.methods with
            | none => some (True, if ok then PV.tup [whole, .dv (.sc (.bool true))] else whole)
            | some _ => if ok then (zeroT P a).map fun z => (True, PV.tup [.dv (.sc z), .dv (.sc (.bool false))]) else none
          | none => none
        | some _ =>
          if t = a then some (True, if ok then PV.tup [inner, .dv (.sc (.bool true))] else inner)
          else if ok then (zeroT P a).map fun z => (True, PV.tup [.dv (.sc z), .dv (.sc (.bool false))]) else none
        | none => none) = some (φ, y) → ∃ w, atypeAssert P v a ok = some w ∧ RV H Z B y w := by
    rintro t whole inner u rfl hw hi h
    split at h
    · rename_i want hu
      split at h
      · rename_i i hinf
        split at h
        · rename_i hm
          cases h
          cases ok
          · exact ⟨_, by simp only [atypeAssert, hu, hinf, hm]; rfl, hw⟩
          · exact ⟨_, by simp only [atypeAssert, hu, hinf, hm]; rfl, .tup2 hw (bool _)⟩
        · rename_i m hm
          split at h
          · rename_i hok
            rw [Option.map_eq_some_iff] at h
            obtain ⟨z, h1, h2⟩ := h
            cases h2
            exact ⟨_, by simp only [atypeAssert, hu, hinf, hm, hok, if_true, h1, Option.map_some], .tup2 (.dv (.sc (zeroT_free h1))) (bool _)⟩
          · cases h
      · cases h
    · rename_i d hne hu
      have hat : atypeAssert P (.iface t u) a ok = (if t = a then some (if ok then .tuple #[u, .bool true] else u)
          else if ok then (zeroT P a).map fun z => .tuple #[z, .bool false] else none) := by
        unfold atypeAssert
        simp only [hu]
      rw [hat]
      split at h
      · rename_i ht
        cases h
        rw [if_pos ht]
        cases ok
        · exact ⟨_, rfl, hi⟩
        · exact ⟨_, rfl, .tup2 hi (bool _)⟩
      · rename_i ht
        rw [if_neg ht]
        split at h
        · rename_i hok
          rw [Option.map_eq_some_iff] at h
          obtain ⟨z, h1, h2⟩ := h
          cases h2
          exact ⟨_, by rw [if_pos hok, h1]; rfl, .tup2 (.dv (.sc (zeroT_free h1))) (bool _)⟩
        · cases h
    · cases h
  unfold pTA at h
  simp only at h
  split at h
  · cases hv with
    | ifc h1 => exact go _ _ _ _ rfl (.ifc h1) h1 h
  · cases hv with
    | dv hd => cases hd with
      | ifc h1 => exact go _ _ _ _ rfl (.dv (.ifc h1)) (.dv h1) h
  · cases h

theorem pBuild_ok {t : TypeId} {ps : List (Nat × PV)} {vs : List (Nat × Value)} {y : PV} {φ : Prop} (hr : RPs H Z B ps vs) (h : pBuild P t ps = some (φ, y)) : ∃ w, abuild P t vs = some w ∧ RV H Z B y w := by
  unfold pBuild at h
  split at h
  · rename_i z fs hz hu
    split at h
    · cases h
    · rename_i hall
      split at h
      · rename_i zc hzc
        rw [Option.map_eq_some_iff] at h
        obtain ⟨cs, h1, h2⟩ := h
        cases h2
        have hc := pcells_ok (H := H) (Z := Z) (B := B) (.dv (.sc (zeroT_free hz))) hzc
        obtain ⟨ws, e1, e2⟩ := pfill_ok hr hc h1
        exact ⟨_, by simp only [abuild, hz, hu]; rw [if_neg hall]; exact congrArg (Option.map fun cs => Value.agg ⟨cs⟩) e1, .ag e2.1 e2.2⟩
      · cases h
  · rename_i z n e hz hu
    split at h
    · rename_i sz zc hsz hzc
      rw [Option.map_eq_some_iff] at h
      obtain ⟨cs, h1, h2⟩ := h
      cases h2
      have hc := pcells_ok (H := H) (Z := Z) (B := B) (.dv (.sc (zeroT_free hz))) hzc
      obtain ⟨ws, e1, e2⟩ := pfill_ok hr hc h1
      exact ⟨_, by simp only [abuild, hz, hu, hsz, e1]; rfl, .ag e2.1 e2.2⟩
    · cases h
  · cases h

theorem pLen_ok {t : TypeId} {x y : PV} {φ : Prop} (h : pLen P t x = some (φ, y)) {v : Value} (hv : RV H Z B x v)
    {o : Oper} {a : Operand} {args : Array Operand} {ats : Array TypeId} (ho : o.op = .call { callee := .builtin .len, args, argTypes := ats }) (ha : args.toList = [a]) (hat : ats[0]? = some t) (hρ : ρ a = some v) :
    ∃ w, alight P ρ H o = some w ∧ RV H Z B y w := by
  have hm : mapOpt ρ args.toList = some [v] := by rw [ha]; simp [mapOpt, hρ]
  unfold pLen at h
  split at h
  · split at h
    · rename_i hu
      cases h
      refine ⟨_, ?_, .dv (.sc rfl)⟩
      cases hv with
      | dv hd => cases hd <;> simp only [alight, ho, hm, hat, hu]
    · cases h
  · split at h
    · rename_i hu
      cases h
      refine ⟨_, ?_, .dv (.sc rfl)⟩
      cases hv <;> simp only [alight, ho, hm, hat, hu]
    · cases h
  · split at h
    · rename_i hu
      cases h
      refine ⟨_, ?_, .dv (.sc rfl)⟩
      cases hv
      simp only [alight, ho, hm, hat, hu]
    · cases h
  · split at h
    · rename_i hu
      cases h
      refine ⟨_, ?_, .dv (.sc rfl)⟩
      cases hv with
      | dv hd => cases hd; simp only [alight, ho, hm, hat, hu]
    · cases h
  · split at h
    · rename_i hu
      split at h
      · rename_i hu2
        cases h
        refine ⟨_, ?_, .dv (.sc rfl)⟩
        cases hv
        simp only [alight, ho, hm, hat, hu, hu2]
      · cases h
    · cases h
  · cases h
end
end Go.Eng

namespace Go.Eng
open Go

section
variable {P : Program} {H : AHeap} {Z : Nat → Prop} {B : Blks} {O : List Ob} {g : Operand → Option PV} {ρ : Operand → Option Value}

theorem pl_ok (hO : ∀ k o, O[k]? = some o → OkOb H Z B k o) (hg : ∀ x y, g x = some y → ∃ v, ρ x = some v ∧ RV H Z B y v) {o : Oper} {φ : Prop} {y : PV} (h : pl P g O o = some (φ, y)) (hφ : φ) :
    ∃ v, alight P ρ H o = some v ∧ RV H Z B y v := by
  unfold pl at h
  split at h
  · rename_i x hop
    rw [Option.map_eq_some_iff] at h
    obtain ⟨w, h1, h2⟩ := h
    cases h2
    obtain ⟨v, e1, e2⟩ := hg x _ h1
    exact ⟨v, by simp only [alight, hop]; exact e1, e2⟩
  · rename_i x hop
    rw [Option.map_eq_some_iff] at h
    obtain ⟨w, h1, h2⟩ := h
    cases h2
    obtain ⟨v, e1, e2⟩ := hg x _ h1
    exact ⟨v, by simp only [alight, hop]; exact e1, e2⟩
  · rename_i c a b hop
    split at h
    · rename_i t u v hc ha hb
      cases h
      obtain ⟨w1, e1, f1⟩ := hg c _ hc
      obtain ⟨w2, e2, f2⟩ := hg a _ ha
      obtain ⟨w3, e3, f3⟩ := hg b _ hb
      cases f1 with | dv f1 => cases f1 with | sc _ =>
      cases f2 with | dv f2 => cases f2 with | sc q2 =>
      cases f3 with | dv f3 => cases f3 with | sc q3 =>
      refine ⟨_, by simp only [alight, hop, e1, e2, e3], .dv (.sc ?_)⟩
      cases t
      · exact q3
      · exact q2
    · rename_i u v _ hc ha hb
      cases h
      obtain ⟨w1, e1, f1⟩ := hg c _ hc
      obtain ⟨w2, e2, f2⟩ := hg a _ ha
      obtain ⟨w3, e3, f3⟩ := hg b _ hb
      cases f1 with | dv f1 => cases f1 with | sc _ =>
      exact ⟨_, by simp only [alight, hop, e1, e2, e3]; rfl, f2⟩
    · rename_i u v _ hc ha hb
      cases h
      obtain ⟨w1, e1, f1⟩ := hg c _ hc
      obtain ⟨w2, e2, f2⟩ := hg a _ ha
      obtain ⟨w3, e3, f3⟩ := hg b _ hb
      cases f1 with | dv f1 => cases f1 with | sc _ =>
      exact ⟨_, by simp only [alight, hop, e1, e2, e3]; rfl, f3⟩
    · cases h
  · rename_i t a hop
    rw [Option.bind_eq_some_iff] at h
    obtain ⟨x, h1, h2⟩ := h
    obtain ⟨v, e1, e2⟩ := hg a _ h1
    obtain ⟨ad, w, rfl, e3, e4⟩ := pLoad_ok hO h2 hφ e2
    exact ⟨w, by simp only [alight, hop, e1]; exact e3, e4⟩
  · rename_i x hop
    split at h
    · rename_i k off hx
      cases h
      obtain ⟨v, e1, e2⟩ := hg x _ hx
      cases e2 with | pt h1 => exact ⟨_, by simp only [alight, hop, e1], .pt h1⟩
    · rename_i cs hx
      cases h
      obtain ⟨v, e1, e2⟩ := hg x _ hx
      cases e2 with | ld h1 h2 h3 h4 h5 => exact ⟨_, by simp only [alight, hop, e1], .ld h1 h2 h3 h4 h5⟩
    · rename_i f a b hx
      cases h
      obtain ⟨v, e1, e2⟩ := hg x _ hx
      cases e2 with | fn h1 h2 h3 h4 => exact ⟨_, by simp only [alight, hop, e1], .fn h1 h2 h3 h4⟩
    · rename_i t y hx
      cases h
      obtain ⟨v, e1, e2⟩ := hg x _ hx
      cases e2 with | ifc h1 => exact ⟨_, by simp only [alight, hop, e1], .ifc h1⟩
    · rename_i t y hx
      cases h
      obtain ⟨v, e1, e2⟩ := hg x _ hx
      cases e2 with | dv hd => cases hd with | ifc h1 => exact ⟨_, by simp only [alight, hop, e1], .dv (.ifc h1)⟩
    · exact plS_ok hg h
  · rename_i op t x y' t2 hop
    split at h
    · rename_i a b ha hb
      obtain ⟨v, e1, e2⟩ := hg x _ ha
      obtain ⟨w, e3, e4⟩ := hg y' _ hb
      obtain ⟨r, e5, e6⟩ := pBin_ok h hφ e2 e4
      exact ⟨r, by simp only [alight, hop, e1, e3]; exact e5, e6⟩
    · cases h
  · rename_i s d x hop
    split at h
    · exact plS_ok hg h
    · rw [Option.bind_eq_some_iff] at h
      obtain ⟨a, h1, h2⟩ := h
      obtain ⟨v, e1, e2⟩ := hg x _ h1
      exact pConv_ok hO h2 hφ e2 hop e1
  · rename_i t x hop
    split at h
    · cases h
    · rename_i d hne hu
      have key : ∀ v, ρ x = some v → alight P ρ H o = some (.iface t v) := by
        intro v hv
        simp only [alight, hop, hu]
        cases d with
        | interface w => exact absurd rfl (hne w)
        | _ => simp only [hv, Option.map_some]
      split at h
      · rename_i v hx
        obtain ⟨w, e1, e2⟩ := hg x _ hx
        split at h
        · rename_i hf
          cases h
          cases e2 with | dv hd => cases hd with | sc _ => exact ⟨_, key _ e1, .dv (.sc hf)⟩
        · rename_i hx2 _
          cases h
      · rename_i d' _ hx
        cases h
        obtain ⟨w, e1, e2⟩ := hg x _ hx
        cases e2 with | dv hd => exact ⟨_, key _ e1, .dv (.ifc hd)⟩
      · rename_i y' _ _ hx
        cases h
        obtain ⟨w, e1, e2⟩ := hg x _ hx
        exact ⟨_, key _ e1, .ifc e2⟩
      · cases h
    · cases h
  · rename_i f first cap hop
    split at h
    · rename_i a b ha hb
      cases h
      obtain ⟨us, e1, e2⟩ := mapOpt_ok hg ha
      obtain ⟨vs, e3, e4⟩ := mapOpt_ok hg hb
      exact ⟨_, by simp only [alight, hop, e1, e3], .fn e2.1 e4.1 e2.2 e4.2⟩
    · cases h
  · rename_i t x lo hi mx hop
    rw [Option.bind_eq_some_iff] at h
    obtain ⟨a, h1, h2⟩ := h
    obtain ⟨v, e1, e2⟩ := hg x _ h1
    exact pSlice_ok hO hg h2 hφ e2 hop e1
  · rename_i t x f hop
    rw [Option.bind_eq_some_iff] at h
    obtain ⟨a, h1, h2⟩ := h
    obtain ⟨v, e1, e2⟩ := hg x _ h1
    exact pFieldAddr_ok h2 hφ e2 hop e1
  · rename_i t x f hop
    split at h
    · exact plS_ok hg h
    · rw [Option.bind_eq_some_iff] at h
      obtain ⟨a, h1, h2⟩ := h
      obtain ⟨v, e1, e2⟩ := hg x _ h1
      exact pField_ok h2 hφ e2 hop e1
  · rename_i t x i hop
    rw [Option.bind_eq_some_iff] at h
    obtain ⟨a, h1, h2⟩ := h
    rw [Option.bind_eq_some_iff] at h2
    obtain ⟨b, h3, h4⟩ := h2
    obtain ⟨v, e1, e2⟩ := hg x _ h1
    obtain ⟨w, e3, e4⟩ := hg i _ h3
    exact pIndexAddr_ok h4 hφ e2 e4 hop e1 e3
  · rename_i t x i hop
    rw [Option.bind_eq_some_iff] at h
    obtain ⟨a, h1, h2⟩ := h
    rw [Option.bind_eq_some_iff] at h2
    obtain ⟨b, h3, h4⟩ := h2
    obtain ⟨v, e1, e2⟩ := hg x _ h1
    obtain ⟨w, e3, e4⟩ := hg i _ h3
    exact pIndex_ok h4 hφ e2 e4 hop e1 e3
  · rename_i x t a ok hop
    split at h
    · exact plS_ok hg h
    · rw [Option.bind_eq_some_iff] at h
      obtain ⟨b, h1, h2⟩ := h
      obtain ⟨v, e1, e2⟩ := hg x _ h1
      obtain ⟨w, e3, e4⟩ := pTA_ok h2 e2
      exact ⟨w, by simp only [alight, hop, e1]; exact e3, e4⟩
  · rename_i x i hop
    split at h
    · rename_i cs hx
      cases h
      obtain ⟨v, e1, e2⟩ := hg x _ hx
      cases e2 with
      | tup h1 h2 =>
        rename_i vs
        have hr : RVs H Z B cs vs 0 := ⟨by omega, fun i x v hx hv => h2 i x v hx (by simpa using hv)⟩
        obtain ⟨w, f1, f2⟩ := hr.get hφ .bad
        rw [Nat.zero_add] at f1
        exact ⟨w, by simp only [alight, hop, e1]; exact f1, f2⟩
    · exact plS_ok hg h
  · rename_i t parts hop
    rw [Option.bind_eq_some_iff] at h
    obtain ⟨ps, h1, h2⟩ := h
    obtain ⟨vs, e1, e2⟩ := pparts_ok hg h1
    obtain ⟨w, e3, e4⟩ := pBuild_ok e2 h2
    exact ⟨w, by simp only [alight, hop, e1]; exact e3, e4⟩
  · rename_i args ats hop
    split at h
    · rename_i x t ha hat
      split at h
      · exact plS_ok hg h
      · rw [Option.bind_eq_some_iff] at h
        obtain ⟨b, h1, h2⟩ := h
        obtain ⟨v, e1, e2⟩ := hg x _ h1
        exact pLen_ok h2 e2 hop ha hat e1
    · cases h
  · exact plS_ok hg h
end

-- ---------------------------------------------------------------- a value becomes data
mutual
/-- Data, of what rows are written no more from then on: what is owed, the objects. -/
def pfrz : List Ob → PV → Option (Prop × List Ob × DV)
  | O, .dv d => some (True, O, d)
  | O, .ow k off n => match O[k]? with
    | some (.row z cs) => some (off + n * z ≤ cs.length, O.set k (.fro z cs), .sl z n ((cs.drop off).take (n * z)))
    | some (.fro z cs) => some (off + n * z ≤ cs.length, O, .sl z n ((cs.drop off).take (n * z)))
    | _ => none
  | O, .ag cs => match pfrzL O cs with
    | some (φ, O', ds) => some (φ, O', .ag ds)
    | none => none
  | O, .ifc t x => match pfrz O x with
    | some (φ, O', d) => some (φ, O', .ifc t d)
    | none => none
  | _, _ => none
def pfrzL : List Ob → List PV → Option (Prop × List Ob × List DV)
  | O, [] => some (True, O, [])
  | O, x :: xs => match pfrz O x with
    | some (φ, O1, d) => match pfrzL O1 xs with
      | some (ψ, O2, ds) => some (φ ∧ ψ, O2, d :: ds)
      | none => none
    | none => none
end

section
variable {F : Fr} {p : PS} {s : ASt} {B : Blks} {Z : Nat → Prop}

theorem Ex.wide {s : ASt} {B : Blks} {Z Z' : Nat → Prop} (h : ∀ b, Z b → Z' b) : Ex s.H Z B s.H Z' B := ⟨fun b _ _ hz k => ⟨h b hz, k⟩, fun _ _ h => h⟩

mutual
theorem pfrz_ok {p : PS} {Z : Nat → Prop} (h : StB F p s B Z) : ∀ {x : PV} {v : Value} {φ : Prop} {O' : List Ob} {d : DV}, RV s.H Z B x v → pfrz p.ob x = some (φ, O', d) → φ →
    ∃ Z', StB F { p with ob := O' } s B Z' ∧ RD s.H Z' d v ∧ (∀ b, Z b → Z' b)
  | .dv d, v, φ, O', d', hx, hf, hφ => by
    cases hf
    cases hx with | dv hd => exact ⟨Z, h, hd, fun _ h => h⟩
  | .ow k off n, v, φ, O', d', hx, hf, hφ => by
    have fin : ∀ {z : Nat} {cs : List DV} {Z' : Nat → Prop} (p' : PS), StB F p' s B Z' → p'.ob[k]? = some (.fro z cs) → off + n * z ≤ cs.length → RD s.H Z' (.sl z n ((cs.drop off).take (n * z))) v := by
      intro z cs Z' p' h' hk hl
      rcases h'.ob k _ hk with ⟨b, o, vs, st, e1, e2, e3, e4, e5, e6⟩ | ⟨e1, e2⟩
      · cases hx with
        | ow f1 f2 =>
          rw [e1] at f1
          cases f1
          have hd := (e6.drop (k := off) (by omega)).take (n * z)
          have hlen : ((cs.drop off).take (n * z)).length = n * z := by simp; omega
          exact .sl e2 e3 e4 e5 f2 hlen hd.1 hd.2
        | ow0 f1 => rw [e1] at f1; cases f1
      · cases hx with
        | ow f1 f2 => rw [e1] at f1; cases f1
        | ow0 f1 => subst e2; simp; exact .nil
    unfold pfrz at hf
    split at hf
    · rename_i z cs hk
      cases hf
      obtain ⟨Z', h1, h2⟩ := h.freeze hk
      exact ⟨Z', h1, fin _ h1 (by simp [(List.getElem?_eq_some_iff.1 hk).1]) hφ, h2⟩
    · rename_i z cs hk
      cases hf
      exact ⟨Z, h, fin _ h hk hφ, fun _ h => h⟩
    · cases hf
  | .ag cs, v, φ, O', d', hx, hf, hφ => by
    unfold pfrz at hf
    split at hf
    · rename_i ψ O1 ds hl
      cases hf
      cases hx with
      | ag h1 h2 =>
        obtain ⟨Z', e1, e2, e3, e4⟩ := pfrzL_ok h (xs := cs) ⟨h1, h2⟩ hl hφ
        exact ⟨Z', e1, .ag e2 e3, e4⟩
    · cases hf
  | .ifc t x, v, φ, O', d', hx, hf, hφ => by
    unfold pfrz at hf
    split at hf
    · rename_i ψ O1 ds hl
      cases hf
      cases hx with
      | ifc h1 =>
        obtain ⟨Z', e1, e2, e3⟩ := pfrz_ok h h1 hl hφ
        exact ⟨Z', e1, .ifc e2, e3⟩
    · cases hf
  | .bad, _, _, _, _, _, hf, _ => by cases hf
  | .pt _ _, _, _, _, _, _, hf, _ => by cases hf
  | .ld _, _, _, _, _, _, hf, _ => by cases hf
  | .tup _, _, _, _, _, _, hf, _ => by cases hf
  | .fn _ _ _, _, _, _, _, _, hf, _ => by cases hf
theorem pfrzL_ok {p : PS} {Z : Nat → Prop} (h : StB F p s B Z) : ∀ {xs : List PV} {vs : List Value} {φ : Prop} {O' : List Ob} {ds : List DV}, RVL s.H Z B xs vs → pfrzL p.ob xs = some (φ, O', ds) → φ →
    ∃ Z', StB F { p with ob := O' } s B Z' ∧ ds.length = vs.length ∧ (∀ (i : Nat) d v, ds[i]? = some d → vs[i]? = some v → RD s.H Z' d v) ∧ (∀ b, Z b → Z' b)
  | [], vs, φ, O', ds, hx, hf, hφ => by
    cases hf
    exact ⟨Z, h, by simpa using hx.1, fun i d v hd => by simp at hd, fun _ h => h⟩
  | x :: xs, [], φ, O', ds, hx, hf, hφ => by have := hx.1; simp at this
  | x :: xs, v :: vs, φ, O', ds, hx, hf, hφ => by
    unfold pfrzL at hf
    split at hf
    · rename_i ψ O1 d h1
      split at hf
      · rename_i χ O2 ds' h2
        cases hf
        obtain ⟨Z1, e1, e2, e3⟩ := pfrz_ok h (hx.2 0 x v rfl rfl) h1 hφ.1
        have hx' : RVL s.H Z1 B xs vs := ⟨by have := hx.1; simpa using this, fun i y w hy hw => (hx.2 (i + 1) y w (by simpa using hy) (by simpa using hw)).mono (.wide e3)⟩
        obtain ⟨Z2, f1, f2, f3, f4⟩ := pfrzL_ok e1 hx' h2 hφ.2
        refine ⟨Z2, f1, by simp [f2], fun i d' w hd hw => ?_, fun b hb => f4 b (e3 b hb)⟩
        cases i with
        | zero =>
          simp at hd hw
          subst hd; subst hw
          exact e2.mono fun b c st hz hb => ⟨f4 b hz, hb⟩
        | succ i => exact f3 i d' w (by simpa using hd) (by simpa using hw)
      · cases hf
    · cases hf
end
end

-- ---------------------------------------------------------------- other numbers
mutual
def PV.ren (f : Nat → Option Nat) : PV → PV
  | .ow k off n => match f k with | some j => .ow j off n | none => .bad
  | .pt k off => match f k with | some j => .pt j off | none => .bad
  | .ag cs => .ag (renL f cs)
  | .tup cs => .tup (renL f cs)
  | .fn g a b => .fn g (renL f a) (renL f b)
  | .ifc t x => .ifc t (PV.ren f x)
  | x => x
def renL (f : Nat → Option Nat) : List PV → List PV
  | [] => []
  | x :: xs => PV.ren f x :: renL f xs
end

def Ob.ren (f : Nat → Option Nat) : Ob → Ob
  | .var cs => .var (renL f cs)
  | o => o

theorem renL_map (f : Nat → Option Nat) : ∀ l : List PV, renL f l = l.map (PV.ren f)
  | [] => rfl
  | x :: xs => by simp [renL, renL_map f xs]

section
variable {H : AHeap} {Z : Nat → Prop} {B B' : Blks} {f : Nat → Option Nat}

theorem RV.ren (hf : ∀ k j y, f k = some j → B[k]? = some y → B'[j]? = some y) {x : PV} {v : Value} (h : RV H Z B x v) : RV H Z B' (x.ren f) v := by
  have fin : ∀ {cs : List PV} {vs : List Value}, (∀ (i : Nat) x v, cs[i]? = some x → vs[i]? = some v → RV H Z B' (x.ren f) v) → ∀ (i : Nat) x v, (renL f cs)[i]? = some x → vs[i]? = some v → RV H Z B' x v := by
    intro cs vs ih i x v hx hv
    rw [renL_map, List.getElem?_map] at hx
    obtain ⟨y, hy, rfl⟩ := Option.map_eq_some_iff.1 hx
    exact ih i y v hy hv
  induction h with
  | bad => exact .bad
  | dv hd => exact .dv hd
  | ow h1 h2 =>
    rename_i k off n b o c
    simp only [PV.ren]
    cases hk : f k with
    | none => exact .bad
    | some j => exact .ow (hf k j _ hk h1) h2
  | ow0 h1 =>
    rename_i k
    simp only [PV.ren]
    cases hk : f k with
    | none => exact .bad
    | some j => exact .ow0 (hf k j _ hk h1)
  | pt h1 =>
    rename_i k off b o
    simp only [PV.ren]
    cases hk : f k with
    | none => exact .bad
    | some j => exact .pt (hf k j _ hk h1)
  | ld h1 h2 h3 h4 h5 => exact .ld h1 h2 h3 h4 h5
  | ag h1 _ ih => exact .ag (by rw [renL_map, List.length_map]; exact h1) (fin ih)
  | tup h1 _ ih => exact .tup (by rw [renL_map, List.length_map]; exact h1) (fin ih)
  | fn h1 h2 _ _ ih1 ih2 => exact .fn (by rw [renL_map, List.length_map]; exact h1) (by rw [renL_map, List.length_map]; exact h2) (fin ih1) (fin ih2)
  | ifc _ ih => exact .ifc ih

theorem RVL.ren (hf : ∀ k j y, f k = some j → B[k]? = some y → B'[j]? = some y) {xs : List PV} {vs : List Value} (h : RVL H Z B xs vs) : RVL H Z B' (renL f xs) vs := by
  refine ⟨by rw [renL_map, List.length_map]; exact h.1, fun i x v hx hv => ?_⟩
  rw [renL_map, List.getElem?_map] at hx
  obtain ⟨y, hy, rfl⟩ := Option.map_eq_some_iff.1 hx
  exact (h.2 i y v hy hv).ren hf

/-- An object under another number. -/
theorem OkOb.ren (hf : ∀ k j y, f k = some j → B[k]? = some y → B'[j]? = some y) {k j : Nat} (hk : B'[j]? = B[k]?) {o : Ob} (h : OkOb H Z B k o) : OkOb H Z B' j (o.ren f) := by
  cases o with
  | gone => trivial
  | row z cs => simp only [Ob.ren, OkOb, hk]; exact h
  | fro z cs => simp only [Ob.ren, OkOb, hk]; exact h
  | itr t pos => simp only [Ob.ren, OkOb, hk]; exact h
  | var cs =>
    obtain ⟨b, o, vs, h1, h2, h3⟩ := h
    refine ⟨b, o, vs, by rw [hk]; exact h1, h2, by rw [renL_map, List.length_map]; exact h3.1, fun i x v hx hv => ?_⟩
    rw [renL_map, List.getElem?_map] at hx
    obtain ⟨y, hy, rfl⟩ := Option.map_eq_some_iff.1 hx
    exact (h3.2 i y v hy hv).ren hf

theorem Ob.ren_live (o : Ob) : (o.ren f).live = o.live := by cases o <;> rfl
end
end Go.Eng

namespace Go.Eng
open Go

def dcellOk : DV → Bool
  | .sc v => cellOk v
  | .ag _ => false
  | _ => true

/-- Each cell fits in one. -/
def OkD (cs : List DV) : Prop := cs.all dcellOk = true

def pcellOk : PV → Bool
  | .bad => false
  | .dv d => dcellOk d
  | .ag _ => false
  | .tup _ => false
  | _ => true

def bcs (l : List UInt8) : List DV := l.map fun b => .sc (.int .u8 b.toNat)

theorem bcs_length (l : List UInt8) : (bcs l).length = l.length := by simp [bcs]

def palloc (P : Program) (g : Operand → Option PV) (O : List Ob) (o : Oper) : Option (Prop × List Ob × Ob × (Nat → PV)) :=
  match o.op with
  | .alloc e => match zeroT P e with
    | some z => match pcells (.dv (.sc z)) with
      | some cs => if cs.all pcellOk then some (True, O, .var cs, fun k => .pt k 0) else none
      | none => none
    | none => none
  | .box _ x => match g x with
    | some y => match pcells y with
      | some cs => some (cs.all pcellOk = true, O, .var cs, fun k => .pt k 0)
      | none => none
    | none => none
  | .buildSlice t len parts => match elemS P t, pparts g parts.toList with
    | some e, some ps => match sizeT P e, zeroT P e with
      | some sz, some z => match pcells (.dv (.sc z)) with
        | some zc => if 16777216 < len * sz ∨ zc.length ≠ sz ∨ sz = 0 then none else
          match pfill (fun i => some (i * sz, sz)) ((List.replicate len zc).flatten) ps with
          | some cs => match pfrzL O cs with
            | some (φ, O', ds) => some (φ ∧ OkD ds ∧ ds.length = len * sz, O', .row sz ds, fun k => .ow k 0 len)
            | none => none
          | none => none
        | none => none
      | _, _ => none
    | _, _ => none
  | .makeSlice t l c => match elemS P t, g l, g c with
    | some e, some (.dv (.sc (.int .i64 l))), some (.dv (.sc (.int .i64 c))) => match sizeT P e, bytesT P e, zeroT P e with
      | some sz, some by_, some z => if (vcells z).length = sz ∧ sz ≠ 0 ∧ (vcells z).all cellOk = true ∧ (vcells z).all free = true then
          some (0 ≤ l ∧ l ≤ c ∧ by_ * c.toNat ≤ 281474976710656 ∧ c ≤ 9223372036854775807, O, .row sz ((List.replicate c.toNat ((vcells z).map .sc)).flatten), fun k => .ow k 0 l.toNat) else none
      | _, _, _ => none
    | _, _, _ => none
  | .convert src dst x => match g x, P.underlying src, P.underlying dst with
    | some (.dv (.sc (.string s))), some _, some (.slice e) => match P.underlying e with
      | some (.int .u8) => some (True, O, .row 1 (bcs s.data.toList), fun k => .ow k 0 s.size)
      | _ => none
    | _, _, _ => none
  | _ => none

/-- The new block fits the new object. -/
def NewOk (H : AHeap) (Z : Nat → Prop) (B : Blks) (nw : New) (ob : Ob) (mk : Nat → PV) : Prop :=
  (∃ cs, ob = .var cs ∧ nw.esz = 0 ∧ nw.sl = none ∧ (mk = fun k => .pt k 0) ∧ RVL H Z B cs nw.cells) ∨
  (∃ z ds n c, ob = .row z ds ∧ nw.esz = z ∧ nw.sl = some (n, c) ∧ n ≤ c ∧ z ≠ 0 ∧ (mk = fun k => .ow k 0 n) ∧ ds.length = nw.cells.length ∧ ∀ (i : Nat) d v, ds[i]? = some d → nw.cells[i]? = some v → RD H Z d v)

section
variable {P : Program} {F : Fr} {p : PS} {s : ASt} {B : Blks} {Z : Nat → Prop} {g : Operand → Option PV} {ρ : Operand → Option Value}

theorem dcellOk_ok {H : AHeap} {d : DV} {v : Value} (h : RD H Z d v) (k : dcellOk d = true) : cellOk v = true := by
  cases h with
  | sc hf => exact k
  | nil => rfl
  | sl => rfl
  | ag => cases k
  | ifc => rfl

theorem pcellOk_ok {H : AHeap} {x : PV} {v : Value} (h : RV H Z B x v) (k : pcellOk x = true) : cellOk v = true := by
  cases h with
  | dv hd => exact dcellOk_ok hd k
  | bad => cases k
  | ag => cases k
  | tup => cases k
  | _ => rfl

theorem all_pcellOk {H : AHeap} {cs : List PV} {vs : List Value} (h : RVL H Z B cs vs) (k : cs.all pcellOk = true) : vs.all cellOk = true := by
  rw [List.all_eq_true] at k ⊢
  intro v hv
  obtain ⟨i, hi⟩ := List.mem_iff_getElem?.1 hv
  have hl : i < cs.length := by rw [h.1]; exact (List.getElem?_eq_some_iff.1 hi).1
  exact pcellOk_ok (h.2 i cs[i] v (by simp [hl]) hi) (k _ (List.getElem_mem hl))

theorem all_dcellOk {H : AHeap} {ds : List DV} {vs : List Value} (hl : ds.length = vs.length) (h : ∀ (i : Nat) d v, ds[i]? = some d → vs[i]? = some v → RD H Z d v) (k : ds.all dcellOk = true) : vs.all cellOk = true := by
  rw [List.all_eq_true] at k ⊢
  intro v hv
  obtain ⟨i, hi⟩ := List.mem_iff_getElem?.1 hv
  have hl : i < ds.length := by rw [hl]; exact (List.getElem?_eq_some_iff.1 hi).1
  exact dcellOk_ok (h i ds[i] v (by simp [hl]) hi) (k _ (List.getElem_mem hl))

theorem RVL.append {H : AHeap} {cs ds : List PV} {vs ws : List Value} (h : RVL H Z B cs vs) (k : RVL H Z B ds ws) : RVL H Z B (cs ++ ds) (vs ++ ws) := by
  refine ⟨by simp [h.1, k.1], fun i x v hx hv => ?_⟩
  by_cases hi : i < cs.length
  · rw [List.getElem?_append_left hi] at hx
    rw [List.getElem?_append_left (by rw [← h.1]; exact hi)] at hv
    exact h.2 i x v hx hv
  · rw [List.getElem?_append_right (by omega)] at hx
    rw [List.getElem?_append_right (by rw [← h.1]; omega), ← h.1] at hv
    exact k.2 _ x v hx hv

theorem RVL.repl {H : AHeap} {cs : List PV} {vs : List Value} (h : RVL H Z B cs vs) : ∀ n, RVL H Z B (List.replicate n cs).flatten (List.replicate n vs).flatten
  | 0 => .nil
  | n + 1 => by
    simp only [List.replicate_succ, List.flatten_cons]
    exact h.append (RVL.repl h n)

theorem bytesCells_ok {H : AHeap} (t : ByteArray) : (bcs t.data.toList).length = (bytesCells t).length ∧ ∀ (i : Nat) d v, (bcs t.data.toList)[i]? = some d → (bytesCells t)[i]? = some v → RD H Z d v := by
  refine ⟨by simp [bcs, bytesCells], fun i d v hd hv => ?_⟩
  simp only [bcs, bytesCells, List.getElem?_map] at hd hv
  obtain ⟨b, hb, rfl⟩ := Option.map_eq_some_iff.1 hd
  rw [hb] at hv
  cases hv
  exact .sc rfl

theorem zeros_ok {H : AHeap} {z : List Value} (hf : z.all free = true) (n : Nat) : ((List.replicate n (z.map DV.sc)).flatten).length = ((List.replicate n z).flatten).length ∧
    ∀ (i : Nat) d v, ((List.replicate n (z.map DV.sc)).flatten)[i]? = some d → ((List.replicate n z).flatten)[i]? = some v → RD H Z d v := by
  have e : (List.replicate n (z.map DV.sc)).flatten = ((List.replicate n z).flatten).map DV.sc := by
    induction n with
    | zero => rfl
    | succ n ih => simp only [List.replicate_succ, List.flatten_cons, List.map_append, ih]
  rw [e]
  refine ⟨by simp, fun i d v hd hv => ?_⟩
  rw [List.getElem?_map, hv] at hd
  cases hd
  refine .sc ?_
  have := List.mem_of_getElem? hv
  simp only [List.mem_flatten, List.mem_replicate] at this
  obtain ⟨l, ⟨_, rfl⟩, hl⟩ := this
  exact List.all_eq_true.1 hf _ hl

theorem palloc_ok (h : StB F p s B Z) (hg : ∀ x y, g x = some y → ∃ v, ρ x = some v ∧ RV s.H Z B y v) {o : Oper} {φ : Prop} {O' : List Ob} {ob : Ob} {mk : Nat → PV} (ha : palloc P g p.ob o = some (φ, O', ob, mk)) (hφ : φ) :
    ∃ nw Z', aalloc P ρ o = some nw ∧ StB F { p with ob := O' } s B Z' ∧ (∀ b, Z b → Z' b) ∧ NewOk s.H Z' B nw ob mk := by
  unfold palloc at ha
  split at ha
  · rename_i e hop
    split at ha
    · rename_i z hz
      split at ha
      · rename_i cs hcs
        split at ha
        · rename_i hall
          cases ha
          have hc := pcells_ok (H := s.H) (Z := Z) (B := B) (.dv (.sc (zeroT_free hz))) hcs
          exact ⟨⟨vcells z, 0, none⟩, Z, by simp only [aalloc, hop, hz, all_pcellOk hc hall, if_true], h, fun _ h => h, .inl ⟨cs, rfl, rfl, rfl, rfl, hc⟩⟩
        · cases ha
      · cases ha
    · cases ha
  · rename_i e x hop
    split at ha
    · rename_i y hy
      split at ha
      · rename_i cs hcs
        cases ha
        obtain ⟨v, e1, e2⟩ := hg x _ hy
        have hc := pcells_ok e2 hcs
        exact ⟨⟨vcells v, 0, none⟩, Z, by simp only [aalloc, hop, e1, all_pcellOk hc hφ, if_true], h, fun _ h => h, .inl ⟨cs, rfl, rfl, rfl, rfl, hc⟩⟩
      · cases ha
    · cases ha
  · rename_i t len parts hop
    split at ha
    · rename_i e ps he hps
      split at ha
      · rename_i sz z hsz hz
        split at ha
        · rename_i zc hzc
          split at ha
          · cases ha
          · rename_i hcond
            split at ha
            · rename_i cs hfill
              split at ha
              · rename_i ψ O1 ds hfrz
                cases ha
                obtain ⟨q1, q2, q3⟩ := hφ
                obtain ⟨vs, e1, e2⟩ := pparts_ok hg hps
                have hzz := pcells_ok (H := s.H) (Z := Z) (B := B) (.dv (.sc (zeroT_free hz))) hzc
                obtain ⟨ws, f1, f2⟩ := pfill_ok e2 (hzz.repl len) hfill
                obtain ⟨Z', g1, g2, g3, g4⟩ := pfrzL_ok h f2 hfrz q1
                refine ⟨⟨ws, sz, some (len, len)⟩, Z', ?_, g1, g4, .inr ⟨sz, ds, len, len, rfl, rfl, rfl, Nat.le_refl _, fun h => hcond (.inr (.inr h)), rfl, g2, g3⟩⟩
                simp only [aalloc, hop, he, e1, hsz, hz]
                rw [if_neg (by rw [← hzz.1]; exact hcond)]
                simp only [f1, all_dcellOk g2 g3 q2, if_true]
              · cases ha
            · cases ha
        · cases ha
      · cases ha
    · cases ha
  · rename_i t l c hop
    split at ha
    · rename_i e l' c' he hl hc
      split at ha
      · rename_i sz by_ z hsz hby hz
        split at ha
        · rename_i hcond
          cases ha
          obtain ⟨v1, e1, e2⟩ := hg l _ hl
          obtain ⟨v2, e3, e4⟩ := hg c _ hc
          cases e2 with | dv hd => cases hd with | sc _ =>
          cases e4 with | dv hd => cases hd with | sc _ =>
          have hzs := zeros_ok (H := s.H) (Z := Z) hcond.2.2.2 c'.toNat
          refine ⟨⟨(List.replicate c'.toNat (vcells z)).flatten, sz, some (l'.toNat, c'.toNat)⟩, Z, ?_, h, fun _ h => h, .inr ⟨sz, _, l'.toNat, c'.toNat, rfl, rfl, rfl, by omega, hcond.2.1, rfl, hzs⟩⟩
          simp only [aalloc, hop, he, e1, e3, hsz, hby, hz]
          rw [if_pos ⟨hφ.1, hφ.2.1, hφ.2.2.1, hφ.2.2.2, hcond.1, hcond.2.1, hcond.2.2.1⟩]
        · cases ha
      · cases ha
    · cases ha
  · rename_i src dst x hop
    split at ha
    · rename_i t d e hx hs hd
      split at ha
      · rename_i hu
        cases ha
        obtain ⟨v, e1, e2⟩ := hg x _ hx
        cases e2 with | dv hd => cases hd with | sc _ =>
        exact ⟨⟨bytesCells t, 1, some (t.size, t.size)⟩, Z, by simp only [aalloc, hop, e1, hs, hd, hu], h, fun _ h => h, .inr ⟨1, _, t.size, t.size, rfl, rfl, rfl, Nat.le_refl _, by decide, rfl, bytesCells_ok t⟩⟩
      · cases ha
    · cases ha
  · cases ha

/-- A new block, laid where none was. -/
theorem StB.alloc (h : StB F p s B Z) {H' : AHeap} {id : Nat} (hid : s.H[id]? = none ∨ s.H[id]? = some .hole) (hN : F.N ≤ id) (hs : s.H.size ≤ H'.size) {nw : New} {ob : Ob} {mk : Nat → PV}
    (hnew : H'[id]? = some (.cells nw.cells (.rw nw.esz))) (hsame : ∀ b, b < s.H.size → b ≠ id → H'[b]? = s.H[b]?) (hn : NewOk s.H Z B nw ob mk) :
    ∃ Z', StB F { p with ob := p.ob ++ [ob] } { s with H := H' } (B ++ [some (id, 0)]) Z' ∧ RV H' Z' (B ++ [some (id, 0)]) (mk p.ob.length) (nw.val id) ∧ Ex s.H Z B H' Z' (B ++ [some (id, 0)]) := by
  have hnc : ∀ c st, s.H[id]? ≠ some (.cells c st) := fun c st => by rcases hid with h | h <;> rw [h] <;> simp
  have h1 := h.unzone hnc
  have hlive : ∀ k o, Live p.ob k → B[k]? ≠ some (some (id, o)) := by
    rintro k o ⟨ob', e1, e2⟩ e3
    have := h.ob k ob' e1
    cases ob' with
    | gone => cases e2
    | fro z cs => cases e2
    | row z cs =>
      rcases this with ⟨b', o', vs, f1, f2, _⟩ | ⟨f1, _⟩
      · rw [e3] at f1; cases f1; exact hnc _ _ f2
      · rw [e3] at f1; cases f1
    | var cs =>
      obtain ⟨b', o', vs, f1, f2, _⟩ := this
      rw [e3] at f1; cases f1; exact hnc _ _ f2
    | itr t pos =>
      obtain ⟨b', f1, f2⟩ := this
      rw [e3] at f1; cases f1
      rcases hid with hid | hid <;> rw [hid] at f2 <;> cases f2
  have h2 : StB F p { s with H := H' } B (fun b => Z b ∧ b ≠ id) := h1.junk hs fun b hb hne => by
    by_cases hbi : b = id
    · subst hbi
      exact ⟨fun hz => hz.2 rfl, .inr hN, hlive⟩
    · exact absurd (hsame b hb hbi) hne
  have hex : Ex s.H Z B H' (fun b => Z b ∧ b ≠ id) (B ++ [some (id, 0)]) := by
    refine ⟨fun b c st hz hb => ?_, fun _ _ h => append_some h⟩
    have hbi : b ≠ id := by rintro rfl; exact hnc _ _ hb
    exact ⟨⟨hz, hbi⟩, (hsame b (lt_of_get hb) hbi).trans hb⟩
  have hat : (B ++ [some (id, 0)])[p.ob.length]? = some (some (id, 0)) := by rw [← h.bl]; simp
  refine ⟨fun b => Z b ∧ b ≠ id, h2.addOb ?_ ?_, ?_, hex⟩
  · rcases hn with ⟨cs, rfl, e1, e2, e3, e4⟩ | ⟨z, ds, n, c, rfl, e1, e2, e3, e4, e5, e6, e7⟩
    · refine ⟨id, 0, nw.cells, hat, by rw [e1] at hnew; exact hnew, by rw [e4.1]; omega, fun i x v hx hv => ?_⟩
      rw [Nat.zero_add] at hv
      exact (e4.2 i x v hx hv).mono hex
    · refine .inl ⟨id, 0, nw.cells, hat, by rw [e1] at hnew; exact hnew, e4, by rw [e6]; omega, fun i x v hx hv => ?_⟩
      rw [Nat.zero_add] at hv
      exact (e7 i x v hx hv).mono hex.zone
  · rintro _ b oo hb
    cases hb
    exact ⟨fun hz => hz.2 rfl, .inr hN, fun j o2 hj => hlive j o2 hj⟩
  · rcases hn with ⟨cs, rfl, e1, e2, rfl, e4⟩ | ⟨z, ds, n, c, rfl, e1, e2, e3, e4, rfl, e6, e7⟩
    · simp only [New.val, e2]
      exact .pt (o := 0) hat
    · simp only [New.val, e2]
      exact .ow (o := 0) hat e3

-- ---------------------------------------------------------------- stores
def dblit (c : List DV) (off : Nat) : List DV → List DV
  | [] => c
  | v :: vs => dblit (c.set off v) (off + 1) vs

def pstore (P : Program) (t : TypeId) (a x : PV) (O : List Ob) : Option (Prop × List Ob) :=
  match a, pcells x, sizeT P t with
  | .pt k off, some xs, some n => match O[k]? with
    | some (.var cs) => some (xs.length = n ∧ off + n ≤ cs.length ∧ xs.all pcellOk = true, O.set k (.var (pblit cs off xs)))
    | some (.row z cs) => match pfrzL O xs with
      | some (φ, O', ds) => match O'[k]? with
        | some (.row _ _) => some (φ ∧ ds.length = n ∧ off + n ≤ cs.length ∧ OkD ds, O'.set k (.row z (dblit cs off ds)))
        | _ => none
      | none => none
    | _ => none
  | _, _, _ => none

theorem store_eq {H : AHeap} {b off e : Nat} {c vs : List Value} (hb : H[b]? = some (.cells c (.rw e))) (hl : off + vs.length ≤ c.length) (hk : vs.all cellOk = true) :
    H.store ⟨b, off, none⟩ vs = some (H.setIfInBounds b (.cells (blit c off vs) (.rw e))) := by
  simp only [AHeap.store, hb]
  rw [if_pos ⟨hl, hk⟩]

theorem blit_get : ∀ (vs c : List Value) (off i : Nat), off + vs.length ≤ c.length → (blit c off vs)[i]? = if off ≤ i ∧ i < off + vs.length then vs[i - off]? else c[i]?
  | [], c, off, i, _ => by simp only [blit, List.length_nil, Nat.add_zero]; rw [if_neg (by omega)]
  | v :: vs, c, off, i, h => by
    simp only [blit, List.length_cons] at h ⊢
    rw [blit_get vs (c.set off v) (off + 1) i (by simp; omega), List.getElem?_set]
    by_cases h1 : off + 1 ≤ i ∧ i < off + 1 + vs.length
    · rw [if_pos h1, if_pos (by omega)]
      obtain ⟨j, rfl⟩ : ∃ j, i = off + 1 + j := ⟨i - (off + 1), by omega⟩
      rw [show off + 1 + j - (off + 1) = j by omega, show off + 1 + j - off = j + 1 by omega, List.getElem?_cons_succ]
    · rw [if_neg h1]
      by_cases h2 : off = i
      · subst h2
        rw [if_pos rfl, if_pos (by omega), if_pos (by omega), Nat.sub_self, List.getElem?_cons_zero]
      · rw [if_neg h2, if_neg (by omega)]

theorem pblit_get : ∀ (vs c : List PV) (off i : Nat), off + vs.length ≤ c.length → (pblit c off vs)[i]? = if off ≤ i ∧ i < off + vs.length then vs[i - off]? else c[i]?
  | [], c, off, i, _ => by simp only [pblit, List.length_nil, Nat.add_zero]; rw [if_neg (by omega)]
  | v :: vs, c, off, i, h => by
    simp only [pblit, List.length_cons] at h ⊢
    rw [pblit_get vs (c.set off v) (off + 1) i (by simp; omega), List.getElem?_set]
    by_cases h1 : off + 1 ≤ i ∧ i < off + 1 + vs.length
    · rw [if_pos h1, if_pos (by omega)]
      obtain ⟨j, rfl⟩ : ∃ j, i = off + 1 + j := ⟨i - (off + 1), by omega⟩
      rw [show off + 1 + j - (off + 1) = j by omega, show off + 1 + j - off = j + 1 by omega, List.getElem?_cons_succ]
    · rw [if_neg h1]
      by_cases h2 : off = i
      · subst h2
        rw [if_pos rfl, if_pos (by omega), if_pos (by omega), Nat.sub_self, List.getElem?_cons_zero]
      · rw [if_neg h2, if_neg (by omega)]

theorem dblit_get : ∀ (vs c : List DV) (off i : Nat), off + vs.length ≤ c.length → (dblit c off vs)[i]? = if off ≤ i ∧ i < off + vs.length then vs[i - off]? else c[i]?
  | [], c, off, i, _ => by simp only [dblit, List.length_nil, Nat.add_zero]; rw [if_neg (by omega)]
  | v :: vs, c, off, i, h => by
    simp only [dblit, List.length_cons] at h ⊢
    rw [dblit_get vs (c.set off v) (off + 1) i (by simp; omega), List.getElem?_set]
    by_cases h1 : off + 1 ≤ i ∧ i < off + 1 + vs.length
    · rw [if_pos h1, if_pos (by omega)]
      obtain ⟨j, rfl⟩ : ∃ j, i = off + 1 + j := ⟨i - (off + 1), by omega⟩
      rw [show off + 1 + j - (off + 1) = j by omega, show off + 1 + j - off = j + 1 by omega, List.getElem?_cons_succ]
    · rw [if_neg h1]
      by_cases h2 : off = i
      · subst h2
        rw [if_pos rfl, if_pos (by omega), if_pos (by omega), Nat.sub_self, List.getElem?_cons_zero]
      · rw [if_neg h2, if_neg (by omega)]

theorem dblit_length : ∀ (c : List DV) (off : Nat) (vs : List DV), (dblit c off vs).length = c.length
  | _, _, [] => rfl
  | c, off, v :: vs => by simp only [dblit]; rw [dblit_length]; simp

/-- An object's own block is written. -/
theorem StB.write (h : StB F p s B Z) {k b o : Nat} (hk : Live p.ob k) (hb : B[k]? = some (some (b, o))) {c : List Value} {z : Nat} {ob : Ob}
    (hob : OkOb (s.H.setIfInBounds b (.cells c (.rw z))) Z B k ob) : StB F { p with ob := p.ob.set k ob } { s with H := s.H.setIfInBounds b (.cells c (.rw z)) } B Z := by
  have hz := h.lz k b o hk hb
  have hother : ∀ j o2, j ≠ k → Live p.ob j → B[j]? ≠ some (some (b, o2)) := fun j o2 hjk hj h2 => hjk (h.inj j k b o2 o hj hk h2 hb)
  have hd := h.drop k
  have hj : StB F { p with ob := p.ob.set k .gone } { s with H := s.H.setIfInBounds b (.cells c (.rw z)) } B Z := hd.junk (by simp) fun b' hb' hne => by
    have : b' = b := Classical.byContradiction fun hn => hne (by rw [Array.getElem?_setIfInBounds, if_neg (Ne.symm hn)])
    subst this
    refine ⟨hz.1, hz.2, fun j o2 hj => ?_⟩
    rcases live_set hj with ⟨_, hl⟩ | ⟨hjk, hj2⟩
    · cases hl
    · exact hother j o2 hjk hj2
  have hs := hj.setOb (k := k) (o := ob) hob fun _ b' oo hb' => by
    rw [hb] at hb'
    cases hb'
    refine ⟨hz.1, hz.2, fun j o2 hjk hj => ?_⟩
    rcases live_set hj with ⟨_, hl⟩ | ⟨_, hj2⟩
    · cases hl
    · exact hother j o2 hjk hj2
  simpa [List.set_set] using hs

theorem pstore_ok (h : StB F p s B Z) {t : TypeId} {a x : PV} {va vx : Value} {φ : Prop} {O' : List Ob} (ha : RV s.H Z B a va) (hx : RV s.H Z B x vx) (hp : pstore P t a x p.ob = some (φ, O')) (hφ : φ) :
    ∃ ad H' Z', va = .pointer (some ad) ∧ astore P s.H t ad vx = some H' ∧ StB F { p with ob := O' } { s with H := H' } B Z' ∧ H'.size = s.H.size ∧
      (∃ k b o, B[k]? = some (some (b, o)) ∧ Live p.ob k ∧ ad.block = b ∧ (∀ b', b' ≠ b → H'[b']? = s.H[b']?) ∧ ∃ off, a = .pt k off) ∧ (∀ b, Z b → Z' b) := by
  unfold pstore at hp
  split at hp
  · rename_i k off xs n hc hn
    have hcs := pcells_ok hx hc
    cases ha with
    | pt hb =>
      rename_i b o
      split at hp
      · rename_i cs hk
        cases hp
        obtain ⟨q1, q2, q3⟩ := hφ
        have hlk : Live p.ob k := ⟨_, hk, rfl⟩
        obtain ⟨b', o', vs, e1, e2, e3⟩ := h.ob k _ hk
        rw [hb] at e1
        cases e1
        have hl := e3.1
        have hlen : (vcells vx).length = n := by rw [← hcs.1]; exact q1
        refine ⟨_, s.H.setIfInBounds b (.cells (Go.Eng.blit vs (o + off) (vcells vx)) (.rw 0)), Z, rfl, ?_, h.write hlk hb ?_, by simp, ⟨k, b, o, hb, hlk, rfl, (fun b' hne => by rw [Array.getElem?_setIfInBounds, if_neg (Ne.symm hne)]), off, rfl⟩, fun _ h => h⟩
        · simp only [astore, hn]
          rw [if_pos hlen]
          exact store_eq e2 (by omega) (all_pcellOk hcs q3)
        · have hex : Ex s.H Z B (s.H.setIfInBounds b (.cells (Go.Eng.blit vs (o + off) (vcells vx)) (.rw 0))) Z B := ⟨fun b' c st hz hb' => by
            have : b ≠ b' := by rintro rfl; exact (h.lz k _ o hlk hb).1 hz
            exact ⟨hz, by rw [Array.getElem?_setIfInBounds, if_neg this]; exact hb'⟩, fun _ _ h => h⟩
          refine ⟨b, o, Go.Eng.blit vs (o + off) (vcells vx), hb, by simp [lt_of_get e2], ?_, fun i y w hy hw => ?_⟩
          · rw [pblit_length, blit_length]; exact e3.1
          · rw [pblit_get _ _ _ _ (by omega)] at hy
            rw [blit_get _ _ _ _ (by omega)] at hw
            by_cases hi : off ≤ i ∧ i < off + xs.length
            · rw [if_pos hi] at hy
              rw [if_pos (by omega), show o + i - (o + off) = i - off by omega] at hw
              exact (hcs.2 _ y w hy hw).mono hex
            · rw [if_neg hi] at hy
              rw [if_neg (by omega)] at hw
              exact (e3.2 i y w hy hw).mono hex
      · rename_i z cs hk
        split at hp
        · rename_i ψ O1 ds hfrz
          split at hp
          · rename_i z' cs' hk1
            cases hp
            obtain ⟨q1, q2, q3, q4⟩ := hφ
            obtain ⟨Z', g1, g2, g3, g4⟩ := pfrzL_ok h hcs hfrz q1
            have hlk0 : Live p.ob k := ⟨_, hk, rfl⟩
            have hlk : Live O1 k := ⟨_, hk1, rfl⟩
            rcases h.ob k _ hk with ⟨b', o', vs, e1, e2, e3, e4⟩ | ⟨e1, _⟩
            · rw [hb] at e1
              cases e1
              have hl := e4.1
              have hlen : (vcells vx).length = n := by rw [← g2]; exact q2
              refine ⟨_, s.H.setIfInBounds b (.cells (Go.Eng.blit vs (o + off) (vcells vx)) (.rw z)), Z', rfl, ?_, g1.write hlk hb ?_, by simp, ⟨k, b, o, hb, hlk0, rfl, (fun b' hne => by rw [Array.getElem?_setIfInBounds, if_neg (Ne.symm hne)]), off, rfl⟩, g4⟩
              · simp only [astore, hn]
                rw [if_pos hlen]
                exact store_eq e2 (by omega) (all_dcellOk g2 g3 q4)
              · have hex : ∀ b' c st, Z' b' → s.H[b']? = some (.cells c st) → Z' b' ∧ (s.H.setIfInBounds b (.cells (Go.Eng.blit vs (o + off) (vcells vx)) (.rw z)))[b']? = some (.cells c st) := fun b' c st hz hb' => by
                  have : b ≠ b' := by rintro rfl; exact (g1.lz k _ o hlk hb).1 hz
                  exact ⟨hz, by rw [Array.getElem?_setIfInBounds, if_neg this]; exact hb'⟩
                refine .inl ⟨b, o, Go.Eng.blit vs (o + off) (vcells vx), hb, by simp [lt_of_get e2], e3, ?_, fun i y w hy hw => ?_⟩
                · rw [dblit_length, blit_length]; exact e4.1
                · rw [dblit_get _ _ _ _ (by omega)] at hy
                  rw [blit_get _ _ _ _ (by omega)] at hw
                  by_cases hi : off ≤ i ∧ i < off + ds.length
                  · rw [if_pos hi] at hy
                    rw [if_pos (by omega), show o + i - (o + off) = i - off by omega] at hw
                    exact (g3 _ y w hy hw).mono hex
                  · rw [if_neg hi] at hy
                    rw [if_neg (by omega)] at hw
                    exact ((e4.2 i y w hy hw).mono fun b c st hz hb => ⟨g4 b hz, hb⟩).mono hex
            · rw [hb] at e1; cases e1
          · cases hp
        · cases hp
      · cases hp
  · cases hp
end
end Go.Eng

namespace Go.Eng
open Go

def pold (sz : Nat) (O : List Ob) : PV → Option (Prop × Nat × List DV × List Ob)
  | .dv (.sc (.slice none 0 0)) => some (True, 0, [], O)
  | .ow k off n => match O[k]? with
    | some (.row z cs) => if z = sz then some (off + n * z ≤ cs.length, n, (cs.drop off).take (n * z), O.set k .gone) else none
    | _ => none
  | _ => none

def pnew (sz : Nat) (O : List Ob) : PV → Option (Prop × Nat × List DV)
  | .dv (.sc (.slice none 0 0)) => some (True, 0, [])
  | .dv (.sc (.string s)) => if sz = 1 then some (True, s.size, bcs s.data.toList) else none
  | .dv (.sl z m ys) => if z = sz then some (True, m, ys) else none
  | .ow k off m => match pview O k off m with
    | some (φ, z, cs) => if z = sz then some (φ, m, cs) else none
    | none => none
  | _ => none

def pappend (P : Program) (t : TypeId) (s x : PV) (O : List Ob) : Option (Prop × List Ob × PV) :=
  match elemS P t with
  | some e => match sizeT P e, bytesT P e, zeroT P e with
    | some sz, some by_, some z => if by_ = 0 ∨ sz = 0 ∨ (vcells z).length ≠ sz then none else
      match pold sz O s, pnew sz O x with
      | some (φ, n, old, O1), some (ψ, m, new) => some (φ ∧ ψ ∧ (n + m) * by_ ≤ room ∧ OkD old ∧ OkD new, O1 ++ [.row sz (old ++ new)], .ow O.length 0 (n + m))
      | _, _ => none
    | _, _, _ => none
  | none => none

section
variable {P : Program} {F : Fr} {p : PS} {s : ASt} {B : Blks} {Z : Nat → Prop}

theorem pnew_ok (h : StB F p s B Z) {sz m : Nat} {x : PV} {φ : Prop} {new : List DV} (hp : pnew sz p.ob x = some (φ, m, new)) (hφ : φ) {v : Value} (hx : RV s.H Z B x v) :
    lenV v = some m ∧ new.length = m * sz ∧ ∃ ns, firstOf s.H sz m v = some ns ∧ new.length = ns.length ∧ ∀ (i : Nat) d w, new[i]? = some d → ns[i]? = some w → RD s.H Z d w := by
  have cellsq : ∀ {b o c : Nat} {vs : List Value} {st : St}, s.H[b]? = some (.cells vs st) → (st = .ro ∨ st = .rw sz) → new.length = m * sz → RDs s.H Z new vs o →
      lenV (.slice (some ⟨b, o, none⟩) m c) = some m ∧ new.length = m * sz ∧ ∃ ns, firstOf s.H sz m (.slice (some ⟨b, o, none⟩) m c) = some ns ∧ new.length = ns.length ∧ ∀ (i : Nat) d w, new[i]? = some d → ns[i]? = some w → RD s.H Z d w := by
    intro b o c vs st h1 h2 h3 h4
    have hw := win_ok h4 h3.symm
    refine ⟨rfl, h3, (vs.drop o).take (m * sz), ?_, hw.1, hw.2⟩
    simp only [firstOf]
    split
    · rename_i h0; rw [h0]; simp
    · exact h4.cells? h1 (alive_of h2) (by omega)
  unfold pnew at hp
  split at hp
  · cases hp
    cases hx with | dv hd => cases hd with | sc _ =>
    exact ⟨rfl, by simp, [], rfl, rfl, fun i d w hd => by simp at hd⟩
  · rename_i t
    split at hp
    · rename_i hz
      subst hz
      cases hp
      cases hx with | dv hd => cases hd with | sc _ =>
      have hb := bytesCells_ok (H := s.H) (Z := Z) t
      refine ⟨rfl, by rw [bcs_length]; simp, bytesCells t, ?_, hb.1, hb.2⟩
      simp only [firstOf]
      rw [List.take_of_length_le]
      simp [bytesCells]
    · cases hp
  · split at hp
    · rename_i hz
      subst hz
      cases hp
      cases hx with | dv hd => cases hd with
      | nil => exact ⟨rfl, by simp, [], rfl, rfl, fun i d w hd => by simp at hd⟩
      | sl h1 h2 h3 h4 h5 h6 h7 h8 => exact cellsq h2 h3 h6 ⟨h7, h8⟩
    · cases hp
  · rename_i k off m'
    split at hp
    · rename_i ψ z cs hview
      split at hp
      · rename_i hz
        subst hz
        cases hp
        rcases pview_ok h.ob hview hφ hx with ⟨b, o, c, vs, st, rfl, _, e2, e3, e4, e5, e6, _⟩ | ⟨rfl, rfl, rfl⟩
        · exact cellsq e2 e3 e5 e6
        · exact ⟨rfl, by simp, [], rfl, rfl, fun i d w hd => by simp at hd⟩
      · cases hp
    · cases hp
  · cases hp

theorem deadAt_other {H : AHeap} {b b' : Nat} (h : b' ≠ b) : (deadAt H b)[b']? = H[b']? := deadAt_get h

theorem pappend_ok (h : StB F p s B Z) {t : TypeId} {a x y : PV} {va vx : Value} {φ : Prop} {O' : List Ob} (ha : RV s.H Z B a va) (hx : RV s.H Z B x vx) (hp : pappend P t a x p.ob = some (φ, O', y)) (hφ : φ) :
    ∃ r H' Z' y', aappend P s.H t va vx = some (r, H') ∧ StB F { p with ob := O' } { s with H := H' } (B ++ [y']) Z' ∧ RV H' Z' (B ++ [y']) y r ∧ s.H.size ≤ H'.size ∧
      (∀ b, b < s.H.size → H'[b]? ≠ s.H[b]? → ∃ k o, Live p.ob k ∧ B[k]? = some (some (b, o)) ∧ ∃ off n, a = .ow k off n) ∧ (∀ b c st, Z b → s.H[b]? = some (.cells c st) → Z' b) := by
  unfold pappend at hp
  split at hp
  · rename_i e he
    split at hp
    · rename_i sz by_ z hsz hby hz
      split at hp
      · cases hp
      · rename_i hcond
        split at hp
        · rename_i ψ n old O1 χ m new hold hnew
          cases hp
          obtain ⟨q1, q2, q3, q4, q5⟩ := hφ
          obtain ⟨n1, n2, ns, n3, n4, n5⟩ := pnew_ok h hnew q2 hx
          have hroom : ¬ room < (n + m) * by_ := by omega
          have hnall := all_dcellOk n4 n5 q5
          have hat : ∀ y', (B ++ [y'])[p.ob.length]? = some y' := fun y' => by rw [← h.bl]; simp
          have hsz0 : sz ≠ 0 := fun h => hcond (.inr (.inl h))
          -- the old part lies in a block of its own, or there is none
          have fin0 : va = .slice none 0 0 → n = 0 → old = [] → (∃ Z1, StB F { p with ob := O1 } s B Z1 ∧ (∀ b, Z b → Z1 b)) → O1.length = p.ob.length → ∃ r H' Z' y', aappend P s.H t va vx = some (r, H') ∧ StB F { p with ob := O1 ++ [.row sz (old ++ new)] } { s with H := H' } (B ++ [y']) Z' ∧ RV H' Z' (B ++ [y']) (.ow p.ob.length 0 (n + m)) r ∧ s.H.size ≤ H'.size ∧
              (∀ b, b < s.H.size → H'[b]? ≠ s.H[b]? → ∃ k o, Live p.ob k ∧ B[k]? = some (some (b, o)) ∧ ∃ off n, a = .ow k off n) ∧ (∀ b c st, Z b → s.H[b]? = some (.cells c st) → Z' b) := by
            rintro rfl rfl rfl ⟨Z1, h1, hZ1⟩ hl1
            by_cases hm : m = 0
            · subst hm
              have hne : new = [] := by apply List.eq_nil_of_length_eq_zero; omega
              subst hne
              refine ⟨.slice none 0 0, s.H, Z1, none, by simp only [aappend, he, n1, if_true, hsz, Option.map_some], ?_, .ow0 (hat none), Nat.le_refl _, fun b _ hb => absurd rfl hb, fun b _ _ hb _ => hZ1 b hb⟩
              refine h1.addOb (.inr ⟨?_, rfl⟩) (fun _ b oo hb => by cases hb)
              simp only [hl1]; exact hat none
            · have heq : aappend P s.H t (.slice none 0 0) vx = some (.slice (some (at0 s.H.size)) (0 + m) (0 + m), s.H.push (.cells ([] ++ ns) (.rw sz))) := by
                simp only [aappend, he, n1, if_neg hm, hsz, hby, hz]
                rw [if_neg hcond, if_neg hroom, n3]
                simp only [firstOf, hnall, List.all_nil, Bool.and_self, Bool.true_eq_false, if_false]
                rw [if_neg (by rw [← n4, n2]; simp)]
              obtain ⟨Z', g1, g2, g3⟩ := h1.alloc (id := s.H.size) (H' := s.H.push (.cells ([] ++ ns) (.rw sz))) (nw := ⟨[] ++ ns, sz, some (0 + m, 0 + m)⟩) (ob := .row sz ([] ++ new)) (mk := fun k => .ow k 0 (0 + m))
                (.inl (by simp)) h.sz (by simp) (by simp) (fun b hb _ => by rw [Array.getElem?_push, if_neg (by omega)])
                (.inr ⟨sz, _, 0 + m, 0 + m, rfl, rfl, rfl, Nat.le_refl _, hsz0, rfl, by simpa using n4, fun i d v hd hv => ((n5 i d v (by simpa using hd) (by simpa using hv)).mono fun b c st hz hb => ⟨hZ1 b hz, hb⟩)⟩)
              refine ⟨_, _, Z', some (s.H.size, 0), heq, g1, ?_, by simp, fun b hb hne => absurd (by rw [Array.getElem?_push, if_neg (by omega)]) hne, fun b c st hb hc => (g3.zone b c st (hZ1 b hb) hc).1⟩
              simp only [hl1] at g2
              exact g2
          unfold pold at hold
          split at hold
          · cases hold
            cases ha with | dv hd => cases hd with | sc _ =>
            exact fin0 rfl rfl rfl ⟨Z, h, fun _ h => h⟩ rfl
          · rename_i k off n'
            split at hold
            · rename_i z' cs hk
              split at hold
              · rename_i hzz
                subst hzz
                cases hold
                have hlk : Live p.ob k := ⟨_, hk, rfl⟩
                have hdrop := h.drop k
                rcases h.ob k _ hk with ⟨b, o, vs, e1, e2, e3, e4⟩ | ⟨e1, e2⟩
                · cases ha with
                  | ow f1 f2 =>
                    rw [e1] at f1
                    cases f1
                    rename_i c
                    have hl := e4.1
                    have hz1 := h.lz k b o hlk e1
                    have hnl : ∀ j o2, Live (p.ob.set k .gone) j → B[j]? ≠ some (some (b, o2)) := fun j o2 hj h2 => by
                      rcases live_set hj with ⟨_, hl⟩ | ⟨hjk, hj2⟩
                      · cases hl
                      · exact hjk (h.inj j k b o2 o hj2 hlk h2 e1)
                    have hold' : RDs s.H Z ((cs.drop off).take (n * z')) vs (o + off) := (e4.drop (by omega)).take _
                    have holen : ((cs.drop off).take (n * z')).length = n * z' := by simp; omega
                    have hwo := win_ok hold' holen.symm
                    have hoall := all_dcellOk hwo.1 hwo.2 q4
                    by_cases hm : m = 0
                    · subst hm
                      have hne : new = [] := by apply List.eq_nil_of_length_eq_zero; omega
                      subst hne
                      refine ⟨_, s.H, Z, some (b, o + off), by simp only [aappend, he, n1, if_true, hsz, Option.map_some]; rfl, ?_, ?_, Nat.le_refl _, fun b _ hb => absurd rfl hb, fun b _ _ hb _ => hb⟩
                      · refine hdrop.addOb (.inl ⟨b, o + off, vs, ?_, e2, e3, by rw [List.append_nil]; exact hold'⟩) fun _ b' oo hb => ?_
                        · simp only [List.length_set]; exact hat _
                        · cases hb; exact ⟨hz1.1, hz1.2, fun j o2 hj => hnl j o2 hj⟩
                      · exact .ow (off := 0) (hat _) f2
                    · have hfirst : firstOf s.H z' n (.slice (some ⟨b, o + off, none⟩) n c) = some ((vs.drop (o + off)).take (n * z')) := by
                        simp only [firstOf]
                        split
                        · rename_i h0; rw [h0]; simp
                        · exact hold'.cells? e2 (by simp) (by omega)
                      have heq : aappend P s.H t (.slice (some ⟨b, o + off, none⟩) n c) vx = some (.slice (some (at0 s.H.size)) (n + m) (n + m), (deadAt s.H b).push (.cells ((vs.drop (o + off)).take (n * z') ++ ns) (.rw z'))) := by
                        simp only [aappend, he, n1, if_neg hm, hsz, hby, hz]
                        rw [if_neg hcond, if_neg hroom, n3, hfirst]
                        simp only [hnall, hoall, Bool.and_self, Bool.true_eq_false, if_false]
                        rw [if_neg (by rw [← n4, n2, ← hwo.1, holen]; simp)]
                        simp only [e2, if_true]
                      have hj : StB F { p with ob := p.ob.set k .gone } { s with H := deadAt s.H b } B Z := hdrop.junk (by rw [deadAt_size]; exact Nat.le_refl _) fun b' hb' hne => by
                        have hbb : b' = b := Classical.byContradiction fun hn => hne (deadAt_get hn)
                        subst hbb
                        exact ⟨hz1.1, hz1.2, fun j o2 hj => hnl j o2 hj⟩
                      have hexd : ∀ b' c st, Z b' → s.H[b']? = some (.cells c st) → Z b' ∧ (deadAt s.H b)[b']? = some (.cells c st) := fun b' c st hz hb' => by
                        have hbb : b' ≠ b := by rintro rfl; exact hz1.1 hz
                        exact ⟨hz, by rw [deadAt_get hbb]; exact hb'⟩
                      have hsd : (deadAt s.H b).size = s.H.size := deadAt_size _ _
                      obtain ⟨Z', g1, g2, g3⟩ := hj.alloc (id := s.H.size) (H' := (deadAt s.H b).push (.cells ((vs.drop (o + off)).take (n * z') ++ ns) (.rw z'))) (nw := ⟨(vs.drop (o + off)).take (n * z') ++ ns, z', some (n + m, n + m)⟩)
                        (ob := .row z' ((cs.drop off).take (n * z') ++ new)) (mk := fun k => .ow k 0 (n + m))
                        (.inl (by simp only; rw [← hsd]; simp)) h.sz (by simp) (by simp only; rw [← hsd]; simp) (fun b' hb' _ => by simp only at hb'; rw [Array.getElem?_push, if_neg (by omega)])
                        (.inr ⟨z', _, n + m, n + m, rfl, rfl, rfl, Nat.le_refl _, e3, rfl, by simp only [List.length_append]; rw [← n4, ← hwo.1], fun i d v hd hv => by
                          by_cases hi : i < ((cs.drop off).take (n * z')).length
                          · rw [List.getElem?_append_left hi] at hd
                            rw [List.getElem?_append_left (by rw [← hwo.1]; exact hi)] at hv
                            exact (hwo.2 i d v hd hv).mono hexd
                          · rw [List.getElem?_append_right (by omega)] at hd
                            rw [List.getElem?_append_right (by rw [← hwo.1]; omega), ← hwo.1] at hv
                            exact (n5 _ d v hd hv).mono hexd⟩)
                      refine ⟨_, _, Z', some (s.H.size, 0), heq, g1, ?_, by simp [hsd], fun b' hb' hne => ⟨k, o, hlk, ?_, off, n, rfl⟩, fun b' c st hb hc => (g3.zone b' c st hb (hexd b' c st hb hc).2).1⟩
                      · simp only [List.length_set] at g2
                        exact g2
                      · have hbb : b' = b := Classical.byContradiction fun hn => hne (by rw [Array.getElem?_push, if_neg (by omega)]; exact deadAt_get hn)
                        rw [hbb]; exact e1
                  | ow0 f1 => rw [e1] at f1; cases f1
                · cases ha with
                  | ow f1 f2 => rw [e1] at f1; cases f1
                  | ow0 f1 =>
                    subst e2
                    exact fin0 rfl rfl (by simp) ⟨Z, hdrop, fun _ h => h⟩ (by simp)
              · cases hold
            · cases hold
          · cases hold
        · cases hp
    · cases hp
  · cases hp
end
end Go.Eng

namespace Go.Eng
open Go

def PS.put (p : PS) (d : Option Tmp) (y : PV) : PS :=
  match d with
  | some d => { p with tm := (d, y) :: p.tm }
  | none => p

/-- What a store or an append writes. -/
def ptouch (g : Operand → Option PV) (o : Oper) : List Nat :=
  match o.op with
  | .store _ a _ => match g a with
    | some (.pt k _) => [k]
    | _ => []
  | .call { callee := .builtin .append, args, .. } => match (mapOpt g args.toList) with
    | some (.ow k _ _ :: _) => [k]
    | _ => []
  | _ => []

def okD (p : PS) : Option Tmp → Prop
  | none => True
  | some d => d < p.nt

def pop (P : Program) (o : Oper) (p : PS) : Option (Prop × List Ob × PV) :=
  if isAlloc P o then
    match palloc P (pev p.tm) p.ob o with
    | some (φ, O', ob, mk) => some (φ, O' ++ [ob], mk O'.length)
    | none => none
  else if heavy o then
    match o.op with
    | .store t a x => match pev p.tm a, pev p.tm x with
      | some a, some x => (pstore P t a x p.ob).map fun r => (r.1, r.2, .bad)
      | _, _ => none
    | .call { callee := .builtin .append, args, argTypes } => match mapOpt (pev p.tm) args.toList, argTypes[0]? with
      | some [s, x], some t => match argTypes[1]? with
        | some u => match P.underlying u with
          | some (.int _) => none
          | some _ => pappend P t s x p.ob
          | none => none
        | none => none
      | _, _ => none
    | .range t x => match pev p.tm x, P.underlying t with
      | some (.dv (.sc (.string s))), some .string => some (True, p.ob ++ [.itr s 0], .pt p.ob.length 0)
      | _, _ => none
    | _ => none
  else (pl P (pev p.tm) p.ob o).map fun r => (r.1, p.ob, r.2)

section
variable {C : Ctx} {F : Fr} {p : PS} {s : ASt} {B : Blks} {Z : Nat → Prop}

theorem pev_ok (h : StB F p s B Z) (x : Operand) (y : PV) (hx : pev p.tm x = some y) : ∃ v, aeval C.G s.tmps x = some v ∧ RV s.H Z B y v := by
  cases x with
  | tmp t => exact h.tm t y hx
  | const v =>
    simp only [pev] at hx
    split at hx
    · rename_i hf
      cases hx
      exact ⟨v, by simp only [aeval, if_pos hf], .dv (.sc hf)⟩
    · cases hx
  | func f =>
    cases hx
    exact ⟨_, rfl, .fn rfl rfl (fun i x v h => by simp at h) (fun i x v h => by simp at h)⟩
  | global g => cases hx

/-- Where a new block is laid. -/
def AtOk (F : Fr) (H : AHeap) : Option Nat → Prop
  | none => True
  | some id => H[id]? = some .hole ∧ F.N ≤ id

theorem pop_ok (h : StB F p s B Z) {rec : Req → Option Rep} {at_ : Option Nat} (hat : AtOk F s.H at_) {o : Oper} {φ : Prop} {O' : List Ob} {y : PV} (hp : pop C.P o p = some (φ, O', y)) (hφ : φ) :
    ∃ v H' B' Z', aout C rec at_ o (aeval C.G s.tmps) s.H = some (true, v, H') ∧ StB F { p with ob := O' } { s with H := H' } B' Z' ∧ RV H' Z' B' y v ∧ (∃ D, B' = B ++ D) ∧ s.H.size ≤ H'.size ∧
      (∀ b, b < s.H.size → some b ≠ at_ → H'[b]? ≠ s.H[b]? → ∃ k oo, k ∈ ptouch (pev p.tm) o ∧ Live p.ob k ∧ B[k]? = some (some (b, oo))) ∧ (∀ b c st, Z b → s.H[b]? = some (.cells c st) → Z' b) ∧
      (isAlloc C.P o = true → B'[p.ob.length]? = some (some (at_.getD s.H.size, 0))) := by
  have hg := pev_ok (C := C) h
  unfold pop at hp
  split at hp
  · rename_i hal
    split at hp
    · rename_i φ1 O1 ob mk hpa
      cases hp
      obtain ⟨nw, Z1, e1, e2, e3, e4⟩ := palloc_ok h hg hpa hφ
      cases at_ with
      | none =>
        obtain ⟨Z', g1, g2, g3⟩ := e2.alloc (id := s.H.size) (H' := s.H.push (.cells nw.cells (.rw nw.esz))) (.inl (by simp)) h.sz (by simp) (by simp) (fun b hb _ => by rw [Array.getElem?_push, if_neg (by omega)]) e4
        exact ⟨_, _, _, Z', by simp only [aout, if_pos hal, e1], g1, g2, ⟨_, rfl⟩, by simp, (fun b hb _ hne => absurd (by rw [Array.getElem?_push, if_neg (by omega)]) hne), (fun b c st hb hc => (g3.zone b c st (e3 b hb) hc).1), fun _ => by rw [← h.bl]; simp⟩
      | some id =>
        have hlt := lt_of_get hat.1
        obtain ⟨Z', g1, g2, g3⟩ := e2.alloc (id := id) (H' := s.H.setIfInBounds id (.cells nw.cells (.rw nw.esz))) (.inr hat.1) hat.2 (by simp) (by simp [hlt]) (fun b hb hbi => by rw [Array.getElem?_setIfInBounds, if_neg (Ne.symm hbi)]) e4
        refine ⟨_, _, _, Z', by simp only [aout, if_pos hal, e1, hat.1], g1, g2, ⟨_, rfl⟩, by simp, (fun b hb hba hne => absurd ?_ hne), (fun b c st hb hc => (g3.zone b c st (e3 b hb) hc).1), fun _ => by rw [← h.bl]; simp⟩
        rw [Array.getElem?_setIfInBounds, if_neg (by rintro rfl; exact hba rfl)]
    · cases hp
  · rename_i hal
    split at hp
    · rename_i hhv
      have haout : ∀ {v : Value} {H' : AHeap}, aheavy C (aeval C.G s.tmps) s.H o = some (.val v, H') → aout C rec at_ o (aeval C.G s.tmps) s.H = some (true, v, H') := fun he => by
        simp only [aout, if_neg hal, if_pos hhv, he]
      split at hp
      · rename_i t a x hop
        split at hp
        · rename_i ya yx ha hx
          rw [Option.map_eq_some_iff] at hp
          obtain ⟨⟨ψ, O1⟩, h1, h2⟩ := hp
          cases h2
          obtain ⟨va, e1, e2⟩ := hg a _ ha
          obtain ⟨vx, e3, e4⟩ := hg x _ hx
          obtain ⟨ad, H', Z', rfl, f1, f2, f3, ⟨k, b, oo, f4, f5, f6, f7, off, f8⟩, f9⟩ := pstore_ok h e2 e4 h1 hφ
          subst f8
          refine ⟨undef, H', B, Z', haout (by simp only [aheavy, hop, e1, e3, f1, Option.map_some]), f2, .bad, ⟨[], by simp⟩, by omega, (fun b' hb' _ hne => ⟨k, oo, by simp only [ptouch, hop, ha, List.mem_singleton], f5, ?_⟩), (fun b c st hb _ => f9 b hb), fun hc => absurd hc hal⟩
          have : b' = b := Classical.byContradiction fun hn => hne (f7 b' hn)
          rw [this]; exact f4
        · cases hp
      · rename_i args ats hop
        split at hp
        · rename_i ys yx t ha ht
          split at hp
          · rename_i u hu
            split at hp
            · cases hp
            · rename_i d hnd hd
              obtain ⟨vs, e1, e2⟩ := mapOpt_ok hg ha
              obtain ⟨va, vx, rfl⟩ : ∃ a b, vs = [a, b] := by
                have := e2.1
                match vs, this with
                | [a, b], _ => exact ⟨a, b, rfl⟩
              have r1 := e2.2 0 _ _ rfl rfl
              have r2 := e2.2 1 _ _ rfl rfl
              obtain ⟨r, H', Z', y', f1, f2, f3, f4, f5, f6⟩ := pappend_ok h r1 r2 hp hφ
              refine ⟨r, H', _, Z', haout ?_, f2, f3, ⟨_, rfl⟩, f4, (fun b hb _ hne => let ⟨k, oo, q1, q2, off, n, q3⟩ := f5 b hb hne; ⟨k, oo, by subst q3; simp only [ptouch, hop, ha, List.mem_singleton], q1, q2⟩), f6, fun hc => absurd hc hal⟩
              simp only [aheavy, hop, e1, ht, hu, hd]
              cases d with
              | int k => exact absurd rfl (hnd k)
              | _ => simp only [f1, Option.map_some]
            · cases hp
          · cases hp
        · cases hp
      · rename_i t x hop
        split at hp
        · rename_i str hx hu
          cases hp
          obtain ⟨v, e1, e2⟩ := hg x _ hx
          cases e2 with | dv hd => cases hd with | sc _ =>
          have hj : StB F p { s with H := s.H.push (.iter str 0) } B (fun b => Z b ∧ b ≠ s.H.size) := (h.unzone (id := s.H.size) (fun c st => by simp)).junk (by simp) fun b hb hne => absurd (by rw [Array.getElem?_push, if_neg (by omega)]) hne
          have hat' : (B ++ [some (s.H.size, 0)])[p.ob.length]? = some (some (s.H.size, 0)) := by rw [← h.bl]; simp
          have hnl : ∀ j o2, Live p.ob j → B[j]? ≠ some (some (s.H.size, o2)) := fun j o2 hj hb => by have := h.blk hj hb; omega
          refine ⟨_, _, B ++ [some (s.H.size, 0)], _, haout (by simp only [aheavy, hop, e1]; simp only [aheavy.P_, hu]; rfl), hj.addOb (o := .itr str 0) (y := some (s.H.size, 0)) ⟨s.H.size, hat', by simp⟩ (fun _ b oo hb => ?_), .pt (o := 0) hat', ⟨_, rfl⟩, by simp,
            (fun b hb _ hne => absurd (by rw [Array.getElem?_push, if_neg (by omega)]) hne), (fun b c st hb hc => ⟨hb, fun he => by rw [he] at hc; simp at hc⟩), fun hc => absurd hc hal⟩
          cases hb
          exact ⟨fun hz => hz.2 rfl, .inr h.sz, fun j o2 hj => hnl j o2 hj⟩
        · cases hp
      · cases hp
    · rename_i hhv
      rw [Option.map_eq_some_iff] at hp
      obtain ⟨⟨ψ, y1⟩, h1, h2⟩ := hp
      cases h2
      obtain ⟨v, e1, e2⟩ := pl_ok h.ob hg h1 hφ
      exact ⟨v, s.H, B, Z, by simp only [aout, if_neg hal, if_neg hhv, e1], h, e2, ⟨[], by simp⟩, Nat.le_refl _, (fun b _ _ hne => absurd rfl hne), (fun _ _ _ hb _ => hb), fun hc => absurd hc hal⟩

/-- A slot is set, if one is named. -/
theorem StB.putD (h : StB F p s B Z) {d : Option Tmp} {x : PV} {v : Value} (hd : okD p d) (hx : RV s.H Z B x v) : StB F (p.put d x) (s.put d v s.H) B Z := by
  cases d with
  | none => exact h
  | some d => exact h.put hd hx
end
end Go.Eng

namespace Go.Eng
open Go

/-- What a function is handed to write. -/
def Xof (os : List Ob) (B : Blks) (b : Nat) : Prop := ∃ k o, Live os k ∧ B[k]? = some (some (b, o))

def frOf (H : AHeap) (Z : Nat → Prop) (B : Blks) (os : List Ob) : Fr := { N := H.size, H0 := H, X := Xof os B, Z0 := Z, D := [], B0 := B }

/-- Objects, as they lie. -/
structure ObsOk (H : AHeap) (Z : Nat → Prop) (B : Blks) (os : List Ob) : Prop where
  bl : B.length = os.length
  ob : ∀ k o, os[k]? = some o → OkOb H Z B k o
  inj : ∀ j k b o1 o2, Live os j → Live os k → B[j]? = some (some (b, o1)) → B[k]? = some (some (b, o2)) → j = k
  lz : ∀ k b o, Live os k → B[k]? = some (some (b, o)) → ¬ Z b

inductive PRes where
  | ret (x : PV) (os : List Ob)
  | pan (x : PV) (os : List Ob)

/-- A function's answer, whatever the memory in which it is called. -/
def FS (C : Ctx) (f : FuncId) (as : List PV) (os : List Ob) (Q : PRes → Prop) : Prop :=
  ∀ (H : AHeap) (Z : Nat → Prop) (B : Blks) (vs : List Value), ObsOk H Z B os → RVL H Z B as vs →
    ∃ x os' v H' B' Z', ((evw C (.call f vs H) = some (.ret v H') ∧ Q (.ret x os')) ∨ (evw C (.call f vs H) = some (.panicked v H') ∧ Q (.pan x os'))) ∧
      StB (frOf H Z B os) ⟨0, os.length, [], os'⟩ ⟨[], H', []⟩ B' Z' ∧ RV H' Z' B' x v

theorem FS.mono {C : Ctx} {f : FuncId} {as : List PV} {os : List Ob} {Q Q' : PRes → Prop} (h : FS C f as os Q) (k : ∀ r, Q r → Q' r) : FS C f as os Q' := by
  intro H Z B vs h1 h2
  obtain ⟨x, os', v, H', B', Z', h3, h4⟩ := h H Z B vs h1 h2
  exact ⟨x, os', v, H', B', Z', h3.imp (fun h => ⟨h.1, k _ h.2⟩) (fun h => ⟨h.1, k _ h.2⟩), h4⟩

def idxIn (k : Nat) : List Nat → Option Nat
  | [] => none
  | j :: r => if j = k then some 0 else (idxIn k r).map (· + 1)

theorem idxIn_some {k j : Nat} : ∀ {ks : List Nat}, idxIn k ks = some j → ks[j]? = some k
  | [], h => by cases h
  | i :: r, h => by
    unfold idxIn at h
    split at h
    · rename_i hi
      cases h
      simp [hi]
    · rw [Option.map_eq_some_iff] at h
      obtain ⟨j', h1, rfl⟩ := h
      simpa using idxIn_some h1

mutual
/-- Arguments as they are handed over: slices as data, but for those of the objects that are handed over to be written. -/
def pargs (ks : List Nat) : List Ob → List PV → Option (Prop × List Ob × List PV)
  | O, [] => some (True, O, [])
  | O, x :: xs => match parg ks O x with
    | some (φ, O1, y) => match pargs ks O1 xs with
      | some (ψ, O2, ys) => some (φ ∧ ψ, O2, y :: ys)
      | none => none
    | none => none
def parg (ks : List Nat) : List Ob → PV → Option (Prop × List Ob × PV)
  | O, .ow k off n => if k ∈ ks then some (True, O, .ow k off n) else match pfrz O (.ow k off n) with
    | some (φ, O', d) => some (φ, O', .dv d)
    | none => none
  | O, .ag cs => match pargs ks O cs with
    | some (φ, O', ds) => some (φ, O', .ag ds)
    | none => none
  | O, x => some (True, O, x)
end

/-- The same, lent alone. -/
def plend (O : List Ob) : List PV → Option (Prop × List PV)
  | [] => some (True, [])
  | .ow k off n :: xs => match pview O k off n, plend O xs with
    | some (φ, z, cs), some (ψ, ys) => some (φ ∧ ψ, .dv (.sl z n cs) :: ys)
    | _, _ => none
  | x :: xs => match plend O xs with
    | some (ψ, ys) => some (ψ, x :: ys)
    | none => none

def backF (ks : List Nat) (n : Nat) (j : Nat) : Option Nat := if j < ks.length then ks[j]? else some (n + (j - ks.length))

/-- The objects that were handed over, as they came back. -/
def backOb (f : Nat → Option Nat) : List Nat → List Ob → List Ob → List Ob
  | [], _, O => O
  | k :: ks, os, O => backOb f ks os.tail (O.set k ((os.headD .gone).ren f))

def isScal : PV → Bool
  | .dv (.sc _) => true
  | .tup cs => cs.all fun x => match x with | .dv (.sc _) => true | _ => false
  | .ag cs => cs.all fun x => match x with | .dv (.sc _) => true | _ => false
  | _ => false

/-- A call: some objects are handed over to be written (ks), other slices are written no more; or all are lent, and no slice comes back. -/
def wpcall (C : Ctx) (f : FuncId) (as : List PV) (p : PS) (K E : PV → PS → Prop) : Prop :=
  (∃ (ks : List Nat) (Q : PRes → Prop), ks.Nodup ∧ (∀ k ∈ ks, k < p.ob.length) ∧ match pargs ks p.ob as with
    | some (φ, O', as') => φ ∧ FS C f (renL (fun k => idxIn k ks) as') (ks.map fun k => (O'.getD k .gone).ren (fun k => idxIn k ks)) Q ∧
        (∀ x os, Q (.ret x os) → K (x.ren (backF ks O'.length)) { p with ob := backOb (backF ks O'.length) ks os O' ++ (os.drop ks.length).map (Ob.ren (backF ks O'.length)) }) ∧
        (∀ x os, Q (.pan x os) → E (x.ren (backF ks O'.length)) { p with ob := backOb (backF ks O'.length) ks os O' ++ (os.drop ks.length).map (Ob.ren (backF ks O'.length)) })
    | none => False) ∨
  (∃ Q : PRes → Prop, match plend p.ob as with
    | some (φ, as') => φ ∧ FS C f (renL (fun _ => none) as') [] Q ∧ (∀ x os, Q (.ret x os) → isScal x = true ∧ K x p) ∧ (∀ x os, ¬ Q (.pan x os))
    | none => False)

section
variable {C : Ctx} {F : Fr} {p : PS} {s : ASt} {B : Blks} {Z : Nat → Prop}

mutual
theorem pargs_ok {ks : List Nat} {p : PS} {Z : Nat → Prop} (h : StB F p s B Z) : ∀ {xs : List PV} {vs : List Value} {φ : Prop} {O' : List Ob} {ys : List PV}, RVL s.H Z B xs vs → pargs ks p.ob xs = some (φ, O', ys) → φ →
    ∃ Z', StB F { p with ob := O' } s B Z' ∧ RVL s.H Z' B ys vs ∧ (∀ b, Z b → Z' b) ∧ O'.length = p.ob.length
  | [], vs, φ, O', ys, hx, hf, hφ => by
    cases hf
    exact ⟨Z, h, hx, fun _ h => h, rfl⟩
  | x :: xs, [], φ, O', ys, hx, hf, hφ => by have := hx.1; simp at this
  | x :: xs, v :: vs, φ, O', ys, hx, hf, hφ => by
    unfold pargs at hf
    split at hf
    · rename_i ψ O1 y h1
      split at hf
      · rename_i χ O2 ys' h2
        cases hf
        obtain ⟨Z1, e1, e2, e3, e4⟩ := parg_ok h (hx.2 0 x v rfl rfl) h1 hφ.1
        have hx' : RVL s.H Z1 B xs vs := ⟨by have := hx.1; simpa using this, fun i y w hy hw => (hx.2 (i + 1) y w (by simpa using hy) (by simpa using hw)).mono (.wide e3)⟩
        obtain ⟨Z2, f1, f2, f3, f4⟩ := pargs_ok e1 hx' h2 hφ.2
        exact ⟨Z2, f1, .cons (e2.mono (.wide f3)) f2, fun b hb => f3 b (e3 b hb), by rw [f4]; exact e4⟩
      · cases hf
    · cases hf
theorem parg_ok {ks : List Nat} {p : PS} {Z : Nat → Prop} (h : StB F p s B Z) : ∀ {x : PV} {v : Value} {φ : Prop} {O' : List Ob} {y : PV}, RV s.H Z B x v → parg ks p.ob x = some (φ, O', y) → φ →
    ∃ Z', StB F { p with ob := O' } s B Z' ∧ RV s.H Z' B y v ∧ (∀ b, Z b → Z' b) ∧ O'.length = p.ob.length
  | .ow k off n, v, φ, O', y, hx, hf, hφ => by
    unfold parg at hf
    split at hf
    · cases hf
      exact ⟨Z, h, hx, fun _ h => h, rfl⟩
    · split at hf
      · rename_i ψ O1 d h1
        cases hf
        obtain ⟨Z', e1, e2, e3⟩ := pfrz_ok h hx h1 hφ
        refine ⟨Z', e1, .dv e2, e3, ?_⟩
        have := h.bl.symm.trans e1.bl
        exact this.symm
      · cases hf
  | .ag cs, v, φ, O', y, hx, hf, hφ => by
    unfold parg at hf
    split at hf
    · rename_i ψ O1 ds h1
      cases hf
      cases hx with
      | ag q1 q2 =>
        obtain ⟨Z', e1, e2, e3, e4⟩ := pargs_ok h (xs := cs) ⟨q1, q2⟩ h1 hφ
        exact ⟨Z', e1, .ag e2.1 e2.2, e3, e4⟩
    · cases hf
  | .bad, v, φ, O', y, hx, hf, _ => by cases hf; exact ⟨Z, h, hx, fun _ h => h, rfl⟩
  | .dv _, v, φ, O', y, hx, hf, _ => by cases hf; exact ⟨Z, h, hx, fun _ h => h, rfl⟩
  | .pt _ _, v, φ, O', y, hx, hf, _ => by cases hf; exact ⟨Z, h, hx, fun _ h => h, rfl⟩
  | .ld _, v, φ, O', y, hx, hf, _ => by cases hf; exact ⟨Z, h, hx, fun _ h => h, rfl⟩
  | .tup _, v, φ, O', y, hx, hf, _ => by cases hf; exact ⟨Z, h, hx, fun _ h => h, rfl⟩
  | .fn _ _ _, v, φ, O', y, hx, hf, _ => by cases hf; exact ⟨Z, h, hx, fun _ h => h, rfl⟩
  | .ifc _ _, v, φ, O', y, hx, hf, _ => by cases hf; exact ⟨Z, h, hx, fun _ h => h, rfl⟩
end

theorem plend_ok (h : StB F p s B Z) : ∀ {xs : List PV} {vs : List Value} {φ : Prop} {ys : List PV}, RVL s.H Z B xs vs → plend p.ob xs = some (φ, ys) → φ → RVL s.H (fun _ => True) B ys vs
  | [], vs, φ, ys, hx, hf, hφ => by
    cases hf
    exact ⟨hx.1, fun i x v h => by simp at h⟩
  | x :: xs, [], φ, ys, hx, hf, hφ => by have := hx.1; simp at this
  | x :: xs, v :: vs, φ, ys, hx, hf, hφ => by
    have hx' : RVL s.H Z B xs vs := ⟨by have := hx.1; simpa using this, fun i y w hy hw => hx.2 (i + 1) y w (by simpa using hy) (by simpa using hw)⟩
    have h0 := hx.2 0 x v rfl rfl
    have hw : Ex s.H Z B s.H (fun _ => True) B := .wide fun _ _ => trivial
    have keep : ∀ {ψ : Prop} {ys' : List PV}, plend p.ob xs = some (ψ, ys') → ψ → RVL s.H (fun _ => True) B (x :: ys') (v :: vs) := fun h1 h2 => .cons (h0.mono hw) (plend_ok h hx' h1 h2)
    have go : ∀ {k off n : Nat}, x = .ow k off n → RVL s.H (fun _ => True) B ys (v :: vs) := by
      rintro k off n rfl
      unfold plend at hf
      split at hf
      · rename_i ψ z cs χ ys' h1 h2
        cases hf
        refine .cons ?_ (plend_ok h hx' h2 hφ.2)
        rcases pview_ok h.ob h1 hφ.1 h0 with ⟨b, o, c, ws, st, rfl, _, e2, e3, e4, e5, e6, e7⟩ | ⟨rfl, rfl, rfl⟩
        · exact .dv (.sl trivial e2 e3 e4 e7 e5 e6.1 fun i d w hd hw => (e6.2 i d w hd hw).mono fun b c st _ hb => ⟨trivial, hb⟩)
        · exact .dv .nil
      · cases hf
    have other : (∀ k off n, x ≠ .ow k off n) → RVL s.H (fun _ => True) B ys (v :: vs) := by
      intro hne
      have : plend p.ob (x :: xs) = match plend p.ob xs with | some (ψ, ys) => some (ψ, x :: ys) | none => none := by
        cases x with
        | ow k off n => exact absurd rfl (hne k off n)
        | _ => rfl
      rw [this] at hf
      split at hf
      · rename_i ψ ys' h1
        cases hf
        exact keep h1 hφ
      · cases hf
    cases x with
    | ow k off n => exact go rfl
    | _ => exact other fun _ _ _ h => by cases h

theorem backOb_length (f : Nat → Option Nat) : ∀ (ks : List Nat) (os O : List Ob), (backOb f ks os O).length = O.length
  | [], _, _ => rfl
  | k :: ks, os, O => by simp only [backOb]; rw [backOb_length]; simp

theorem backOb_other (f : Nat → Option Nat) : ∀ (ks : List Nat) (os O : List Ob) (k : Nat), k ∉ ks → (backOb f ks os O)[k]? = O[k]?
  | [], _, _, _, _ => rfl
  | j :: ks, os, O, k, h => by
    simp only [List.mem_cons, not_or] at h
    simp only [backOb]
    rw [backOb_other f ks _ _ k h.2, List.getElem?_set_ne (Ne.symm h.1)]

theorem backOb_at (f : Nat → Option Nat) : ∀ (ks : List Nat) (os O : List Ob) (i k : Nat), ks.Nodup → ks[i]? = some k → k < O.length → (backOb f ks os O)[k]? = some ((os.getD i .gone).ren f)
  | [], _, _, _, _, _, h, _ => by simp at h
  | j :: ks, os, O, i, k, hn, h, hk => by
    rw [List.nodup_cons] at hn
    simp only [backOb]
    cases i with
    | zero =>
      simp at h
      subst h
      rw [backOb_other f ks _ _ _ hn.1]
      cases os <;> simp [hk]
    | succ i =>
      simp at h
      rw [backOb_at f ks _ _ i k hn.2 h (by simpa using hk)]
      cases os <;> simp

/-- A call, of what is handed over. -/
theorem call_ok (h : StB F p s B Z) {ks : List Nat} (hn : ks.Nodup) (hks : ∀ k ∈ ks, k < p.ob.length) {f : FuncId} {as : List PV} {vs : List Value} (ha : RVL s.H Z B as vs) {Q : PRes → Prop}
    (hf : FS C f (renL (fun k => idxIn k ks) as) (ks.map fun k => (p.ob.getD k .gone).ren (fun k => idxIn k ks)) Q) :
    ∃ x os' v H' B' Z', ((evw C (.call f vs s.H) = some (.ret v H') ∧ Q (.ret x os')) ∨ (evw C (.call f vs s.H) = some (.panicked v H') ∧ Q (.pan x os'))) ∧
      StB F { p with ob := backOb (backF ks p.ob.length) ks os' p.ob ++ (os'.drop ks.length).map (Ob.ren (backF ks p.ob.length)) } { s with H := H' } B' Z' ∧ RV H' Z' B' (x.ren (backF ks p.ob.length)) v ∧ (∃ D, B' = B ++ D) ∧
      s.H.size ≤ H'.size ∧ (∀ b, b < s.H.size → H'[b]? ≠ s.H[b]? → ∃ k o, k ∈ ks ∧ Live p.ob k ∧ B[k]? = some (some (b, o))) ∧ (∀ b c st, Z b → s.H[b]? = some (.cells c st) → Z' b) := by
  let Bc : Blks := ks.map fun k => (B[k]?).getD none
  let os := ks.map fun k => (p.ob.getD k .gone).ren (fun k => idxIn k ks)
  have hBc : ∀ (j k : Nat), ks[j]? = some k → Bc[j]? = B[k]? := fun j k hj => by
    have hk := hks k (List.mem_of_getElem? hj)
    have : k < B.length := by rw [h.bl]; exact hk
    simp only [Bc, List.getElem?_map, hj, Option.map_some, List.getElem?_eq_getElem this, Option.getD_some]
  have hren : ∀ k j y, idxIn k ks = some j → B[k]? = some y → Bc[j]? = some y := fun k j y h1 h2 => by rw [hBc j k (idxIn_some h1)]; exact h2
  have hos : ∀ (j k : Nat), ks[j]? = some k → os[j]? = some ((p.ob.getD k .gone).ren (fun k => idxIn k ks)) := fun j k hj => by simp only [os, List.getElem?_map, hj, Option.map_some]
  have hlos : ∀ j : Nat, Live os j → ∃ k : Nat, ks[j]? = some k ∧ Live p.ob k := by
    rintro j ⟨o, h1, h2⟩
    simp only [os, List.getElem?_map, Option.map_eq_some_iff] at h1
    obtain ⟨k, h3, rfl⟩ := h1
    rw [Ob.ren_live] at h2
    have hk := hks k (List.mem_of_getElem? h3)
    exact ⟨k, h3, p.ob[k], by simp [hk], by simpa [List.getD, hk] using h2⟩
  have hlos' : ∀ (j k : Nat), ks[j]? = some k → Live p.ob k → Live os j := by
    rintro j k hj ⟨o, h1, h2⟩
    refine ⟨_, hos j k hj, ?_⟩
    rw [Ob.ren_live]
    simp [List.getD, h1, h2]
  have hobs : ObsOk s.H Z Bc os := by
    refine ⟨by simp [Bc, os], fun j o hj => ?_, fun i j b o1 o2 hi hj h1 h2 => ?_, fun j b o hj hb => ?_⟩
    · simp only [os, List.getElem?_map, Option.map_eq_some_iff] at hj
      obtain ⟨k, h3, rfl⟩ := hj
      have hk := hks k (List.mem_of_getElem? h3)
      refine OkOb.ren (k := k) hren (hBc j k h3) (h.ob k _ ?_)
      simp [List.getD, hk]
    · obtain ⟨k1, e1, e2⟩ := hlos i hi
      obtain ⟨k2, e3, e4⟩ := hlos j hj
      rw [hBc i k1 e1] at h1
      rw [hBc j k2 e3] at h2
      have := h.inj k1 k2 b o1 o2 e2 e4 h1 h2
      subst this
      exact (List.getElem?_inj (List.getElem?_eq_some_iff.1 e1).1 hn).1 (e1.trans e3.symm)
    · obtain ⟨k1, e1, e2⟩ := hlos j hj
      rw [hBc j k1 e1] at hb
      exact (h.lz k1 b o e2 hb).1
  obtain ⟨x, os', v, H', B', Z', h1, h2, h3⟩ := hf s.H Z Bc vs hobs (ha.ren hren)
  have hXk : ∀ b, Xof os Bc b → ∃ k o, k ∈ ks ∧ Live p.ob k ∧ B[k]? = some (some (b, o)) := by
    rintro b ⟨j, o, e1, e2⟩
    obtain ⟨k, e3, e4⟩ := hlos j e1
    exact ⟨k, o, List.mem_of_getElem? e3, e4, by rw [← hBc j k e3]; exact e2⟩
  have hXk' : ∀ k b o, k ∈ ks → Live p.ob k → B[k]? = some (some (b, o)) → Xof os Bc b := by
    intro k b o hk hl hb
    obtain ⟨j, hj⟩ := List.mem_iff_getElem?.1 hk
    exact ⟨j, o, hlos' j k hj hl, by rw [hBc j k hj]; exact hb⟩
  have hZX : ∀ b, Z b → ¬ Xof os Bc b := fun b hz hx => by
    obtain ⟨k, o, _, e2, e3⟩ := hXk b hx
    exact (h.lz k b o e2 e3).1 hz
  have hsame : ∀ b, b < s.H.size → ¬ Xof os Bc b → H'[b]? = s.H[b]? := fun b hb hx => h2.old b hb hx
  have hsz : s.H.size ≤ H'.size := h2.sz
  obtain ⟨D, hD⟩ := h2.b0
  have hD' : B' = Bc ++ D := hD
  have hBcl : Bc.length = ks.length := by simp [Bc]
  have hosl : os.length = ks.length := by simp [os]
  have hB'l : B'.length = os'.length := h2.bl
  obtain ⟨f, hfd⟩ : ∃ f, f = backF ks p.ob.length := ⟨_, rfl⟩
  rw [← hfd]
  let Zn : Nat → Prop := fun b => (Z b ∧ b < s.H.size) ∨ Z' b
  have hfB : ∀ j i y, f j = some i → B'[j]? = some y → (B ++ D)[i]? = some y := by
    intro j i y hj hy
    simp only [hfd, backF] at hj
    split at hj
    · rename_i hlt
      rw [hD', List.getElem?_append_left (by rw [hBcl]; exact hlt), hBc j i hj] at hy
      exact append_some hy
    · rename_i hlt
      cases hj
      rw [hD', List.getElem?_append_right (by rw [hBcl]; omega), hBcl] at hy
      rw [List.getElem?_append_right (by rw [h.bl]; omega), h.bl, Nat.add_sub_cancel_left]
      exact hy
  have hexc : Ex H' Z' B' H' Zn B' := ⟨fun b c st hz hb => ⟨.inr hz, hb⟩, fun _ _ h => h⟩
  have hex : Ex s.H Z B H' Zn (B ++ D) := ⟨fun b c st hz hb => ⟨.inl ⟨hz, lt_of_get hb⟩, (hsame b (lt_of_get hb) (hZX b hz)).trans hb⟩, fun _ _ h => append_some h⟩
  have hobl := backOb_length f ks os' p.ob
  have hlive : ∀ i, Live (backOb f ks os' p.ob ++ (os'.drop ks.length).map (Ob.ren f)) i → (i ∉ ks ∧ Live p.ob i) ∨ (∃ j, Live os' j ∧ f j = some i) := by
    rintro i ⟨o, e1, e2⟩
    by_cases hi : i < p.ob.length
    · rw [List.getElem?_append_left (by rw [hobl]; exact hi)] at e1
      by_cases hik : i ∈ ks
      · obtain ⟨j, hj⟩ := List.mem_iff_getElem?.1 hik
        rw [backOb_at f ks os' p.ob j i hn hj hi] at e1
        cases e1
        rw [Ob.ren_live] at e2
        refine .inr ⟨j, ⟨_, ?_, e2⟩, ?_⟩
        · cases ho : os'[j]? with
          | none => simp [List.getD, ho, Ob.live] at e2
          | some o => simp [List.getD, ho]
        · have := (List.getElem?_eq_some_iff.1 hj).1
          simp only [hfd, backF, if_pos this, hj]
      · rw [backOb_other f ks os' p.ob i hik] at e1
        exact .inl ⟨hik, o, e1, e2⟩
    · rw [List.getElem?_append_right (by rw [hobl]; omega), hobl, List.getElem?_map, Option.map_eq_some_iff] at e1
      obtain ⟨o', e3, rfl⟩ := e1
      rw [List.getElem?_drop] at e3
      rw [Ob.ren_live] at e2
      refine .inr ⟨ks.length + (i - p.ob.length), ⟨o', e3, e2⟩, ?_⟩
      simp only [hfd, backF]
      rw [if_neg (by omega)]
      congr 1
      omega
  have hcl : ∀ j, Live os' j → ∀ b o, B'[j]? = some (some (b, o)) → ¬ Z' b ∧ (Xof os Bc b ∨ s.H.size ≤ b) := fun j hj b o hb => h2.lz j b o hj hb
  have hkb : ∀ i, i ∉ ks → Live p.ob i → ∀ b o, B[i]? = some (some (b, o)) → b < s.H.size ∧ ¬ Xof os Bc b := fun i hi hl b o hb => by
    refine ⟨h.blk hl hb, fun hx => ?_⟩
    obtain ⟨k, o', e1, e2, e3⟩ := hXk b hx
    have := h.inj i k b o o' hl e2 hb e3
    exact hi (this ▸ e1)
  have hZ'z : ∀ b, Z' b → Z b ∨ Xof os Bc b ∨ s.H.size ≤ b := h2.zz
  have hBi : ∀ i, Live p.ob i → (B ++ D)[i]? = B[i]? := fun i ⟨o, e1, _⟩ => by
    rw [List.getElem?_append_left]
    rw [h.bl]; exact (List.getElem?_eq_some_iff.1 e1).1
  refine ⟨x, os', v, H', B ++ D, Zn, h1, ?_, (h3.mono hexc).ren hfB, ⟨D, rfl⟩, hsz, (fun b hb hne => hXk b (Classical.byContradiction fun hx => hne (hsame b hb hx))), fun b c st hb hc => .inl ⟨hb, lt_of_get hc⟩⟩
  refine
    { tm := fun i y hy => ?_, nt := h.nt, bl := ?_, ob := fun i o hi => ?_, inj := fun i j b o1 o2 hi hj e1 e2 => ?_, lz := fun i b o hi hb => ?_, zz := fun b hb => ?_, old := fun b hb hx => ?_,
      sz := Nat.le_trans h.sz hsz, dfs := h.dfs, bm := h.bm, b0 := let ⟨A, hA⟩ := h.b0; ⟨A ++ D, by rw [hA, List.append_assoc]⟩ }
  · obtain ⟨w, e1, e2⟩ := h.tm i y hy
    exact ⟨w, e1, e2.mono hex⟩
  · have e : D.length + ks.length = os'.length := by rw [← hB'l, hD', List.length_append, hBcl]; omega
    simp only [List.length_append, hobl, List.length_map, List.length_drop, h.bl]
    omega
  · simp only at hi
    by_cases hil : i < p.ob.length
    · rw [List.getElem?_append_left (by rw [hobl]; exact hil)] at hi
      by_cases hik : i ∈ ks
      · obtain ⟨j, hj⟩ := List.mem_iff_getElem?.1 hik
        rw [backOb_at f ks os' p.ob j i hn hj hil] at hi
        cases hi
        have hjl := (List.getElem?_eq_some_iff.1 hj).1
        cases ho : os'[j]? with
        | none => simp only [List.getD, ho, Option.getD_none]; trivial
        | some o =>
          simp only [List.getD, ho, Option.getD_some]
          refine OkOb.ren (k := j) hfB ?_ ((h2.ob j o ho).mono hexc fun _ _ _ _ => rfl)
          rw [List.getElem?_append_left (show i < B.length by rw [h.bl]; exact hil), hD', List.getElem?_append_left (show j < Bc.length by rw [hBcl]; exact hjl), hBc j i hj]
      · rw [backOb_other f ks os' p.ob i hik] at hi
        refine (h.ob i o hi).mono hex fun hl b oo hb => ?_
        have := hkb i hik ⟨o, hi, hl⟩ b oo hb
        exact hsame b this.1 this.2
    · rw [List.getElem?_append_right (by rw [hobl]; omega), hobl, List.getElem?_map, Option.map_eq_some_iff] at hi
      obtain ⟨o', e3, rfl⟩ := hi
      rw [List.getElem?_drop] at e3
      refine OkOb.ren (k := ks.length + (i - p.ob.length)) hfB ?_ ((h2.ob _ o' e3).mono hexc fun _ _ _ _ => rfl)
      rw [List.getElem?_append_right (show B.length ≤ i by rw [h.bl]; omega), h.bl, hD', List.getElem?_append_right (show Bc.length ≤ _ by rw [hBcl]; omega), hBcl, Nat.add_sub_cancel_left]
  · rcases hlive i hi with ⟨a1, a2⟩ | ⟨i', a1, a2⟩ <;> rcases hlive j hj with ⟨c1, c2⟩ | ⟨j', c1, c2⟩
    · rw [hBi i a2] at e1
      rw [hBi j c2] at e2
      exact h.inj i j b o1 o2 a2 c2 e1 e2
    · rw [hBi i a2] at e1
      have := hkb i a1 a2 b o1 e1
      obtain ⟨y, hy⟩ : ∃ y, B'[j']? = some y := by
        obtain ⟨o, q1, q2⟩ := c1
        exact ⟨B'[j']'(by rw [hB'l]; exact (List.getElem?_eq_some_iff.1 q1).1), by simp [hB'l, (List.getElem?_eq_some_iff.1 q1).1]⟩
      have hy2 := hfB j' j y c2 hy
      rw [e2] at hy2
      cases hy2
      rcases (hcl j' c1 b o2 hy).2 with hx | hx
      · exact absurd hx this.2
      · omega
    · rw [hBi j c2] at e2
      have := hkb j c1 c2 b o2 e2
      obtain ⟨y, hy⟩ : ∃ y, B'[i']? = some y := by
        obtain ⟨o, q1, q2⟩ := a1
        exact ⟨B'[i']'(by rw [hB'l]; exact (List.getElem?_eq_some_iff.1 q1).1), by simp [hB'l, (List.getElem?_eq_some_iff.1 q1).1]⟩
      have hy2 := hfB i' i y a2 hy
      rw [e1] at hy2
      cases hy2
      rcases (hcl i' a1 b o1 hy).2 with hx | hx
      · exact absurd hx this.2
      · omega
    · have get : ∀ j', Live os' j' → ∃ y, B'[j']? = some y := fun j' ⟨o, q1, q2⟩ => ⟨B'[j']'(by rw [hB'l]; exact (List.getElem?_eq_some_iff.1 q1).1), by simp [hB'l, (List.getElem?_eq_some_iff.1 q1).1]⟩
      obtain ⟨y1, hy1⟩ := get i' a1
      obtain ⟨y2, hy2⟩ := get j' c1
      have f1 := hfB i' i y1 a2 hy1
      have f2 := hfB j' j y2 c2 hy2
      rw [e1] at f1; cases f1
      rw [e2] at f2; cases f2
      have := h2.inj i' j' b o1 o2 a1 c1 hy1 hy2
      subst this
      exact Option.some.inj (a2.symm.trans c2)
  · rcases hlive i hi with ⟨a1, a2⟩ | ⟨i', a1, a2⟩
    · rw [hBi i a2] at hb
      have hz := h.lz i b o a2 hb
      have hk := hkb i a1 a2 b o hb
      refine ⟨?_, hz.2⟩
      rintro (hzz | hzz)
      · exact hz.1 hzz.1
      · rcases hZ'z b hzz with q | q | q
        · exact hz.1 q
        · exact hk.2 q
        · have := hk.1; omega
    · obtain ⟨y, hy⟩ : ∃ y, B'[i']? = some y := by
        obtain ⟨o, q1, q2⟩ := a1
        exact ⟨B'[i']'(by rw [hB'l]; exact (List.getElem?_eq_some_iff.1 q1).1), by simp [hB'l, (List.getElem?_eq_some_iff.1 q1).1]⟩
      have f1 := hfB i' i y a2 hy
      rw [hb] at f1
      cases f1
      have hc := hcl i' a1 b o hy
      refine ⟨?_, ?_⟩
      · rintro (hzz | hzz)
        · rcases hc.2 with q | q
          · exact hZX b hzz.1 q
          · omega
        · exact hc.1 hzz
      · rcases hc.2 with q | q
        · obtain ⟨k, o', q1, q2, q3⟩ := hXk b q
          exact (h.lz k b o' q2 q3).2
        · exact .inr (Nat.le_trans h.sz q)
  · rcases hb with hb | hb
    · exact h.zz b hb.1
    · rcases hZ'z b hb with q | q | q
      · exact h.zz b q
      · obtain ⟨k, o', q1, q2, q3⟩ := hXk b q
        exact .inr (h.lz k b o' q2 q3).2
      · exact .inr (.inr (Nat.le_trans h.sz q))
  · have hbs : b < s.H.size := Nat.lt_of_lt_of_le hb h.sz
    refine (hsame b hbs fun hx2 => ?_).trans (h.old b hb hx)
    obtain ⟨k, o', q1, q2, q3⟩ := hXk b hx2
    rcases (h.lz k b o' q2 q3).2 with q | q
    · exact hx q
    · omega
end
end Go.Eng

namespace Go.Eng
open Go

/-- One operation, and what is then to hold. -/
def wpo (C : Ctx) (o : Oper) (p : PS) (K : PS → Prop) (E : PV → PS → Prop) : Prop :=
  match o.op with
  | .next it isStr => match pev p.tm it, isStr with
    | some (.pt k 0), true => match p.ob[k]? with
      | some (.itr s pos) => okD p o.dst ∧
          (pos < s.size → K ({ p with ob := p.ob.set k (.itr s (pos + (Utf8.decode s pos).2)) }.put o.dst (.tup [.dv (.sc (.bool true)), .dv (.sc (goInt pos)), .dv (.sc (.int .i32 (Utf8.decode s pos).1))]))) ∧
          (¬ pos < s.size → K (p.put o.dst (.tup [.dv (.sc (.bool false))])))
      | _ => False
    | _, _ => False
  | .panic x => match pev p.tm x with
    | some (.ifc t y) => E (.ifc t y) p
    | some (.dv (.ifc t y)) => E (.dv (.ifc t y)) p
    | some (.dv (.sc (.iface t y))) => E (.dv (.sc (.iface t y))) p
    | _ => False
  | .call { callee := .value f, args, .. } => match pev p.tm f, mapOpt (pev p.tm) args.toList with
    | some (.fn g first cap), some as => wpcall C g (first ++ as ++ cap) p (fun x p' => okD p' o.dst ∧ K (p'.put o.dst x)) E
    | _, _ => False
  | _ => match pop C.P o p with
    | some (φ, O', y) => φ ∧ okD p o.dst ∧ K ({ p with ob := O' }.put o.dst y)
    | none => False

/-- Is it carried out? -/
def wpg (ops : Array Oper) (o : Oper) (p : PS) (Y N : Prop) : Prop :=
  match o.guard with
  | none => Y
  | some (j, want) => match (ops[j]?).bind (·.dst) with
    | some d => match p.tm.lookup d with
      | some (.dv (.sc (.bool b))) => (b = want → Y) ∧ (b = !want → N)
      | _ => False
    | none => False

def wpops (C : Ctx) (ops : Array Oper) : List Oper → PS → (PS → Prop) → (PV → PS → Prop) → Prop
  | [], p, Q, _ => Q p
  | o :: r, p, Q, E => wpg ops o p (wpo C o p (fun p' => wpops C ops r p' Q E) E) (okD p o.dst ∧ wpops C ops r (p.put o.dst .bad) Q E)

inductive PEx where
  | normal
  | jump (c : Code)
  | panic (x : PV)

def Oc (F : Fr) (e : AExit) (s' : ASt) (Q : PEx → PS → Prop) : Prop :=
  match e with
  | .normal => ∃ p', PSt F p' s' ∧ Q .normal p'
  | .jump c => ∃ p', PSt F p' s' ∧ Q (.jump c) p'
  | .panic v => ∃ x p' B Z, StB F p' s' B Z ∧ RV s'.H Z B x v ∧ Q (.panic x) p'

theorem Oc.mono {F : Fr} {e : AExit} {s' : ASt} {Q Q' : PEx → PS → Prop} (h : Oc F e s' Q) (k : ∀ e p, Q e p → Q' e p) : Oc F e s' Q' := by
  cases e with
  | normal => obtain ⟨p, h1, h2⟩ := h; exact ⟨p, h1, k _ _ h2⟩
  | jump c => obtain ⟨p, h1, h2⟩ := h; exact ⟨p, h1, k _ _ h2⟩
  | panic v => obtain ⟨x, p, B, Z, h1, h2, h3⟩ := h; exact ⟨x, p, B, Z, h1, h2, k _ _ h3⟩

def T (C : Ctx) (fn : FuncId) (rd : Option Nat) (c : Code) (p : PS) (Q : PEx → PS → Prop) : Prop :=
  ∀ F s, PSt F p s → Wc C fn rd c s (fun e s' => Oc F e s' Q)

section
variable {C : Ctx} {F : Fr} {p : PS} {s : ASt} {B : Blks} {Z : Nat → Prop} {Q : PEx → PS → Prop} {fn : FuncId} {rd : Option Nat}

theorem okD_ob {p : PS} {O : List Ob} {d : Option Tmp} (h : okD p d) : okD { p with ob := O } d := by cases d <;> exact h

/-- One operation, in text. -/
theorem wpo_ok (h : StB F p s B Z) {o : Oper} {K : PS → Prop} {E : PV → PS → Prop} (hw : wpo C o p K E) :
    ∃ e s', aop1 C (evw C) none o s = some (e, s') ∧ ((e = .normal ∧ ∃ p', PSt F p' s' ∧ K p') ∨ (∃ v x p' B' Z', e = .panic v ∧ StB F p' s' B' Z' ∧ RV s'.H Z' B' x v ∧ E x p')) := by
  have hg := pev_ok (C := C) h
  have gen : (match pop C.P o p with | some (φ, O', y) => φ ∧ okD p o.dst ∧ K ({ p with ob := O' }.put o.dst y) | none => False) →
      ∃ e s', aop1 C (evw C) none o s = some (e, s') ∧ ((e = .normal ∧ ∃ p', PSt F p' s' ∧ K p') ∨ (∃ v x p' B' Z', e = .panic v ∧ StB F p' s' B' Z' ∧ RV s'.H Z' B' x v ∧ E x p')) := by
    intro hw
    split at hw
    · rename_i φ O' y hp
      obtain ⟨v, H', B', Z', e1, e2, e3, _⟩ := pop_ok (rec := evw C) (at_ := none) h trivial hp hw.1
      have := e2.putD (okD_ob hw.2.1) e3
      exact ⟨.normal, _, by simp only [aop1, e1]; rfl, .inl ⟨rfl, _, ⟨B', Z', this⟩, hw.2.2⟩⟩
    · exact hw.elim
  unfold wpo at hw
  split at hw
  · rename_i it isStr hop
    split at hw
    · rename_i k hit
      split at hw
      · rename_i str pos hk
        obtain ⟨q1, q2, q3⟩ := hw
        obtain ⟨v, e1, e2⟩ := hg it _ hit
        obtain ⟨b, f1, f2⟩ := h.ob k _ hk
        have hlk : Live p.ob k := ⟨_, hk, rfl⟩
        cases e2 with
        | pt g1 =>
          rw [f1] at g1
          cases g1
          have hal : isAlloc C.P o = false := by unfold isAlloc; rw [hop]
          have hhv : heavy o = true := by unfold heavy; rw [hop]
          by_cases hpos : pos < str.size
          · have hz := h.lz k b 0 hlk f1
            have hd := (h.drop k).junk (H' := s.H.setIfInBounds b (.iter str (pos + (Utf8.decode str pos).2))) (by simp) fun b' hb' hne => by
              have : b' = b := Classical.byContradiction fun hn => hne (by rw [Array.getElem?_setIfInBounds, if_neg (Ne.symm hn)])
              subst this
              refine ⟨hz.1, hz.2, fun j o2 hj hb => ?_⟩
              rcases live_set hj with ⟨_, hl⟩ | ⟨hjk, hj2⟩
              · cases hl
              · exact hjk (h.inj j k b' o2 0 hj2 hlk hb f1)
            have hs := hd.setOb (k := k) (o := .itr str (pos + (Utf8.decode str pos).2)) ⟨b, f1, by simp [lt_of_get f2]⟩ fun _ b' oo hb' => by
              rw [f1] at hb'
              cases hb'
              refine ⟨hz.1, hz.2, fun j o2 hjk hj hb => ?_⟩
              rcases live_set hj with ⟨_, hl⟩ | ⟨_, hj2⟩
              · cases hl
              · exact hjk (h.inj j k b o2 0 hj2 hlk hb f1)
            simp only [List.set_set] at hs
            have hx : RV (s.H.setIfInBounds b (.iter str (pos + (Utf8.decode str pos).2))) Z B (.tup [.dv (.sc (.bool true)), .dv (.sc (goInt pos)), .dv (.sc (.int .i32 (Utf8.decode str pos).1))]) (.tuple #[.bool true, goInt pos, .int .i32 (Utf8.decode str pos).1]) := by
              have := RVL.cons (H := s.H.setIfInBounds b (.iter str (pos + (Utf8.decode str pos).2))) (Z := Z) (B := B) (.dv (.sc (v := .bool true) rfl)) (.cons (.dv (.sc (v := goInt pos) rfl)) (.cons (.dv (.sc (v := .int .i32 (Utf8.decode str pos).1) rfl)) .nil))
              exact .tup this.1 this.2
            have := hs.putD (okD_ob q1) hx
            refine ⟨.normal, _, ?_, .inl ⟨rfl, _, ⟨B, Z, this⟩, q2 hpos⟩⟩
            simp only [aop1, aout, hal, Bool.false_eq_true, if_false, hhv, if_true, aheavy, hop, e1, f2, Nat.add_zero, hpos]
            rfl
          · have hx : RV s.H Z B (.tup [.dv (.sc (.bool false))]) (.tuple #[.bool false]) := by
              have := RVL.cons (H := s.H) (Z := Z) (B := B) (.dv (.sc (v := .bool false) rfl)) .nil
              exact .tup this.1 this.2
            have := h.putD q1 hx
            refine ⟨.normal, _, ?_, .inl ⟨rfl, _, ⟨B, Z, this⟩, q3 hpos⟩⟩
            simp only [aop1, aout, hal, Bool.false_eq_true, if_false, hhv, if_true, aheavy, hop, e1, f2, Nat.add_zero, hpos]
      · exact hw.elim
    · exact hw.elim
  · rename_i x hop
    have hal : isAlloc C.P o = false := by unfold isAlloc; rw [hop]
    have hhv : heavy o = true := by unfold heavy; rw [hop]
    have fin : ∀ {y : PV} {t : TypeId} {u : Value}, aeval C.G s.tmps x = some (.iface t u) → RV s.H Z B y (.iface t u) → E y p →
        ∃ e s', aop1 C (evw C) none o s = some (e, s') ∧ ((e = .normal ∧ ∃ p', PSt F p' s' ∧ K p') ∨ (∃ v x p' B' Z', e = .panic v ∧ StB F p' s' B' Z' ∧ RV s'.H Z' B' x v ∧ E x p')) := fun {y t u} e1 e2 he => by
      refine ⟨.panic (.iface t u), s, ?_, .inr ⟨_, y, p, B, Z, rfl, h, e2, he⟩⟩
      simp only [aop1, aout, hal, Bool.false_eq_true, if_false, hhv, if_true, aheavy, hop, e1]
    split at hw
    · rename_i t y hx
      obtain ⟨v, e1, e2⟩ := hg x _ hx
      cases e2 with | ifc q => exact fin e1 (.ifc q) hw
    · rename_i t y hx
      obtain ⟨v, e1, e2⟩ := hg x _ hx
      cases e2 with | dv q => cases q with | ifc q => exact fin e1 (.dv (.ifc q)) hw
    · rename_i t y hx
      obtain ⟨v, e1, e2⟩ := hg x _ hx
      cases e2 with | dv q => cases q with | sc q => exact fin e1 (.dv (.sc q)) hw
    · exact hw.elim
  · rename_i f args ats hop
    have hal : isAlloc C.P o = false := by unfold isAlloc; rw [hop]
    have hhv : heavy o = true := by unfold heavy; rw [hop]
    split at hw
    · rename_i g first cap as hf has
      obtain ⟨vf, e1, e2⟩ := hg f _ hf
      obtain ⟨vs, e3, e4⟩ := mapOpt_ok hg has
      cases e2 with
      | fn l1 l2 l3 l4 =>
        rename_i us ws
        have hall : RVL s.H Z B (first ++ as ++ cap) (us ++ vs ++ ws) := (RVL.append ⟨l1, l3⟩ e4).append ⟨l2, l4⟩
        have hhe : aheavy C (aeval C.G s.tmps) s.H o = some (.enter g (us ++ vs ++ ws), s.H) := by simp only [aheavy, hop, e1, e3]
        have hret : ∀ {v : Value} {H' : AHeap}, evw C (.call g (us ++ vs ++ ws) s.H) = some (.ret v H') → aop1 C (evw C) none o s = some (.normal, s.put o.dst v H') := fun hc => by
          simp only [aop1, aout, hal, Bool.false_eq_true, if_false, hhv, if_true, hhe, hc]
        have hpan : ∀ {v : Value} {H' : AHeap}, evw C (.call g (us ++ vs ++ ws) s.H) = some (.panicked v H') → aop1 C (evw C) none o s = some (.panic v, { s with H := H' }) := fun hc => by
          simp only [aop1, aout, hal, Bool.false_eq_true, if_false, hhv, if_true, hhe, hc]
        rcases hw with ⟨ks, R, hn, hks, hw⟩ | ⟨R, hw⟩
        · split at hw
          · rename_i φ O' as' hpa
            obtain ⟨q1, q2, q3, q4⟩ := hw
            obtain ⟨Z1, r1, r2, r3, r4⟩ := pargs_ok h hall hpa q1
            obtain ⟨x, os', v, H', B', Z', t1, t2, t3, _⟩ := call_ok r1 hn (fun k hk => by simp only [r4]; exact hks k hk) r2 q2
            rcases t1 with ⟨t1, t4⟩ | ⟨t1, t4⟩
            · obtain ⟨d1, d2⟩ := q3 x os' t4
              have := t2.putD d1 t3
              exact ⟨.normal, _, hret t1, .inl ⟨rfl, _, ⟨B', Z', this⟩, d2⟩⟩
            · exact ⟨_, _, hpan t1, .inr ⟨v, _, _, B', Z', rfl, t2, t3, q4 x os' t4⟩⟩
          · exact hw.elim
        · split at hw
          · rename_i φ as' hpa
            obtain ⟨q1, q2, q3, q4⟩ := hw
            have hl := plend_ok h hall hpa q1
            have hl2 := hl.ren (f := fun _ => none) (B' := []) (fun k j y h => by cases h)
            obtain ⟨x, os', v, H', B', Z', t1, t2, t3⟩ := q2 s.H (fun _ => True) [] _ ⟨rfl, fun k o h => by simp at h, fun j k b o1 o2 ⟨o, h1, _⟩ => by simp at h1, fun k b o ⟨o', h1, _⟩ => by simp at h1⟩ hl2
            have hX : ∀ b, ¬ Xof [] [] b := by rintro b ⟨k, o, ⟨o', h1, _⟩, _⟩; simp at h1
            rcases t1 with ⟨t1, t4⟩ | ⟨t1, t4⟩
            · obtain ⟨d0, d1, d2⟩ := q3 x os' t4
              have hsame : ∀ b, b < s.H.size → H'[b]? = s.H[b]? := fun b hb => t2.old b hb (hX b)
              have hj : StB F p { s with H := H' } B Z := h.junk t2.sz fun b hb hne => absurd (hsame b hb) hne
              have hxs : RV H' Z B x v := by
                have one : ∀ {y : PV} {w : Value}, (match y with | .dv (.sc _) => true | _ => false) = true → RV H' Z' B' y w → RV H' Z B y w := by
                  intro y w hy hr
                  cases hr with
                  | dv hd => cases hd with
                    | sc hf => exact .dv (.sc hf)
                    | _ => cases hy
                  | _ => cases hy
                cases t3 with
                | dv hd => cases hd with
                  | sc hf => exact .dv (.sc hf)
                  | _ => cases d0
                | tup h1 h2 =>
                  refine .tup h1 fun i y w hy hw => one ?_ (h2 i y w hy hw)
                  exact List.all_eq_true.1 d0 _ (List.mem_of_getElem? hy)
                | ag h1 h2 =>
                  refine .ag h1 fun i y w hy hw => one ?_ (h2 i y w hy hw)
                  exact List.all_eq_true.1 d0 _ (List.mem_of_getElem? hy)
                | _ => cases d0
              have := hj.putD d1 hxs
              exact ⟨.normal, _, hret t1, .inl ⟨rfl, _, ⟨B, Z, this⟩, d2⟩⟩
            · exact absurd t4 (q4 x os')
          · exact hw.elim
    · exact hw.elim
  · exact gen hw

theorem wpg_ok (h : StB F p s B Z) {ops : Array Oper} {o : Oper} {Y N : Prop} (hw : wpg ops o p Y N) : (awanted ops o s.tmps = true ∧ Y) ∨ (awanted ops o s.tmps = false ∧ N) := by
  unfold wpg at hw
  split at hw
  · rename_i hgd
    exact .inl ⟨by simp only [awanted, hgd], hw⟩
  · rename_i j want hgd
    split at hw
    · rename_i d hd
      split at hw
      · rename_i b hb
        obtain ⟨v, e1, e2⟩ := h.tm d _ hb
        cases e2 with | dv hd2 => cases hd2 with | sc _ =>
        have ha : awanted ops o s.tmps = (b == want) := by simp only [awanted, hgd, hd, e1]
        by_cases hbw : b = want
        · exact .inl ⟨by rw [ha]; simp [hbw], hw.1 hbw⟩
        · exact .inr ⟨by rw [ha]; simp [hbw], hw.2 (by cases b <;> cases want <;> simp_all)⟩
      · exact hw.elim
    · exact hw.elim

theorem wpops_ok {ops : Array Oper} : ∀ {l : List Oper} {p : PS} {s : ASt} {K : PS → Prop} {E : PV → PS → Prop}, PSt F p s → wpops C ops l p K E →
    ∃ e s', aopsL C (evw C) ops l s = some (e, s') ∧ ((e = .normal ∧ ∃ p', PSt F p' s' ∧ K p') ∨ (∃ v x p' B' Z', e = .panic v ∧ StB F p' s' B' Z' ∧ RV s'.H Z' B' x v ∧ E x p'))
  | [], p, s, K, E, h, hw => ⟨.normal, s, rfl, .inl ⟨rfl, p, h, hw⟩⟩
  | o :: r, p, s, K, E, ⟨B, Z, h⟩, hw => by
    rcases wpg_ok h hw with ⟨ha, hy⟩ | ⟨ha, hn⟩
    · obtain ⟨e, s1, e1, e2⟩ := wpo_ok h hy
      rcases e2 with ⟨rfl, p1, h1, h2⟩ | ⟨v, x, p1, B1, Z1, rfl, h1, h2, h3⟩
      · obtain ⟨e, s2, f1, f2⟩ := wpops_ok (s := s1) h1 h2
        exact ⟨e, s2, by simp only [aopsL, ha, if_true, e1]; exact f1, f2⟩
      · exact ⟨_, s1, by simp only [aopsL, ha, if_true, e1], .inr ⟨v, x, p1, B1, Z1, rfl, h1, h2, h3⟩⟩
    · have hp := h.putD hn.1 (RV.bad (v := undef))
      obtain ⟨e, s2, f1, f2⟩ := wpops_ok ⟨B, Z, hp⟩ hn.2
      exact ⟨e, s2, by simp only [aopsL, ha, Bool.false_eq_true, if_false]; exact f1, f2⟩

theorem T.region {id : Nat} {ops : Array Oper} (h : wpops C ops ops.toList p (fun p' => Q .normal p') (fun x p' => Q (.panic x) p')) : T C fn rd (.region id ops false) p Q := by
  intro F s hs
  obtain ⟨e, s', h1, h2⟩ := wpops_ok hs h
  refine ⟨e, s', by simp only [acode]; rw [aregion_text]; exact h1, ?_⟩
  rcases h2 with ⟨rfl, p', h3, h4⟩ | ⟨v, x, p', B', Z', rfl, h3, h4, h5⟩
  · exact ⟨p', h3, h4⟩
  · exact ⟨x, p', B', Z', h3, h4, h5⟩

theorem T.draw {id : Nat} {ops : Array Oper} (hd : drawLight C.P ops = true) (h : wpops C ops ops.toList p (fun p' => Q .normal p') (fun _ _ => False)) : T C fn rd (.region id ops true) p Q := by
  intro F s hs
  obtain ⟨e, s', h1, h2⟩ := wpops_ok hs h
  rcases h2 with ⟨rfl, p', h3, h4⟩ | ⟨v, x, p', B', Z', rfl, h3, h4, h5⟩
  · exact Wc.draw hd h1 ⟨p', h3, h4⟩
  · exact h5.elim

theorem T.seq {a b : Code} (h : T C fn rd a p (fun e p' => match e with | .normal => T C fn rd b p' Q | e => Q e p')) : T C fn rd (.seq a b) p Q := by
  intro F s hs
  refine Wc.seq ((h F s hs).mono fun e s' ho => ?_)
  cases e with
  | normal => obtain ⟨p', h1, h2⟩ := ho; exact h2 F s' h1
  | jump c => exact ho
  | panic v => exact ho

theorem T.cond {c : Operand} {a b : Code} {t : Bool} (hc : pev p.tm c = some (.dv (.sc (.bool t)))) (h1 : t = true → T C fn rd a p Q) (h2 : t = false → T C fn rd b p Q) : T C fn rd (.cond c a b) p Q := by
  rintro F s ⟨B, Z, hs⟩
  obtain ⟨v, e1, e2⟩ := pev_ok (C := C) hs c _ hc
  cases e2 with | dv hd => cases hd with | sc _ =>
  refine Wc.cond e1 ?_
  cases t
  · exact h2 rfl F s ⟨B, Z, hs⟩
  · exact h1 rfl F s ⟨B, Z, hs⟩

theorem T.skip (h : Q .normal p) : T C fn rd .skip p Q := fun _ _ hs => Wc.skip ⟨p, hs, h⟩
theorem T.label {l : Nat} (h : Q .normal p) : T C fn rd (.label l) p Q := fun _ s hs => ⟨.normal, s, rfl, p, hs, h⟩
theorem T.exit {id : Nat} (h : Q (.jump (.exit id)) p) : T C fn rd (.exit id) p Q := fun _ _ hs => Wc.exit ⟨p, hs, h⟩
theorem T.ret (h : Q (.jump .ret) p) : T C fn rd .ret p Q := fun _ _ hs => Wc.ret ⟨p, hs, h⟩
theorem T.goto {l : Nat} (h : Q (.jump (.goto l)) p) : T C fn rd (.goto l) p Q := fun _ s hs => ⟨.jump (.goto l), s, rfl, p, hs, h⟩

theorem T.block {id : Nat} {body : Code} (h : T C fn rd body p (fun e p' => match e with | .jump (.exit i) => if i = id then Q .normal p' else Q (.jump (.exit i)) p' | e => Q e p')) : T C fn rd (.block id body) p Q := by
  intro F s hs
  refine Wc.block ((h F s hs).mono fun e s' ho => ?_)
  cases e with
  | normal => exact ho
  | panic v => exact ho
  | jump c =>
    obtain ⟨p', h1, h2⟩ := ho
    cases c with
    | exit i =>
      simp only at h2 ⊢
      split at h2
      · rename_i hi; rw [if_pos hi]; exact ⟨p', h1, h2⟩
      · rename_i hi; rw [if_neg hi]; exact ⟨p', h1, h2⟩
    | _ => exact ⟨p', h1, h2⟩

/-- What is known in one state is known in the other. -/
def Wk (p p' : PS) : Prop := ∀ F s, PSt F p s → PSt F p' s

theorem Wk.refl : Wk p p := fun _ _ h => h
theorem Wk.trans {p q r : PS} (h : Wk p q) (k : Wk q r) : Wk p r := fun F s hs => k F s (h F s hs)

theorem T.weak {c : Code} {p' : PS} (hw : Wk p p') (h : T C fn rd c p' Q) : T C fn rd c p Q := fun F s hs => h F s (hw F s hs)

theorem T.mono {c : Code} {Q' : PEx → PS → Prop} (h : T C fn rd c p Q) (k : ∀ e p, Q e p → Q' e p) : T C fn rd c p Q' := fun F s hs => (h F s hs).mono fun _ _ ho => ho.mono k

/-- First a, of which Q1 is shown; then b, from Q1 alone. -/
theorem T.cut {a b : Code} (Q1 : PS → Prop) (h : T C fn rd a p (fun e p' => match e with | .normal => ∃ p'', Wk p' p'' ∧ Q1 p'' | e => Q e p')) (k : ∀ p', Q1 p' → T C fn rd b p' Q) : T C fn rd (.seq a b) p Q :=
  .seq (h.mono fun e p' hq => by
    cases e with
    | normal => obtain ⟨p'', h1, h2⟩ := hq; exact (k p'' h2).weak h1
    | jump c => exact hq
    | panic x => exact hq)

theorem T.assoc {a b c : Code} (h : T C fn rd (.seq (.seq a b) c) p Q) : T C fn rd (.seq a (.seq b c)) p Q := fun F s hs => Wc.assoc (h F s hs)

theorem T.loop {body : Code} (I : Nat → PS → Prop) (n : Nat) {p0 : PS} (hw : Wk p p0) (h0 : I n p0)
    (h : ∀ n p, I n p → T C fn rd body p (fun e p' => match e with | .normal => ∃ k p'', k < n ∧ Wk p' p'' ∧ I k p'' | e => Q e p')) : T C fn rd (.loop body) p Q := by
  intro F s hs
  refine Wc.loop (fun k s => ∃ p, PSt F p s ∧ I k p) n ⟨p0, hw F s hs, h0⟩ ?_
  rintro n s ⟨p, hp, hI⟩
  refine (h n p hI F s hp).mono fun e s' ho => ?_
  cases e with
  | normal =>
    obtain ⟨p', h1, k, p'', h2, h3, h4⟩ := ho
    exact ⟨k, h2, p'', h3 F s' h1, h4⟩
  | jump c => exact ho
  | panic v => exact ho

/-- Code with labels: what holds where a goto goes to (told by a measure). -/
theorem T.scope {body : Code} (I : Nat → Nat → PS → Prop) (n : Nat)
    (h0 : T C fn rd body p (fun e p' => match e with | .jump (.goto l) => (∃ k p'', k < n ∧ Wk p' p'' ∧ I k l p'') ∧ (findLabel body l).isSome = true | e => Q e p'))
    (h : ∀ n l p rest, I n l p → findLabel body l = some rest → T C fn rd rest p (fun e p' => match e with | .jump (.goto l) => (∃ k p'', k < n ∧ Wk p' p'' ∧ I k l p'') ∧ (findLabel body l).isSome = true | e => Q e p')) : T C fn rd (.scope body) p Q := by
  intro F s hs
  have main : ∀ n l rest s, (∃ p, PSt F p s ∧ I n l p) → findLabel body l = some rest → ∃ e s', evw C (.scope fn rd body rest s) = some (.code e s') ∧ Oc F e s' Q := by
    intro n
    induction n using Nat.strongRecOn with
    | ind n ih =>
      rintro l rest s ⟨p, hp, hI⟩ hl
      obtain ⟨e, s', h1, h2⟩ := h n l p rest hI hl F s hp
      have other : (∀ l', e ≠ .jump (.goto l')) → Oc F e s' Q → ∃ e s', evw C (.scope fn rd body rest s) = some (.code e s') ∧ Oc F e s' Q := fun hne ho => by
        refine ⟨e, s', evw_step ?_, ho⟩
        simp only [step1, h1]
      cases e with
      | normal => exact other (fun _ h => by cases h) h2
      | panic v => exact other (fun _ h => by cases h) h2
      | jump c =>
        cases c with
        | goto l' =>
          obtain ⟨p', h3, ⟨k, p'', h4, h5, h6⟩, h7⟩ := h2
          obtain ⟨rest', h8⟩ := Option.isSome_iff_exists.1 h7
          obtain ⟨e, s2, h9, h10⟩ := ih k h4 l' rest' s' ⟨p'', h5 F s' h3, h6⟩ h8
          exact ⟨e, s2, evw_step (by simp only [step1, h1, h8, h9]), h10⟩
        | _ => exact other (fun _ h => by cases h) h2
  obtain ⟨e, s', h1, h2⟩ := h0 F s hs
  have other : (∀ l', e ≠ .jump (.goto l')) → Oc F e s' Q → Wc C fn rd (.scope body) s (fun e s' => Oc F e s' Q) := fun hne ho => by
    refine ⟨e, s', ?_, ho⟩
    simp only [acode, h1]
    cases e with
    | jump c => cases c with
      | goto l' => exact absurd rfl (hne l')
      | _ => rfl
    | _ => rfl
  cases e with
  | normal => exact other (fun _ h => by cases h) h2
  | panic v => exact other (fun _ h => by cases h) h2
  | jump c =>
    cases c with
    | goto l' =>
      obtain ⟨p', h3, ⟨k, p'', h4, h5, h6⟩, h7⟩ := h2
      obtain ⟨rest', h8⟩ := Option.isSome_iff_exists.1 h7
      obtain ⟨e, s2, h9, h10⟩ := main k l' rest' s' ⟨p'', h5 F s' h3, h6⟩ h8
      exact ⟨e, s2, by simp only [acode, h1, h8, h9], h10⟩
    | _ => exact other (fun _ h => by cases h) h2
end
end Go.Eng

namespace Go.Eng
open Go

/-- Some slots are kept, and some objects, under new numbers. -/
def PS.norm (p : PS) (keep ks : List Nat) : PS :=
  { p with tm := keep.filterMap fun i => (p.tm.lookup i).map fun x => (i, x.ren fun k => idxIn k ks), ob := ks.map fun k => (p.ob.getD k .gone).ren fun k => idxIn k ks }

def NOk (p : PS) (ks : List Nat) : Prop := ks.Nodup ∧ (∀ k ∈ ks, k < p.ob.length) ∧ ks.take p.m = List.range p.m

def oneP : List PV → PV
  | [x] => x
  | xs => .tup xs

def presult (P : Program) (p : PS) : ResultVar → Option (Prop × PV)
  | .tmp t => (p.tm.lookup t).map fun x => (True, x)
  | .cell a t => (p.tm.lookup a).bind (pLoad P p.ob t)

def presults (P : Program) (p : PS) : List ResultVar → Option (Prop × List PV)
  | [] => some (True, [])
  | r :: rs => match presult P p r, presults P p rs with
    | some (φ, x), some (ψ, xs) => some (φ ∧ ψ, x :: xs)
    | _, _ => none

/-- What the function answers, when its code has come to its end. -/
def Ret (P : Program) (rs : List ResultVar) (p : PS) (Q : PRes → Prop) : Prop :=
  match presults P p rs with
  | some (φ, xs) => φ ∧ ∃ ks, NOk p ks ∧ Q (.ret ((oneP xs).ren fun k => idxIn k ks) (ks.map fun k => (p.ob.getD k .gone).ren fun k => idxIn k ks))
  | none => False

def enumT : Nat → List PV → List (Nat × PV)
  | _, [] => []
  | i, x :: xs => (i, x) :: enumT (i + 1) xs

section
variable {C : Ctx} {F : Fr} {p : PS} {s : ASt} {B : Blks} {Z : Nat → Prop} {Q : PRes → Prop}

theorem lookup_keep {f : PV → PV} {tm : List (Nat × PV)} : ∀ {keep : List Nat} {i : Nat} {y : PV}, (keep.filterMap fun i => (tm.lookup i).map fun x => (i, f x)).lookup i = some y → ∃ x, tm.lookup i = some x ∧ y = f x
  | [], _, _, h => by cases h
  | j :: keep, i, y, h => by
    rw [List.filterMap_cons] at h
    cases hj : tm.lookup j with
    | none =>
      simp only [hj, Option.map_none] at h
      exact lookup_keep h
    | some x =>
      simp only [hj, Option.map_some, List.lookup_cons] at h
      split at h
      · rename_i hij
        simp only [beq_iff_eq] at hij
        subst hij
        cases h
        exact ⟨x, hj, rfl⟩
      · exact lookup_keep h

/-- The same with some objects alone. -/
theorem StB.norm (h : StB F p s B Z) {ks : List Nat} (hk : NOk p ks) {nt : Nat} {tm : List (Nat × PV)} {tmps : List Value} (hl : tmps.length = nt)
    (ht : ∀ i y, tm.lookup i = some y → ∃ x v, y = x.ren (fun k => idxIn k ks) ∧ tmps[i]? = some v ∧ RV s.H Z B x v) :
    ∃ B', StB F { nt, m := p.m, tm, ob := ks.map fun k => (p.ob.getD k .gone).ren fun k => idxIn k ks } { tmps, H := s.H, dfs := s.dfs } B' Z ∧ (∀ x v, RV s.H Z B x v → RV s.H Z B' (x.ren fun k => idxIn k ks) v) := by
  obtain ⟨hn, hks, hm⟩ := hk
  let Bc : Blks := ks.map fun k => (B[k]?).getD none
  have hBc : ∀ (j k : Nat), ks[j]? = some k → Bc[j]? = B[k]? := fun j k hj => by
    have hk := hks k (List.mem_of_getElem? hj)
    have : k < B.length := by rw [h.bl]; exact hk
    simp only [Bc, List.getElem?_map, hj, Option.map_some, List.getElem?_eq_getElem this, Option.getD_some]
  have hren : ∀ k j y, idxIn k ks = some j → B[k]? = some y → Bc[j]? = some y := fun k j y h1 h2 => by rw [hBc j k (idxIn_some h1)]; exact h2
  have hlive : ∀ j : Nat, Live (ks.map fun k => (p.ob.getD k .gone).ren fun k => idxIn k ks) j → ∃ k : Nat, ks[j]? = some k ∧ Live p.ob k := by
    rintro j ⟨o, h1, h2⟩
    simp only [List.getElem?_map, Option.map_eq_some_iff] at h1
    obtain ⟨k, h3, rfl⟩ := h1
    rw [Ob.ren_live] at h2
    have hk := hks k (List.mem_of_getElem? h3)
    exact ⟨k, h3, p.ob[k], by simp [hk], by simpa [List.getD, hk] using h2⟩
  have hrv : ∀ x v, RV s.H Z B x v → RV s.H Z Bc (x.ren fun k => idxIn k ks) v := fun x v hx => hx.ren hren
  refine ⟨Bc, { tm := fun i y hy => ?_, nt := hl, bl := by simp [Bc], ob := fun j o hj => ?_, inj := fun i j b o1 o2 hi hj h1 h2 => ?_, lz := fun j b o hj hb => ?_, zz := h.zz, old := h.old, sz := h.sz, dfs := h.dfs, bm := h.bm, b0 := ?_ }, hrv⟩
  · obtain ⟨x, v, rfl, e1, e2⟩ := ht i y hy
    exact ⟨v, e1, hrv x v e2⟩
  · simp only [List.getElem?_map, Option.map_eq_some_iff] at hj
    obtain ⟨k, h3, rfl⟩ := hj
    have hk := hks k (List.mem_of_getElem? h3)
    exact OkOb.ren (k := k) hren (hBc j k h3) (h.ob k _ (by simp [List.getD, hk]))
  · obtain ⟨k1, e1, e2⟩ := hlive i hi
    obtain ⟨k2, e3, e4⟩ := hlive j hj
    rw [hBc i k1 e1] at h1
    rw [hBc j k2 e3] at h2
    have := h.inj k1 k2 b o1 o2 e2 e4 h1 h2
    subst this
    exact (List.getElem?_inj (List.getElem?_eq_some_iff.1 e1).1 hn).1 (e1.trans e3.symm)
  · obtain ⟨k1, e1, e2⟩ := hlive j hj
    rw [hBc j k1 e1] at hb
    exact h.lz k1 b o e2 hb
  · obtain ⟨A, hA⟩ := h.b0
    have hm0 := h.bm
    refine ⟨Bc.drop p.m, ?_⟩
    have hkl : p.m ≤ ks.length := by
      have := congrArg List.length hm
      simp at this
      omega
    have : Bc.take p.m = F.B0 := by
      refine List.ext_getElem? fun i => ?_
      by_cases hi : i < p.m
      · have hki : ks[i]? = some i := by
          have := congrArg (fun l => l[i]?) hm
          simpa [List.getElem?_take, hi] using this
        rw [List.getElem?_take, if_pos hi, hBc i i hki, hA, List.getElem?_append_left (by omega)]
      · rw [List.getElem?_take, if_neg hi, List.getElem?_eq_none (by omega)]
    rw [← this, List.take_append_drop]

theorem Wk.norm {keep ks : List Nat} (hk : NOk p ks) : Wk p (p.norm keep ks) := by
  rintro F s ⟨B, Z, h⟩
  obtain ⟨B', h1, _⟩ := h.norm hk (nt := p.nt) (tm := (p.norm keep ks).tm) (tmps := s.tmps) h.nt fun i y hy => by
    obtain ⟨x, e1, e2⟩ := lookup_keep hy
    obtain ⟨v, e3, e4⟩ := h.tm i x e1
    exact ⟨x, v, e2, e3, e4⟩
  exact ⟨B', Z, h1⟩

/-- A slot's value becomes data. -/
theorem Wk.frz {i : Nat} {x : PV} {φ : Prop} {O' : List Ob} {d : DV} (hi : p.tm.lookup i = some x) (hf : pfrz p.ob x = some (φ, O', d)) (hφ : φ) : Wk p { p with tm := (i, .dv d) :: p.tm, ob := O' } := by
  rintro F s ⟨B, Z, h⟩
  obtain ⟨v, e1, e2⟩ := h.tm i x hi
  obtain ⟨Z', h1, h2, h3⟩ := pfrz_ok h e2 hf hφ
  refine ⟨B, Z', ?_⟩
  refine h1.slots h1.nt fun j y hy => ?_
  simp only [List.lookup_cons] at hy
  split at hy
  · rename_i hj
    simp only [beq_iff_eq] at hj
    subst hj
    cases hy
    exact ⟨v, e1, .dv h2⟩
  · exact h1.tm j y hy

/-- A slot's nil is an own row without elements. -/
theorem Wk.nilrow {i z : Nat} (hi : p.tm.lookup i = some (.dv (.sc (.slice none 0 0)))) : Wk p { p with tm := (i, .ow p.ob.length 0 0) :: p.tm, ob := p.ob ++ [.row z []] } := by
  rintro F s ⟨B, Z, h⟩
  have hat : (B ++ [none])[p.ob.length]? = some none := by rw [← h.bl]; simp
  have h1 : StB F { p with ob := p.ob ++ [.row z []] } s (B ++ [none]) Z := h.addOb (.inr ⟨hat, rfl⟩) (fun _ b oo hb => by cases hb)
  obtain ⟨v, e1, e2⟩ := h.tm i _ hi
  cases e2 with | dv hd => cases hd with | sc _ =>
  refine ⟨B ++ [none], Z, h1.slots h1.nt fun j y hy => ?_⟩
  simp only [List.lookup_cons] at hy
  split at hy
  · rename_i hj
    simp only [beq_iff_eq] at hj
    subst hj
    cases hy
    exact ⟨_, e1, .ow0 hat⟩
  · exact h1.tm j y hy

/-- A variable's nil is an own row without elements. -/
theorem Wk.nilcell {k i z : Nat} {cs : List PV} (hk : p.ob[k]? = some (.var cs)) (hi : cs[i]? = some (.dv (.sc (.slice none 0 0)))) : Wk p { p with ob := (p.ob ++ [Ob.row z []]).set k (.var (cs.set i (.ow p.ob.length 0 0))) } := by
  rintro F s ⟨B, Z, h⟩
  have hat : (B ++ [none])[p.ob.length]? = some none := by rw [← h.bl]; simp
  have h1 : StB F { p with ob := p.ob ++ [.row z []] } s (B ++ [none]) Z := h.addOb (.inr ⟨hat, rfl⟩) (fun _ b oo hb => by cases hb)
  have hk1 : (p.ob ++ [Ob.row z []])[k]? = some (.var cs) := append_some hk
  have hlk : Live (p.ob ++ [Ob.row z []]) k := ⟨_, hk1, rfl⟩
  obtain ⟨b, o, vs, e1, e2, e3⟩ := h1.ob k _ hk1
  refine ⟨B ++ [none], Z, h1.setOb (o := .var (cs.set i (.ow p.ob.length 0 0))) ⟨b, o, vs, e1, e2, by rw [List.length_set]; exact e3.1, fun j y v hy hv => ?_⟩ fun _ b' oo hb => ?_⟩
  · rw [List.getElem?_set] at hy
    split at hy
    · rename_i hij
      subst hij
      split at hy
      · cases hy
        have := e3.2 i _ v hi hv
        cases this with | dv hd => cases hd with | sc _ => exact .ow0 hat
      · cases hy
    · exact e3.2 j y v hy hv
  · have := h1.lz k b' oo hlk hb
    exact ⟨this.1, this.2, fun j o2 hjk hj hb2 => hjk (h1.inj j k b' o2 oo hj hlk hb2 hb)⟩

theorem presults_ok (h : StB F p s B Z) : ∀ {rs : List ResultVar} {φ : Prop} {xs : List PV}, presults C.P p rs = some (φ, xs) → φ → ∃ vs, mapOpt (aresult C.P s.tmps s.H) rs = some vs ∧ RVL s.H Z B xs vs
  | [], φ, xs, hp, _ => by cases hp; exact ⟨[], rfl, .nil⟩
  | r :: rs, φ, xs, hp, hφ => by
    unfold presults at hp
    split at hp
    · rename_i φ1 x φ2 xs' h1 h2
      cases hp
      obtain ⟨vs, e1, e2⟩ := presults_ok h h2 hφ.2
      have : ∃ v, aresult C.P s.tmps s.H r = some v ∧ RV s.H Z B x v := by
        cases r with
        | tmp t =>
          simp only [presult, Option.map_eq_some_iff] at h1
          obtain ⟨y, h3, h4⟩ := h1
          cases h4
          exact h.tm t _ h3
        | cell a t =>
          simp only [presult, Option.bind_eq_some_iff] at h1
          obtain ⟨y, h3, h4⟩ := h1
          obtain ⟨v, e3, e4⟩ := h.tm a _ h3
          obtain ⟨ad, w, rfl, e5, e6⟩ := pLoad_ok h.ob h4 hφ.1 e4
          exact ⟨w, by simp only [aresult, e3]; exact e5, e6⟩
      obtain ⟨v, e3, e4⟩ := this
      exact ⟨v :: vs, by simp only [mapOpt, e3, e1], .cons e4 e2⟩
    · cases hp

theorem oneP_ok {H : AHeap} : ∀ {xs : List PV} {vs : List Value}, RVL H Z B xs vs → RV H Z B (oneP xs) (oneOr vs)
  | [], [], h => .tup h.1 h.2
  | [], _ :: _, h => by have := h.1; simp at this
  | _ :: _, [], h => by have := h.1; simp at this
  | [x], [v], h => h.2 0 x v rfl rfl
  | [_], _ :: _ :: _, h => by have := h.1; simp at this
  | _ :: _ :: _, [_], h => by have := h.1; simp at this
  | x :: y :: xs, v :: w :: vs, h => .tup h.1 h.2

theorem lookup_enum : ∀ {xs : List PV} {k i : Nat} {y : PV}, (enumT k xs).lookup i = some y → k ≤ i ∧ xs[i - k]? = some y
  | [], _, _, _, h => by cases h
  | x :: xs, k, i, y, h => by
    simp only [enumT, List.lookup_cons] at h
    split at h
    · rename_i hi
      simp only [beq_iff_eq] at hi
      subst hi
      cases h
      exact ⟨Nat.le_refl _, by simp⟩
    · obtain ⟨h1, h2⟩ := lookup_enum h
      refine ⟨by omega, ?_⟩
      rw [show i - k = (i - (k + 1)) + 1 by omega, List.getElem?_cons_succ]
      exact h2

theorem ObsOk.start {H : AHeap} {os : List Ob} (h : ObsOk H Z B os) {as : List PV} {vs : List Value} (ha : RVL H Z B as vs) (n : Nat) :
    StB (frOf H Z B os) ⟨as.length + n, os.length, enumT 0 as, os⟩ ⟨vs ++ List.replicate n undef, H, []⟩ B Z where
  tm := fun i x hx => by
    obtain ⟨_, h2⟩ := lookup_enum hx
    simp only [Nat.sub_zero] at h2
    have hi : i < vs.length := by rw [← ha.1]; exact (List.getElem?_eq_some_iff.1 h2).1
    exact ⟨vs[i], by rw [List.getElem?_append_left hi]; simp [hi], ha.2 i x _ h2 (by simp [hi])⟩
  nt := by simp [ha.1]
  bl := h.bl
  ob := h.ob
  inj := h.inj
  lz := fun k b o hk hb => ⟨h.lz k b o hk hb, .inl ⟨k, o, hk, hb⟩⟩
  zz := fun b hb => .inl hb
  old := fun b _ _ => rfl
  sz := Nat.le_refl _
  dfs := rfl
  bm := h.bl
  b0 := ⟨[], by rw [List.append_nil]; rfl⟩

/-- A function, by its code. -/
theorem FS.of_code {f : FuncId} {as : List PV} {os : List Ob} {fn : Func} {c : Code} (hI : C.I f = none) (hf : C.P.funcs[f]? = some fn) (hb : fn.body = some c)
    (h : T C f none c ⟨as.length + (fn.ntmps - as.length), os.length, enumT 0 as, os⟩ (fun e p => match e with
      | .normal => Ret C.P fn.results.toList p Q
      | .jump .ret => Ret C.P fn.results.toList p Q
      | .panic x => ∃ ks, NOk p ks ∧ Q (.pan (x.ren fun k => idxIn k ks) (ks.map fun k => (p.ob.getD k .gone).ren fun k => idxIn k ks))
      | _ => False)) : FS C f as os Q := by
  intro H Z B vs hobs ha
  have hst := hobs.start ha (fn.ntmps - as.length)
  have key := h _ _ ⟨B, Z, hst⟩
  have ret : ∀ (p : PS) (s' : ASt), PSt (frOf H Z B os) p s' → p.m = os.length → Ret C.P fn.results.toList p Q → ∃ r, leave C fn s' = some r ∧
      ∃ x os' v H' B' Z', ((r = .ret v H' ∧ Q (.ret x os')) ∨ (r = .panicked v H' ∧ Q (.pan x os'))) ∧ StB (frOf H Z B os) ⟨0, os.length, [], os'⟩ ⟨[], H', []⟩ B' Z' ∧ RV H' Z' B' x v := by
    rintro p s' ⟨B1, Z1, h1⟩ hm hr
    unfold Ret at hr
    split at hr
    · rename_i φ xs hxs
      obtain ⟨hφ, ks, hk, hq⟩ := hr
      obtain ⟨ws, e1, e2⟩ := presults_ok (C := C) h1 hxs hφ
      have e3 := oneP_ok e2
      obtain ⟨B2, n1, n2⟩ := h1.norm hk (nt := 0) (tm := []) (tmps := []) rfl fun i y hy => by cases hy
      have hd : s'.dfs = [] := h1.dfs
      refine ⟨.ret (oneOr ws) s'.H, by simp only [leave, hd, takeAll, e1], _, _, _, _, B2, Z1, .inl ⟨rfl, hq⟩, ?_, n2 _ _ e3⟩
      rw [hm, hd] at n1
      exact n1
    · exact hr.elim
  have hm : ∀ (p : PS) (s' : ASt), PSt (frOf H Z B os) p s' → p.m = os.length := fun p s' ⟨B1, Z1, h1⟩ => h1.bm.symm.trans hobs.bl
  obtain ⟨rep, h1, x, os', v, H', B', Z', h2, h3, h4⟩ := call_of (C := C) (f := f) (args := vs) (H := H) hI hf hb (R := fun r => ∃ x os' v H' B' Z', ((r = .ret v H' ∧ Q (.ret x os')) ∨ (r = .panicked v H' ∧ Q (.pan x os'))) ∧
      StB (frOf H Z B os) ⟨0, os.length, [], os'⟩ ⟨[], H', []⟩ B' Z' ∧ RV H' Z' B' x v) (by
    rw [← ha.1]
    refine key.mono fun e s' ho => ?_
    cases e with
    | normal => obtain ⟨p, h1, h2⟩ := ho; exact ret p s' h1 (hm p s' h1) h2
    | panic w =>
      obtain ⟨x, p, B1, Z1, h1, h2, ks, hk, hq⟩ := ho
      obtain ⟨B2, n1, n2⟩ := h1.norm hk (nt := 0) (tm := []) (tmps := []) rfl fun i y hy => by cases hy
      have hd : s'.dfs = [] := h1.dfs
      refine ⟨s'.H, by simp only [hd, takeAll], _, _, _, _, B2, Z1, .inr ⟨rfl, hq⟩, ?_, n2 _ _ h2⟩
      rw [hm p s' ⟨B1, Z1, h1⟩, hd] at n1
      exact n1
    | jump j =>
      obtain ⟨p, h1, h2⟩ := ho
      cases j with
      | ret => exact ret p s' h1 (hm p s' h1) h2
      | _ => exact h2.elim)
  refine ⟨x, os', v, H', B', Z', ?_, h3, h4⟩
  rcases h2 with ⟨rfl, h2⟩ | ⟨rfl, h2⟩
  · exact .inl ⟨h1, h2⟩
  · exact .inr ⟨h1, h2⟩

/-- What is answered by itself. -/
theorem FS.intr {f : FuncId} {as : List PV} {os : List Ob} {g : List Value → AHeap → Option (Value × AHeap)} (hI : C.I f = some g)
    (h : ∀ (H : AHeap) (Z : Nat → Prop) (B : Blks) (vs : List Value), ObsOk H Z B os → RVL H Z B as vs → ∃ v x, g vs H = some (v, H) ∧ free v = true ∧ x = .dv (.sc v) ∧ Q (.ret x os)) : FS C f as os Q := by
  intro H Z B vs h1 h2
  obtain ⟨v, x, e1, e2, rfl, e4⟩ := h H Z B vs h1 h2
  have hst := h1.start (as := []) (vs := []) ⟨rfl, fun i x v h => by simp at h⟩ 0
  exact ⟨_, os, v, H, B, Z, .inl ⟨evw_step (by simp only [step1, hI, e1]), e4⟩, hst, .dv (.sc e2)⟩
end
end Go.Eng

namespace Go.Eng
open Go
section
variable {C : Ctx} {p p1 : PS} {Q : PEx → PS → Prop} {fn : FuncId} {rd : Option Nat} {id : Nat} {ops : Array Oper} {b : Code}

/-- A region, and what follows it. -/
theorem T.reg (h : ∀ K : PS → Prop, K p1 → wpops C ops ops.toList p K (fun x p' => Q (.panic x) p')) (k : T C fn rd b p1 Q) : T C fn rd (.seq (.region id ops false) b) p Q :=
  .seq (.region (h _ k))

theorem T.regd (hd : drawLight C.P ops = true) (h : ∀ K : PS → Prop, K p1 → wpops C ops ops.toList p K (fun _ _ => False)) (k : T C fn rd b p1 Q) : T C fn rd (.seq (.region id ops true) b) p Q :=
  .seq (.draw hd (h _ k))

/-- A region at the end. -/
theorem T.rege (h : ∀ K : PS → Prop, K p1 → wpops C ops ops.toList p K (fun x p' => Q (.panic x) p')) (k : Q .normal p1) : T C fn rd (.region id ops false) p Q := .region (h _ k)

theorem T.regde (hd : drawLight C.P ops = true) (h : ∀ K : PS → Prop, K p1 → wpops C ops ops.toList p K (fun _ _ => False)) (k : Q .normal p1) : T C fn rd (.region id ops true) p Q := .draw hd (h _ k)

/-- What is kept. -/
theorem T.keep {c : Code} (keep ks : List Nat) (hk : NOk p ks) (h : T C fn rd c (p.norm keep ks) Q) : T C fn rd c p Q := .weak (.norm hk) h

theorem T.seq1 {a b c : Code} (h : T C fn rd (.seq a (.seq b c)) p Q) : T C fn rd (.seq (.seq a b) c) p Q := by
  intro F s hs
  obtain ⟨e, s', h1, h2⟩ := h F s hs
  refine ⟨e, s', ?_, h2⟩
  simp only [acode] at h1 ⊢
  cases ha : acode C (evw C) fn rd a s with
  | none => rw [ha] at h1; exact h1
  | some p =>
    obtain ⟨e1, s1⟩ := p
    rw [ha] at h1
    cases e1 <;> exact h1

/-- A condition ahead of what follows: both ways go on. -/
theorem T.ifs {c : Operand} {x y : Code} {t : Bool} (hc : pev p.tm c = some (.dv (.sc (.bool t)))) (h1 : t = true → T C fn rd (.seq x b) p Q) (h2 : t = false → T C fn rd (.seq y b) p Q) : T C fn rd (.seq (.cond c x y) b) p Q := by
  rintro F s ⟨B, Z, hs⟩
  obtain ⟨v, e1, e2⟩ := pev_ok (C := C) hs c _ hc
  cases e2 with | dv hd => cases hd with | sc _ =>
  cases t
  · obtain ⟨e, s', f1, f2⟩ := h2 rfl F s ⟨B, Z, hs⟩
    exact ⟨e, s', by simp only [acode, e1] at f1 ⊢; exact f1, f2⟩
  · obtain ⟨e, s', f1, f2⟩ := h1 rfl F s ⟨B, Z, hs⟩
    exact ⟨e, s', by simp only [acode, e1] at f1 ⊢; exact f1, f2⟩

theorem T.skips (h : T C fn rd b p Q) : T C fn rd (.seq .skip b) p Q := .seq (.skip h)
theorem T.exits {i : Nat} (h : Q (.jump (.exit i)) p) : T C fn rd (.seq (.exit i) b) p Q := .seq (.exit h)
theorem T.gotos {i : Nat} (h : Q (.jump (.goto i)) p) : T C fn rd (.seq (.goto i) b) p Q := .seq (.goto h)
theorem T.rets (h : Q (.jump .ret) p) : T C fn rd (.seq .ret b) p Q := .seq (.ret h)
theorem T.labels {i : Nat} (h : T C fn rd b p Q) : T C fn rd (.seq (.label i) b) p Q := .seq (.label h)
end
end Go.Eng

namespace Go.Eng
open Go

inductive Ev where
  | skip
  | other
  | alloc (k : Nat)
  | read (k : Option Nat)
  | readS
  | touch (ks : List Nat)

/-- Does it hold what it held ahead of the region, or what comes of that without looking at what is written? -/
def statO (st : List Nat) : Operand → Bool
  | .tmp t => st.contains t
  | .const _ => true
  | .func _ => true
  | .global _ => false

def isLd : Option PV → Bool
  | some (.ld _) => true
  | _ => false

def isStat (st : List Nat) (g : Operand → Option PV) (o : Oper) : Bool :=
  match o.op with
  | .move x => statO st x
  | .assign x => statO st x
  | .fieldAddr _ x _ => statO st x
  | .indexAddr _ x i => statO st x && statO st i
  | .load _ x => statO st x && isLd (g x)
  | _ => false

def stNext (st : List Nat) (g : Operand → Option PV) (o : Oper) : List Nat :=
  match o.dst with
  | none => st
  | some d => if isStat st g o then d :: st else st.filter (fun j => !(j == d))

/-- What a light operation looks at. -/
def preads (st : List Nat) (g : Operand → Option PV) (o : Oper) : Ev :=
  match o.op with
  | .load _ a => match g a with
    | some (.pt k _) => .read (some k)
    | some (.ld _) => if statO st a then .readS else .read none
    | _ => .other
  | .convert _ _ x => match g x with
    | some (.ow k _ _) => .read (some k)
    | some (.dv (.sl _ _ _)) => if statO st x then .readS else .read none
    | _ => .other
  | .slice _ x _ _ _ => match g x with
    | some (.ow k _ _) => .read (some k)
    | some (.dv (.sl _ _ _)) => if statO st x then .readS else .read none
    | _ => .other
  | _ => .other

/-- A call in such a region: the objects that are handed over to be written, or none. -/
def wpcallD (C : Ctx) (f : FuncId) (as : List PV) (p : PS) (K : List Nat → PV → PS → Prop) : Prop :=
  (∃ (ks : List Nat) (Q : PRes → Prop), ks.Nodup ∧ (∀ k ∈ ks, k < p.ob.length) ∧ match pargs ks p.ob as with
    | some (φ, O', as') => φ ∧ FS C f (renL (fun k => idxIn k ks) as') (ks.map fun k => (O'.getD k .gone).ren (fun k => idxIn k ks)) Q ∧
        (∀ x os, Q (.ret x os) → K ks (x.ren (backF ks O'.length)) { p with ob := backOb (backF ks O'.length) ks os O' ++ (os.drop ks.length).map (Ob.ren (backF ks O'.length)) }) ∧ (∀ x os, ¬ Q (.pan x os))
    | none => False) ∨
  (∃ Q : PRes → Prop, match plend p.ob as with
    | some (φ, as') => φ ∧ FS C f (renL (fun _ => none) as') [] Q ∧ (∀ x os, Q (.ret x os) → isScal x = true ∧ K [] x p) ∧ (∀ x os, ¬ Q (.pan x os))
    | none => False)

def wpD (C : Ctx) (ops : Array Oper) : List Oper → PS → List Nat → List (PS × Ev) → (PS → List (PS × Ev) → Prop) → Prop
  | [], p, _, log, Q => Q p log
  | o :: r, p, st, log, Q => wpg ops o p
      (match o.op with
        | .call { callee := .value f, args, .. } => match pev p.tm f, mapOpt (pev p.tm) args.toList with
          | some (.fn g first cap), some as => wpcallD C g (first ++ as ++ cap) p (fun ks x p' => okD p o.dst ∧ wpD C ops r (p'.put o.dst x) (stNext st (pev p.tm) o) (log ++ [(p, .touch ks)]) Q)
          | _, _ => False
        | _ => match pop C.P o p with
          | some (φ, O', y) => φ ∧ okD p o.dst ∧ wpD C ops r ({ p with ob := O' }.put o.dst y) (stNext st (pev p.tm) o)
              (log ++ [(p, if isAlloc C.P o then .alloc p.ob.length else if heavy o then .touch (ptouch (pev p.tm) o) else preads st (pev p.tm) o)]) Q
          | none => False)
      (okD p o.dst ∧ wpD C ops r (p.put o.dst .bad) (match o.dst with | some d => st.filter (fun j => !(j == d)) | none => st) (log ++ [(p, .skip)]) Q)

def there (ob : List Ob) (k : Nat) : Bool :=
  match ob[k]? with
  | some .gone => false
  | some (.itr _ _) => false
  | none => false
  | _ => true

def DC (log : List (PS × Ev)) (q : Nat × Nat) : Bool :=
  match log[q.1]?, log[q.2]? with
  | some (_, .skip), some _ => true
  | some _, some (_, .skip) => true
  | some (_, .other), some _ => true
  | some (_, .readS), some _ => true
  | some (_, .alloc k), some (ph, .touch ks) => decide (q.2 < q.1) || (there ph.ob k && !ks.contains k)
  | some (_, .read (some k)), some (ph, .touch ks) => there ph.ob k && !ks.contains k
  | some (_, .read none), some (_, .touch _) => decide (q.1 < q.2)
  | _, _ => false

section
variable {C : Ctx} {F : Fr} {p : PS} {s : ASt} {B : Blks} {Z : Nat → Prop} {fn : FuncId} {rd : Option Nat}

/-- What is known of one operation that was carried out. -/
structure Fact (C : Ctx) (F : Fr) (ops : Array Oper) (base N : Nat) (s0 : ASt) (Z0 : Nat → Prop) (i : Nat) (p : PS) (ev : Ev) (s s' : ASt) (B B' : Blks) (Z Z' : Nat → Prop) : Prop where
  st : StB F p s B Z
  pre : ∃ D, B' = B ++ D
  hole : ∀ r, rank C.P ops i ≤ r → r < N → s.H[base + r]? = some .hole
  zmono : ∀ b c st, Z b → s.H[b]? = some (.cells c st) → Z' b ∧ s'.H[b]? = some (.cells c st)
  ev : ∃ o, ops[i]? = some o ∧ (awanted ops o s.tmps = false ∨
      match ev with
      | .skip => False
      | .other => isAlloc C.P o = false ∧ heavy o = false ∧ areads (aeval C.G s.tmps) o = none
      | .alloc k => isAlloc C.P o = true ∧ B'[k]? = some (some (base + rank C.P ops i, 0))
      | .read (some k) => isAlloc C.P o = false ∧ heavy o = false ∧ (areads (aeval C.G s.tmps) o = none ∨ ∃ b full oo c st, areads (aeval C.G s.tmps) o = some (b, full) ∧ B[k]? = some (some (b, oo)) ∧ s.H[b]? = some (.cells c st))
      | .read none => isAlloc C.P o = false ∧ heavy o = false ∧ (areads (aeval C.G s.tmps) o = none ∨ ∃ b full c st, areads (aeval C.G s.tmps) o = some (b, full) ∧ Z b ∧ s.H[b]? = some (.cells c st))
      | .readS => isAlloc C.P o = false ∧ heavy o = false ∧ (areads (aeval C.G s.tmps) o = none ∨ ∃ b full c st, areads (aeval C.G s.tmps) o = some (b, full) ∧ Z0 b ∧ s0.H[b]? = some (.cells c st))
      | .touch ks => isAlloc C.P o = false ∧ heavy o = true ∧ ∀ b, b < s.H.size → s'.H[b]? ≠ s.H[b]? → ∃ k oo, k ∈ ks ∧ Live p.ob k ∧ B[k]? = some (some (b, oo)))

theorem there_cells (h : StB F p s B Z) {k b oo : Nat} (hk : there p.ob k = true) (hb : B[k]? = some (some (b, oo))) : ∃ c st, s.H[b]? = some (.cells c st) := by
  unfold there at hk
  split at hk
  · cases hk
  · cases hk
  · cases hk
  · rename_i h1 h3 h2
    cases ho : p.ob[k]? with
    | none => exact absurd ho h2
    | some o =>
      have := h.ob k o ho
      cases o with
      | gone => exact absurd ho h1
      | row z cs =>
        rcases this with ⟨b', o', vs, e1, e2, _⟩ | ⟨e1, _⟩
        · rw [hb] at e1; cases e1; exact ⟨_, _, e2⟩
        · rw [hb] at e1; cases e1
      | fro z cs =>
        rcases this with ⟨b', o', vs, st, e1, _, e2, _⟩ | ⟨e1, _⟩
        · rw [hb] at e1; cases e1; exact ⟨_, _, e2⟩
        · rw [hb] at e1; cases e1
      | var cs =>
        obtain ⟨b', o', vs, e1, e2, _⟩ := this
        rw [hb] at e1; cases e1; exact ⟨_, _, e2⟩
      | itr t q => exact absurd ho (h3 t q)

/-- What is there, and not handed over, is not written. -/
theorem not_touched (h : StB F p s B Z) {k b oo : Nat} {ks : List Nat} (hk : there p.ob k = true) (hn : ks.contains k = false) (hb : B[k]? = some (some (b, oo))) {H' : AHeap}
    (ht : ∀ b, b < s.H.size → H'[b]? ≠ s.H[b]? → ∃ k oo, k ∈ ks ∧ Live p.ob k ∧ B[k]? = some (some (b, oo))) : ∃ c st, s.H[b]? = some (.cells c st) ∧ H'[b]? = some (.cells c st) := by
  obtain ⟨c, st, hc⟩ := there_cells h hk hb
  refine ⟨c, st, hc, (Classical.byContradiction fun hne => ?_ : H'[b]? = s.H[b]?).trans hc⟩
  obtain ⟨j, o2, h1, h2, h3⟩ := ht b (lt_of_get hc) hne
  have hjk : j ≠ k := by
    rintro rfl
    simp at hn
    exact hn h1
  have hnl : ¬ Live p.ob k := fun hl => hjk (h.inj j k b o2 oo h2 hl h3 hb)
  unfold there at hk
  split at hk
  · cases hk
  · cases hk
  · cases hk
  · rename_i q1 q3 q2
    cases ho : p.ob[k]? with
    | none => exact absurd ho q2
    | some o =>
      have := h.ob k o ho
      cases o with
      | gone => exact absurd ho q1
      | row z cs => exact hnl ⟨_, ho, rfl⟩
      | var cs => exact hnl ⟨_, ho, rfl⟩
      | itr t q => exact hnl ⟨_, ho, rfl⟩
      | fro z cs =>
        rcases this with ⟨b', o', vs, st, e1, e2, _⟩ | ⟨e1, _⟩
        · rw [hb] at e1; cases e1; exact (h.lz j b o2 h2 h3).1 e2
        · rw [hb] at e1; cases e1

/-- Nor is what nobody writes. -/
theorem zone_same (h : StB F p s B Z) {ks : List Nat} {b : Nat} {c : List Value} {st : St} (hz : Z b) (hb : s.H[b]? = some (.cells c st)) {H' : AHeap}
    (ht : ∀ b, b < s.H.size → H'[b]? ≠ s.H[b]? → ∃ k oo, k ∈ ks ∧ Live p.ob k ∧ B[k]? = some (some (b, oo))) : H'[b]? = some (.cells c st) := by
  refine (Classical.byContradiction fun hne => ?_ : H'[b]? = s.H[b]?).trans hb
  obtain ⟨j, o2, h1, h2, h3⟩ := ht b (lt_of_get hb) hne
  exact (h.lz j b o2 h2 h3).1 hz

theorem live_set_fro {O : List Ob} {k z : Nat} {cs : List DV} {j : Nat} (h : Live (O.set k (.fro z cs)) j) : Live O j := by
  rcases live_set h with ⟨_, hl⟩ | ⟨_, h2⟩
  · cases hl
  · exact h2

mutual
theorem pfrz_live : ∀ {x : PV} {O O' : List Ob} {φ : Prop} {d : DV}, pfrz O x = some (φ, O', d) → ∀ k, Live O' k → Live O k
  | .dv d, O, O', φ, d', h, k, hk => by cases h; exact hk
  | .ow k0 off n, O, O', φ, d', h, k, hk => by
    unfold pfrz at h
    split at h
    · cases h; exact live_set_fro hk
    · cases h; exact hk
    · cases h
  | .ag cs, O, O', φ, d', h, k, hk => by
    unfold pfrz at h
    split at h
    · rename_i h1; cases h; exact pfrzL_live h1 k hk
    · cases h
  | .ifc t x, O, O', φ, d', h, k, hk => by
    unfold pfrz at h
    split at h
    · rename_i h1; cases h; exact pfrz_live h1 k hk
    · cases h
  | .bad, _, _, _, _, h, _, _ => by cases h
  | .pt _ _, _, _, _, _, h, _, _ => by cases h
  | .ld _, _, _, _, _, h, _, _ => by cases h
  | .tup _, _, _, _, _, h, _, _ => by cases h
  | .fn _ _ _, _, _, _, _, h, _, _ => by cases h
theorem pfrzL_live : ∀ {xs : List PV} {O O' : List Ob} {φ : Prop} {ds : List DV}, pfrzL O xs = some (φ, O', ds) → ∀ k, Live O' k → Live O k
  | [], O, O', φ, ds, h, k, hk => by cases h; exact hk
  | x :: xs, O, O', φ, ds, h, k, hk => by
    unfold pfrzL at h
    split at h
    · rename_i h1
      split at h
      · rename_i h2
        cases h
        exact pfrz_live h1 k (pfrzL_live h2 k hk)
      · cases h
    · cases h
end

mutual
theorem pargs_live {ks : List Nat} : ∀ {xs : List PV} {O O' : List Ob} {φ : Prop} {ys : List PV}, pargs ks O xs = some (φ, O', ys) → ∀ k, Live O' k → Live O k
  | [], O, O', φ, ys, h, k, hk => by cases h; exact hk
  | x :: xs, O, O', φ, ys, h, k, hk => by
    unfold pargs at h
    split at h
    · rename_i h1
      split at h
      · rename_i h2
        cases h
        exact parg_live h1 k (pargs_live h2 k hk)
      · cases h
    · cases h
theorem parg_live {ks : List Nat} : ∀ {x : PV} {O O' : List Ob} {φ : Prop} {y : PV}, parg ks O x = some (φ, O', y) → ∀ k, Live O' k → Live O k
  | .ow k0 off n, O, O', φ, y, h, k, hk => by
    unfold parg at h
    split at h
    · cases h; exact hk
    · split at h
      · rename_i h1; cases h; exact pfrz_live h1 k hk
      · cases h
  | .ag cs, O, O', φ, y, h, k, hk => by
    unfold parg at h
    split at h
    · rename_i h1; cases h; exact pargs_live h1 k hk
    · cases h
  | .bad, _, _, _, _, h, k, hk => by cases h; exact hk
  | .dv _, _, _, _, _, h, k, hk => by cases h; exact hk
  | .pt _ _, _, _, _, _, h, k, hk => by cases h; exact hk
  | .ld _, _, _, _, _, h, k, hk => by cases h; exact hk
  | .tup _, _, _, _, _, h, k, hk => by cases h; exact hk
  | .fn _ _ _, _, _, _, _, h, k, hk => by cases h; exact hk
  | .ifc _ _, _, _, _, _, h, k, hk => by cases h; exact hk
end

theorem callD_ok (h : StB F p s B Z) {g : FuncId} {as : List PV} {vs : List Value} (hall : RVL s.H Z B as vs) {K : List Nat → PV → PS → Prop} (hw : wpcallD C g as p K) :
    ∃ v H' x p' ks B' Z', evw C (.call g vs s.H) = some (.ret v H') ∧ StB F p' { s with H := H' } B' Z' ∧ RV H' Z' B' x v ∧ K ks x p' ∧ (p'.tm = p.tm ∧ p'.nt = p.nt) ∧ (∃ D, B' = B ++ D) ∧ s.H.size ≤ H'.size ∧
      (∀ b, b < s.H.size → H'[b]? ≠ s.H[b]? → ∃ k oo, k ∈ ks ∧ Live p.ob k ∧ B[k]? = some (some (b, oo))) ∧ (∀ b c st, Z b → s.H[b]? = some (.cells c st) → Z' b) := by
  rcases hw with ⟨ks, R, hn, hks, hw⟩ | ⟨R, hw⟩
  · split at hw
    · rename_i φ O' as' hpa
      obtain ⟨q1, q2, q3, q4⟩ := hw
      obtain ⟨Z1, r1, r2, r3, r4⟩ := pargs_ok h hall hpa q1
      obtain ⟨x, os', v, H', B', Z', t1, t2, t3, t4, t5, t6, t7⟩ := call_ok r1 hn (fun k hk => by simp only [r4]; exact hks k hk) r2 q2
      rcases t1 with ⟨t1, t8⟩ | ⟨t1, t8⟩
      · exact ⟨v, H', _, _, ks, B', Z', t1, t2, t3, q3 x os' t8, ⟨rfl, rfl⟩, t4, t5, (fun b hb hne => let ⟨k, oo, u1, u2, u3⟩ := t6 b hb hne; ⟨k, oo, u1, pargs_live hpa k u2, u3⟩), fun b c st hb hc => t7 b c st (r3 b hb) hc⟩
      · exact absurd t8 (q4 x os')
    · exact hw.elim
  · split at hw
    · rename_i φ as' hpa
      obtain ⟨q1, q2, q3, q4⟩ := hw
      have hl := plend_ok h hall hpa q1
      have hl2 := hl.ren (f := fun _ => none) (B' := []) (fun k j y h => by cases h)
      obtain ⟨x, os', v, H', B', Z', t1, t2, t3⟩ := q2 s.H (fun _ => True) [] _ ⟨rfl, fun k o h => by simp at h, fun j k b o1 o2 ⟨o, h1, _⟩ => by simp at h1, fun k b o ⟨o', h1, _⟩ => by simp at h1⟩ hl2
      have hX : ∀ b, ¬ Xof [] [] b := by rintro b ⟨k, o, ⟨o', h1, _⟩, _⟩; simp at h1
      rcases t1 with ⟨t1, t4⟩ | ⟨t1, t4⟩
      · obtain ⟨d0, d2⟩ := q3 x os' t4
        have hsame : ∀ b, b < s.H.size → H'[b]? = s.H[b]? := fun b hb => t2.old b hb (hX b)
        have hj : StB F p { s with H := H' } B Z := h.junk t2.sz fun b hb hne => absurd (hsame b hb) hne
        have hxs : RV H' Z B x v := by
          have one : ∀ {y : PV} {w : Value}, (match y with | .dv (.sc _) => true | _ => false) = true → RV H' Z' B' y w → RV H' Z B y w := by
            intro y w hy hr
            cases hr with
            | dv hd => cases hd with
              | sc hf => exact .dv (.sc hf)
              | _ => cases hy
            | _ => cases hy
          cases t3 with
          | dv hd => cases hd with
            | sc hf => exact .dv (.sc hf)
            | _ => cases d0
          | tup h1 h2 =>
            refine .tup h1 fun i y w hy hw => one ?_ (h2 i y w hy hw)
            exact List.all_eq_true.1 d0 _ (List.mem_of_getElem? hy)
          | ag h1 h2 =>
            refine .ag h1 fun i y w hy hw => one ?_ (h2 i y w hy hw)
            exact List.all_eq_true.1 d0 _ (List.mem_of_getElem? hy)
          | _ => cases d0
        exact ⟨v, H', x, p, [], B, Z, t1, hj, hxs, d2, ⟨rfl, rfl⟩, ⟨[], by simp⟩, t2.sz, (fun b hb hne => absurd (hsame b hb) hne), fun _ _ _ hb _ => hb⟩
      · exact absurd t4 (q4 x os')
    · exact hw.elim

theorem aout_at {rec : Req → Option Rep} {a : Option Nat} {o : Oper} {ρ : Operand → Option Value} {H : AHeap} (h : isAlloc C.P o = false) : aout C rec a o ρ H = aout C rec none o ρ H := by
  simp only [aout, h, Bool.false_eq_true, if_false]

theorem preads_ok {st : List Nat} {H0 : AHeap} {Z0 : Nat → Prop} {B0 : Blks} (h : StB F p s B Z) (hst : ∀ x y v, statO st x = true → pev p.tm x = some y → aeval C.G s.tmps x = some v → RV H0 Z0 B0 y v)
    {o : Oper} {r : Prop × PV} (hp : pl C.P (pev p.tm) p.ob o = some r) :
    match preads st (pev p.tm) o with
      | .other => areads (aeval C.G s.tmps) o = none
      | .read (some k) => areads (aeval C.G s.tmps) o = none ∨ ∃ b full oo c st, areads (aeval C.G s.tmps) o = some (b, full) ∧ B[k]? = some (some (b, oo)) ∧ s.H[b]? = some (.cells c st)
      | .read none => areads (aeval C.G s.tmps) o = none ∨ ∃ b full c st, areads (aeval C.G s.tmps) o = some (b, full) ∧ Z b ∧ s.H[b]? = some (.cells c st)
      | .readS => areads (aeval C.G s.tmps) o = none ∨ ∃ b full c st, areads (aeval C.G s.tmps) o = some (b, full) ∧ Z0 b ∧ H0[b]? = some (.cells c st)
      | _ => False := by
  have hg := pev_ok (C := C) h
  have vw : ∀ {k b oo : Nat} {z : Nat} {cs : List DV}, (p.ob[k]? = some (.row z cs) ∨ p.ob[k]? = some (.fro z cs)) → B[k]? = some (some (b, oo)) → ∃ c st, s.H[b]? = some (.cells c st) := by
    intro k b oo z cs hk hb
    refine there_cells h (k := k) (oo := oo) ?_ hb
    unfold there
    rcases hk with hk | hk <;> rw [hk]
  obtain ⟨dst, op, type, pos, after, guard⟩ := o
  cases op with
  | load t a =>
    simp only [preads, areads]
    simp only [pl, Option.bind_eq_some_iff] at hp
    obtain ⟨x, h1, h2⟩ := hp
    obtain ⟨v, e1, e2⟩ := hg a x h1
    simp only [h1, e1]
    cases e2 with
    | pt f1 =>
      rename_i k off b oo
      have hth : there p.ob k = true := by
        unfold there
        simp only [pLoad] at h2
        split at h2
        · split at h2 <;> first | (rename_i hk; rw [hk]) | cases h2
        · split at h2 <;> first | (rename_i hk; rw [hk]) | cases h2
        · cases h2
      obtain ⟨c, st', hc⟩ := there_cells h hth f1
      exact .inr ⟨b, true, oo, c, st', rfl, f1, hc⟩
    | ld f1 f2 f3 f4 f5 =>
      simp only
      by_cases hs : statO st a = true
      · rw [if_pos hs]
        have := hst a _ _ hs h1 e1
        cases this with | ld g1 g2 g3 g4 g5 => exact .inr ⟨_, true, _, _, rfl, g1, g2⟩
      · rw [if_neg hs]
        exact .inr ⟨_, true, _, _, rfl, f1, f2⟩
    | _ => cases h2
  | convert s' d x =>
    simp only [preads, areads]
    simp only [pl] at hp
    split at hp
    · rename_i hs
      unfold isSc at hs
      split at hs
      · rename_i w hx
        obtain ⟨v, e1, e2⟩ := hg x _ hx
        simp only [hx, e1]
        cases e2 with | dv hd => cases hd with | sc hf =>
        split
        · rename_i a n c heq
          cases heq
          simp [free, freeN] at hf
        · rfl
      · cases hs
    · rw [Option.bind_eq_some_iff] at hp
      obtain ⟨y, h1, h2⟩ := hp
      obtain ⟨v, e1, e2⟩ := hg x y h1
      simp only [h1, e1]
      cases e2 with
      | ow f1 f2 =>
        rename_i k off n b oo c
        have hth : ∃ c st, s.H[b]? = some (.cells c st) := by
          simp only [pConv] at h2
          split at h2
          · split at h2
            · split at h2
              · rename_i hv
                unfold pview at hv
                split at hv
                · rename_i hk; exact vw (.inl hk) f1
                · rename_i hk; exact vw (.inr hk) f1
                · cases hv
              · cases h2
            · cases h2
          · cases h2
        obtain ⟨c', st', hc⟩ := hth
        exact .inr ⟨_, true, _, _, _, rfl, f1, hc⟩
      | ow0 f1 => exact .inl rfl
      | dv hd => cases hd with
        | sl g1 g2 g3 g4 g5 g6 g7 g8 =>
          simp only
          by_cases hs : statO st x = true
          · rw [if_pos hs]
            have := hst x _ _ hs h1 e1
            cases this with | dv hd2 => cases hd2 with | sl q1 q2 q3 q4 q5 q6 q7 q8 => exact .inr ⟨_, true, _, _, rfl, q1, q2⟩
          · rw [if_neg hs]
            exact .inr ⟨_, true, _, _, rfl, g1, g2⟩
        | nil =>
          simp only
          by_cases hs : statO st x = true
          · simp [hs]
          · simp [hs]
        | _ => cases h2
      | _ => cases h2
  | slice t x lo hi mx =>
    simp only [preads, areads]
    simp only [pl, Option.bind_eq_some_iff] at hp
    obtain ⟨y, h1, h2⟩ := hp
    obtain ⟨v, e1, e2⟩ := hg x y h1
    simp only [h1, e1]
    cases e2 with
    | ow f1 f2 =>
      rename_i k off n b oo c
      have hth : ∃ c st, s.H[b]? = some (.cells c st) := by
        simp only [pSlice] at h2
        split at h2
        · rename_i hk; exact vw (.inl hk) f1
        · rename_i hk; exact vw (.inr hk) f1
        · cases h2
      obtain ⟨c', st', hc⟩ := hth
      exact .inr ⟨_, false, _, _, _, rfl, f1, hc⟩
    | ow0 f1 => exact .inl rfl
    | dv hd => cases hd with
      | sl g1 g2 g3 g4 g5 g6 g7 g8 =>
        simp only
        by_cases hs : statO st x = true
        · rw [if_pos hs]
          have := hst x _ _ hs h1 e1
          cases this with | dv hd2 => cases hd2 with | sl q1 q2 q3 q4 q5 q6 q7 q8 => exact .inr ⟨_, false, _, _, rfl, q1, q2⟩
        · rw [if_neg hs]
          exact .inr ⟨_, false, _, _, rfl, g1, g2⟩
      | nil =>
        simp only
        by_cases hs : statO st x = true
        · simp [hs]
        · simp [hs]
      | sc hf =>
        simp only
        cases v with
        | slice a n c => cases a with
          | none => rfl
          | some a => simp [free, freeN] at hf
        | pointer a => cases a with
          | none => rfl
          | some a => simp [free, freeN] at hf
        | _ => rfl
      | _ => cases h2
    | _ => cases h2
  | _ => simp only [preads, areads]

theorem aload_same {P : Program} {H H' : AHeap} {t : TypeId} {b o : Nat} (h : H'[b]? = H[b]?) : aload P H' t ⟨b, o, none⟩ = aload P H t ⟨b, o, none⟩ := by
  unfold aload AHeap.cells? AHeap.cell?
  rw [h]

/-- What comes of static slots alone is static. -/
theorem isStat_ok {st : List Nat} {H0 : AHeap} {Z0 : Nat → Prop} {B0 : Blks} (h : StB F p s B Z) (hst : ∀ x y v, statO st x = true → pev p.tm x = some y → aeval C.G s.tmps x = some v → RV H0 Z0 B0 y v)
    (hz : ∀ b c st, Z0 b → H0[b]? = some (.cells c st) → s.H[b]? = some (.cells c st)) {o : Oper} (hs : isStat st (pev p.tm) o = true) {φ : Prop} {y : PV} (hp : pl C.P (pev p.tm) p.ob o = some (φ, y)) (hφ : φ) {v : Value}
    (hv : alight C.P (aeval C.G s.tmps) s.H o = some v) : RV H0 Z0 B0 y v := by
  let g' : Operand → Option PV := fun x => if statO st x then pev p.tm x else none
  have hg' : ∀ x y, g' x = some y → ∃ v, aeval C.G s.tmps x = some v ∧ RV H0 Z0 B0 y v := by
    intro x y hx
    simp only [g'] at hx
    split at hx
    · rename_i hso
      obtain ⟨v, e1, _⟩ := pev_ok (C := C) h x y hx
      exact ⟨v, e1, hst x y v hso hx e1⟩
    · cases hx
  have hO' : ∀ (k : Nat) o, ([] : List Ob)[k]? = some o → OkOb H0 Z0 B0 k o := fun k o h => by simp at h
  have fin : pl C.P g' [] o = some (φ, y) → (∀ w, alight C.P (aeval C.G s.tmps) H0 o = some w → w = v) → RV H0 Z0 B0 y v := by
    intro h1 h2
    obtain ⟨w, e1, e2⟩ := pl_ok hO' hg' h1 hφ
    rw [← h2 w e1]; exact e2
  obtain ⟨dst, op, type, pos, after, guard⟩ := o
  unfold isStat at hs
  split at hs
  · rename_i x hop
    simp only at hop; subst hop
    exact fin (by simp only [pl, g', hs, if_true] at hp ⊢; exact hp) (fun w hw => by simp only [alight] at hv hw; rw [hv] at hw; cases hw; rfl)
  · rename_i x hop
    simp only at hop; subst hop
    exact fin (by simp only [pl, g', hs, if_true] at hp ⊢; exact hp) (fun w hw => by simp only [alight] at hv hw; rw [hv] at hw; cases hw; rfl)
  · rename_i t x f hop
    simp only at hop; subst hop
    exact fin (by simp only [pl, g', hs, if_true] at hp ⊢; exact hp) (fun w hw => by simp only [alight] at hv hw; rw [hv] at hw; cases hw; rfl)
  · rename_i t x i hop
    simp only at hop; subst hop
    simp only [Bool.and_eq_true] at hs
    exact fin (by simp only [pl, g', hs.1, hs.2, if_true] at hp ⊢; exact hp) (fun w hw => by simp only [alight] at hv hw; rw [hv] at hw; cases hw; rfl)
  · rename_i t x hop
    simp only at hop; subst hop
    simp only [Bool.and_eq_true] at hs
    obtain ⟨hs1, hs2⟩ := hs
    unfold isLd at hs2
    split at hs2
    · rename_i cs hx
      refine fin (by simp only [pl, g', hs1, if_true, hx, Option.bind_some] at hp ⊢; exact hp) fun w hw => ?_
      obtain ⟨u, e1, _⟩ := pev_ok (C := C) h x _ hx
      have hr := hst x _ u hs1 hx e1
      cases hr with
      | ld q1 q2 q3 q4 q5 =>
        simp only [alight, e1] at hv hw
        rename_i b oo vs st' _
        have hsame : aload C.P H0 t ⟨b, oo, none⟩ = aload C.P s.H t ⟨b, oo, none⟩ := aload_same (by rw [hz _ _ _ q1 q2, q2])
        rw [hsame, hv] at hw
        cases hw; rfl
    · cases hs2
  · cases hs

/-- The facts, one operation after the other. -/
inductive Run (C : Ctx) (F : Fr) (ops : Array Oper) (base N : Nat) (s0 : ASt) (Z0 : Nat → Prop) : Nat → Blks → (Nat → Prop) → List (PS × Ev) → List ASt → Prop where
  | nil {i : Nat} {s : ASt} {B : Blks} {Z : Nat → Prop} : Run C F ops base N s0 Z0 i B Z [] [s]
  | cons {i : Nat} {p : PS} {ev : Ev} {s s' : ASt} {log : List (PS × Ev)} {tr : List ASt} {B B' : Blks} {Z Z' : Nat → Prop} : Fact C F ops base N s0 Z0 i p ev s s' B B' Z Z' → Run C F ops base N s0 Z0 (i + 1) B' Z' log (s' :: tr) →
      Run C F ops base N s0 Z0 i B Z ((p, ev) :: log) (s :: s' :: tr)

theorem Run.get {ops : Array Oper} {base N : Nat} {s0 : ASt} {Z0 : Nat → Prop} : ∀ {j i : Nat} {B : Blks} {Z : Nat → Prop} {log : List (PS × Ev)} {s : ASt} {tr : List ASt} {p : PS} {ev : Ev}, Run C F ops base N s0 Z0 i B Z log (s :: tr) → log[j]? = some (p, ev) →
    ∃ sj sj' Bj Bj' Zj Zj', (s :: tr)[j]? = some sj ∧ (s :: tr)[j + 1]? = some sj' ∧ Fact C F ops base N s0 Z0 (i + j) p ev sj sj' Bj Bj' Zj Zj' ∧ (∃ D, Bj = B ++ D) ∧ (∀ b c st, Z b → s.H[b]? = some (.cells c st) → Zj b ∧ sj.H[b]? = some (.cells c st))
  | _, _, _, _, _, _, _, _, _, .nil, h => by simp at h
  | 0, i, B, Z, _, s, _, p, ev, .cons (s' := s') hf hr, h => by
    simp at h
    obtain ⟨rfl, rfl⟩ := h
    exact ⟨s, s', _, _, _, _, rfl, rfl, hf, ⟨[], by simp⟩, fun b c st hb hc => ⟨hb, hc⟩⟩
  | j + 1, i, B, Z, _, s, _, p, ev, .cons (s' := s') hf hr, h => by
    simp at h
    obtain ⟨sj, sj', Bj, Bj', Zj, Zj', e1, e2, e3, ⟨D, e4⟩, e5⟩ := Run.get hr h
    obtain ⟨D', e6⟩ := hf.pre
    refine ⟨sj, sj', Bj, Bj', Zj, Zj', by simpa using e1, by simpa using e2, by rw [show i + (j + 1) = i + 1 + j by omega]; exact e3, ⟨D' ++ D, by rw [e4, e6, List.append_assoc]⟩, fun b c st hb hc => ?_⟩
    have := hf.zmono b c st hb hc
    exact e5 b c st this.1 this.2

/-- Two of them, one ahead of the other. -/
theorem Run.two {ops : Array Oper} {base N : Nat} {s0 : ASt} {Z0 : Nat → Prop} : ∀ {j h i : Nat} {B : Blks} {Z : Nat → Prop} {log : List (PS × Ev)} {s : ASt} {tr : List ASt} {p q : PS} {ev ew : Ev}, Run C F ops base N s0 Z0 i B Z log (s :: tr) → j < h → log[j]? = some (p, ev) → log[h]? = some (q, ew) →
    ∃ sj sj' Bj Bj' Zj Zj' sh sh' Bh Bh' Zh Zh', (s :: tr)[j]? = some sj ∧ (s :: tr)[j + 1]? = some sj' ∧ Fact C F ops base N s0 Z0 (i + j) p ev sj sj' Bj Bj' Zj Zj' ∧
      (s :: tr)[h]? = some sh ∧ (s :: tr)[h + 1]? = some sh' ∧ Fact C F ops base N s0 Z0 (i + h) q ew sh sh' Bh Bh' Zh Zh' ∧ (∃ D, Bh = Bj' ++ D) ∧ (∀ b c st, Zj' b → sj'.H[b]? = some (.cells c st) → Zh b ∧ sh.H[b]? = some (.cells c st))
  | _, _, _, _, _, _, _, _, _, _, _, _, .nil, _, h, _ => by simp at h
  | 0, 0, _, _, _, _, _, _, _, _, _, _, .cons hf hr, hlt, h1, h2 => by omega
  | 0, h + 1, i, B, Z, _, s, _, p, q, ev, ew, .cons (s' := s') hf hr, hlt, h1, h2 => by
    simp at h1 h2
    obtain ⟨rfl, rfl⟩ := h1
    obtain ⟨sj, sj', Bj, Bj', Zj, Zj', e1, e2, e3, e4, e5⟩ := Run.get hr h2
    exact ⟨s, s', _, _, _, _, sj, sj', Bj, Bj', Zj, Zj', rfl, rfl, hf, by simpa using e1, by simpa using e2, by rw [show i + (h + 1) = i + 1 + h by omega]; exact e3, e4, e5⟩
  | j + 1, 0, _, _, _, _, _, _, _, _, _, _, .cons hf hr, hlt, h1, h2 => by omega
  | j + 1, h + 1, i, B, Z, _, s, _, p, q, ev, ew, .cons (s' := s') hf hr, hlt, h1, h2 => by
    simp at h1 h2
    obtain ⟨sj, sj', Bj, Bj', Zj, Zj', sh, sh', Bh, Bh', Zh, Zh', e1, e2, e3, e4, e5, e6, e7, e8⟩ := Run.two hr (by omega) h1 h2
    exact ⟨sj, sj', Bj, Bj', Zj, Zj', sh, sh', Bh, Bh', Zh, Zh', by simpa using e1, by simpa using e2, by rw [show i + (j + 1) = i + 1 + j by omega]; exact e3, by simpa using e4, by simpa using e5, by rw [show i + (h + 1) = i + 1 + h by omega]; exact e6, e7, e8⟩
end
end Go.Eng
