import Derived.WalkKit
set_option linter.all false
/- THE PURE SIDE: types and data, abstract values, objects, the abstract interpreter. -/
universe u
namespace Go.Lift

inductive Ty where
  | int (k : IntKind) | bool | str
  /-- an immutable slice; q = 1: its capacity is its length; q = 2: it is not nil; q = 3: it is nil -/
  | slice (q : Nat) (e : Ty)
  | nil | cons (a b : Ty) | arr (n : Nat) (e : Ty) | any
  /-- a slice, a pointer or a map: the object id -/
  | ref (id : Nat)
  /-- a nil pointer (false), a nil map (true) -/
  | nilp (m : Bool)
  /-- a pointer to an immutable datum, or nil -/
  | iptr (e : Ty)
  /-- a pointer to an immutable datum -/
  | atl (e : Ty)
  /-- a closure over these -/
  | fn (f : FuncId) (caps : Ty)
  deriving DecidableEq

def kindBeq : IntKind → IntKind → Bool
  | .i8, .i8 | .i16, .i16 | .i32, .i32 | .i64, .i64 | .u8, .u8 | .u16, .u16 | .u32, .u32 | .u64, .u64 => true
  | _, _ => false

def boolBeq : Bool → Bool → Bool
  | true, true | false, false => true
  | _, _ => false

def Ty.beq : Ty → Ty → Bool
  | .int k, .int k' => kindBeq k k'
  | .bool, .bool => true
  | .str, .str => true
  | .slice q a, .slice q' b => Nat.beq q q' && a.beq b
  | .nil, .nil => true
  | .cons a b, .cons c d => a.beq c && b.beq d
  | .arr n a, .arr m b => Nat.beq n m && a.beq b
  | .any, .any => true
  | .ref i, .ref j => Nat.beq i j
  | .nilp a, .nilp b => boolBeq a b
  | .iptr a, .iptr b => a.beq b
  | .atl a, .atl b => a.beq b
  | .fn f a, .fn g b => Nat.beq f g && a.beq b
  | _, _ => false

theorem kindBeq_eq {a b : IntKind} (h : kindBeq a b = true) : a = b := by cases a <;> cases b <;> first | rfl | cases h
theorem boolBeq_eq {a b : Bool} (h : boolBeq a b = true) : a = b := by cases a <;> cases b <;> first | rfl | cases h

theorem Ty.beq_eq : ∀ {a b : Ty}, a.beq b = true → a = b := by
  intro a
  induction a with
  | int k => intro b h; cases b <;> simp [Ty.beq] at h; rw [kindBeq_eq h]
  | slice q e ih => intro b h; cases b <;> simp [Ty.beq] at h; rw [ih h.2, h.1]
  | cons x y ihx ihy => intro b h; cases b <;> simp [Ty.beq] at h; rw [ihx h.1, ihy h.2]
  | arr n e ih => intro b h; cases b <;> simp [Ty.beq] at h; rw [ih h.2, h.1]
  | ref i => intro b h; cases b <;> simp [Ty.beq] at h; rw [h]
  | nilp i => intro b h; cases b <;> simp [Ty.beq] at h; rw [boolBeq_eq h]
  | iptr e ih => intro b h; cases b <;> simp [Ty.beq] at h; rw [ih h]
  | atl e ih => intro b h; cases b <;> simp [Ty.beq] at h; rw [ih h]
  | fn f e ih => intro b h; cases b <;> simp [Ty.beq] at h; rw [ih h.2, h.1]
  | _ => intro b h; cases b <;> first | rfl | simp [Ty.beq] at h

@[reducible] def Ty.den : Ty → Type
  | .int _ => Int
  | .bool => Bool
  | .str => List UInt8
  | .slice _ e => List e.den
  | .nil => Unit
  | .cons a b => a.den × b.den
  | .arr _ e => List e.den
  | .any => Unit
  | .ref _ => Unit
  | .nilp _ => Unit
  | .iptr e => Option e.den
  | .atl e => e.den
  | .fn _ caps => caps.den

def Ty.zero : (t : Ty) → t.den
  | .int _ => (0 : Int)
  | .bool => false
  | .str => []
  | .slice _ _ => []
  | .nil => ()
  | .cons a b => (a.zero, b.zero)
  | .arr n e => List.replicate n e.zero
  | .any => ()
  | .ref _ => ()
  | .nilp _ => ()
  | .iptr _ => none
  | .atl e => e.zero
  | .fn _ c => c.zero

def Ty.size : Ty → Nat
  | .nil => 0
  | .cons a b => a.size + b.size
  | .arr n e => n * e.size
  | _ => 1

def Ty.isAgg : Ty → Bool
  | .nil | .cons _ _ | .arr _ _ => true
  | _ => false

/-- Without objects. -/
def Ty.pure : Ty → Bool
  | .ref _ => false
  | .cons a b => a.pure && b.pure
  | .arr _ e => e.pure
  | .fn _ c => c.pure
  | _ => true

/-- Without objects, and without slices that are known to be nil. -/
def Ty.settled : Ty → Bool
  | .ref _ => false
  | .slice q _ => Nat.beq q 0
  | .cons a b => a.settled && b.settled
  | .arr _ e => e.settled
  | .fn _ c => c.settled
  | _ => true

/-- Holds no memory: a copy shares nothing. -/
def Ty.scalar : Ty → Bool
  | .slice _ _ | .ref _ | .iptr _ | .atl _ => false
  | .cons a b => a.scalar && b.scalar
  | .arr _ e => e.scalar
  | .fn _ c => c.scalar
  | _ => true

/-- Scalars and objects. -/
def Ty.lone : Ty → Bool
  | .slice _ _ | .iptr _ | .atl _ => false
  | .cons a b => a.lone && b.lone
  | .arr _ e => e.scalar
  | .fn _ c => c.lone
  | _ => true

/-- Where the cells of its parts lie. -/
def Ty.shape : Ty → Ty
  | .nil => .nil
  | .cons a b => .cons a.shape b.shape
  | .arr n e => .arr n e.shape
  | _ => .any

/-- Without data. -/
def Ty.void : Ty → Bool
  | .ref _ | .nilp _ | .nil | .any => true
  | .fn _ c => c.void
  | _ => false

/-- The objects that it names. -/
def Ty.ids : Ty → List Nat
  | .ref i => [i]
  | .cons a b => a.ids ++ b.ids
  | .fn _ c => c.ids
  | _ => []

/-- No elements. -/
@[reducible] def nilOf (α : Type) : List α := []

structure Dat where
  t : Ty
  x : t.den

inductive Stp where
  | fld (k : Nat) | idx (i : Nat)

def fldD : (t : Ty) → t.den → Nat → Option Dat
  | .cons a _, x, 0 => some ⟨a, x.1⟩
  | .cons _ b, x, k + 1 => fldD b x.2 k
  | _, _, _ => none

/-- The k-th field replaced, perhaps by a value of another type. -/
def setFld : (t : Ty) → t.den → Nat → Dat → Option Dat
  | .cons _ b, x, 0, y => some ⟨.cons y.t b, (y.x, x.2)⟩
  | .cons a b, x, k + 1, y => match setFld b x.2 k y with
    | some z => some ⟨.cons a z.t, (x.1, z.x)⟩
    | none => none
  | _, _, _, _ => none

def elemD : (t : Ty) → t.den → Nat → Option Dat
  | .arr _ e, l, i => some ⟨e, l.getD i e.zero⟩
  | _, _, _ => none

def setElem : (t : Ty) → t.den → Nat → Dat → Option Dat
  | .arr n e, l, i, y => if h : y.t.beq e = true then some ⟨.arr n e, List.set (α := e.den) l i (Ty.beq_eq h ▸ y.x)⟩ else none
  | _, _, _, _ => none

def Dat.as (d : Dat) (t : Ty) : Option t.den := if h : d.t.beq t = true then some (Ty.beq_eq h ▸ d.x) else none

def Dat.get : Dat → List Stp → Option Dat
  | d, [] => some d
  | d, .fld k :: p => match fldD d.t d.x k with
    | some z => z.get p
    | none => none
  | d, .idx i :: p => match elemD d.t d.x i with
    | some z => z.get p
    | none => none

def Dat.set : Dat → List Stp → Dat → Option Dat
  | _, [], y => some y
  | d, .fld k :: p, y => match fldD d.t d.x k with
    | some z => match z.set p y with
      | some z' => setFld d.t d.x k z'
      | none => none
    | none => none
  | d, .idx i :: p, y => match elemD d.t d.x i with
    | some z => match z.set p y with
      | some z' => setElem d.t d.x i z'
      | none => none
    | none => none

/-- What is put into memory is a slice like any other (or nil). -/
def Dat.plain : Dat → Dat
  | ⟨.slice 3 e, x⟩ => ⟨.slice 3 e, x⟩
  | ⟨.slice _ e, x⟩ => ⟨.slice 0 e, x⟩
  | z => z

/-- The type of its zero value: slices are nil. -/
def Ty.zt : Ty → Ty
  | .slice _ e => .slice 3 e
  | .cons a b => .cons a.zt b.zt
  | t => t

inductive AV where
  | undef
  | d (t : Ty) (x : t.den)
  /-- a pointer into the box id, whose datum is of type t -/
  | ptr (id : Nat) (t : Ty) (p : List Stp)
  /-- a pointer into the i-th element of the slice id -/
  | eptr (id : Nat) (e : Ty) (i : Nat) (q : List Stp)
  /-- the part from a to b of the slice id -/
  | sub (id : Nat) (e : Ty) (a b : Nat)
  | tup (vs : List AV)
  | nilS

inductive Ob where
  | gone
  | box (T : TypeId) (t : Ty) (x : t.den)
  | vec (T : TypeId) (e : Ty) (l : List e.den)
  | ibox (t : Ty) (x : t.den)
  | ivec (e : Ty) (l : List e.den)
  | map (k e : Ty) (l : List (k.den × e.den))

abbrev Env := List (Nat × AV)
abbrev Sto := List (Nat × Ob)

structure St where
  env : Env
  args : List AV
  σ : Sto
  nx : Nat

def lk : Env → Nat → AV
  | [], _ => .undef
  | (j, v) :: env, i => bif Nat.beq j i then v else lk env i

def lkO : Sto → Nat → Ob
  | [], _ => .gone
  | (j, v) :: σ, i => bif Nat.beq j i then v else lkO σ i

def St.put (s : St) (d : Option Tmp) (v : AV) : St :=
  match d with
  | some d => { s with env := (d, v) :: s.env }
  | none => s

/-- A new object, which comes to lie in slot d. -/
def St.new (s : St) (d : Option Tmp) (ob : Ob) : St :=
  ({ s with σ := (s.nx, ob) :: s.σ, nx := s.nx + 1 } : St).put d (.d (.ref s.nx) ())

def St.setO (s : St) (id : Nat) (ob : Ob) : St := { s with σ := (id, ob) :: s.σ }

def constAV : Value → AV
  | .int k n => .d (.int k) n
  | .bool b => .d .bool b
  | .string s => .d .str s.data.toList
  | .slice none 0 0 => .nilS
  | .pointer none => .d (.nilp false) ()
  | .map none => .d (.nilp true) ()
  | _ => .undef

def ev (s : St) : Operand → AV
  | .tmp t => lk s.env t
  | .const v => constAV v
  | .func f => .d (.fn f .nil) ()
  | .global _ => .undef

def AV.bool? : AV → Option Bool
  | .d .bool b => some b
  | _ => none

def memN (n : Nat) : List Nat → Bool
  | [] => false
  | m :: l => Nat.beq m n || memN n l

/-- How deep data may be nested in objects. -/
def DEPTH : Nat := 6

/-- The datum with its objects read (by rec). -/
def purW (rec : Nat → Option Dat) : (t : Ty) → t.den → Option Dat
  | .cons a b, x => bif (Ty.cons a b).settled then some ⟨.cons a b, x⟩ else match purW rec a x.1, purW rec b x.2 with
    | some u, some v => some ⟨.cons u.t v.t, (u.x, v.x)⟩
    | _, _ => none
  | .fn f c, x => match purW rec c x with
    | some u => some ⟨.fn f u.t, u.x⟩
    | none => none
  | .ref i, _ => rec i
  | .arr n e, x => bif e.settled then some ⟨.arr n e, x⟩ else none
  | .slice _ e, x => some ⟨.slice 0 e, x⟩
  | t, x => some ⟨t, x⟩

def purI (σ : Sto) : Nat → Nat → Option Dat
  | 0, _ => none
  | n + 1, i => match lkO σ i with
    | .box _ t x => match purW (purI σ n) t x with
      | some u => some ⟨.atl u.t, u.x⟩
      | none => none
    | .ibox t x => some ⟨.atl t, x⟩
    | .vec _ e l => some ⟨.slice 0 e, l⟩
    | .ivec e l => some ⟨.slice 0 e, l⟩
    | _ => none

/-- The datum with its objects read as they are now. -/
def purify (σ : Sto) (t : Ty) (x : t.den) : Option Dat := purW (purI σ DEPTH) t x

def rchW (rec : Nat → List Nat) : Ty → List Nat
  | .cons a b => rchW rec a ++ rchW rec b
  | .fn _ c => rchW rec c
  | .ref i => rec i
  | _ => []

def rchI (σ : Sto) : Nat → Nat → List Nat
  | 0, i => [i]
  | n + 1, i => i :: (match lkO σ i with
    | .box _ t _ => rchW (rchI σ n) t
    | _ => [])

/-- The objects that a type leads to. -/
def reach (σ : Sto) (t : Ty) : List Nat := rchW (rchI σ DEPTH) t

/-- What a value reads as now. -/
def viewA (σ : Sto) : AV → Option Dat
  | .d t x => purify σ t x
  | .ptr i t p => match purI σ DEPTH i with
    | some ⟨.atl t', x⟩ => match (Dat.mk t' x).get p with
      | some z => bif t.shape.beq t'.shape && z.t.pure then some ⟨.atl z.t, z.x⟩ else none
      | none => none
    | _ => none
  | .sub i e' a b => match lkO σ i with
    | .vec _ e l => bif e'.beq e then some ⟨.slice 0 e, (l.take b).drop a⟩ else none
    | .ivec e l => bif e'.beq e then some ⟨.slice 0 e, (l.take b).drop a⟩ else none
    | _ => none
  | _ => none

/-- The objects that a value leads to. -/
def AV.reach (σ : Sto) : AV → List Nat
  | .d t _ => Lift.reach σ t
  | .ptr i _ _ => rchI σ DEPTH i
  | .eptr i _ _ _ => rchI σ DEPTH i
  | .sub i _ _ _ => [i]
  | _ => []

inductive Tgt where
  | obj (id : Nat) (t : Ty) (p : List Stp)
  | elem (id : Nat) (e : Ty) (i : Nat) (q : List Stp)
  | imm (t : Ty) (x : t.den)

/-- What a pointer points at. -/
def tgt (σ : Sto) : AV → Option Tgt
  | .d (.ref i) _ => match lkO σ i with
    | .box _ t _ => some (.obj i t [])
    | .ibox t _ => some (.obj i t [])
    | _ => none
  | .d (.atl t) x => some (.imm t x)
  | .ptr i t p => some (.obj i t p)
  | .eptr i e j q => some (.elem i e j q)
  | _ => none

/-- What lies at a target. -/
def tgtD (σ : Sto) : Tgt → Option Dat
  | .obj i t p => match lkO σ i with
    | .box _ t' x => bif t.shape.beq t'.shape then (Dat.mk t' x).get p else none
    | .ibox t' x => bif t.shape.beq t'.shape then (Dat.mk t' x).get p else none
    | _ => none
  | .elem i e j q => match lkO σ i with
    | .vec _ e' l => bif e.beq e' then (Dat.mk e' (l.getD j e'.zero)).get q else none
    | .ivec e' l => bif e.beq e' then (Dat.mk e' (l.getD j e'.zero)).get q else none
    | _ => none
  | .imm t x => some ⟨t, x⟩

/-- A datum is put into a target: the object that turns, and what it becomes. -/
def tgtSet (σ : Sto) (g : Tgt) (y : Dat) : Option (Nat × Ob) :=
  match g with
  | .obj i t p => match lkO σ i with
    | .box T t' x => bif t.shape.beq t'.shape then match (Dat.mk t' x).get p, (Dat.mk t' x).set p y with
        | some z, some o' => bif z.t.shape.beq y.t.shape then some (i, .box T o'.t o'.x) else none
        | _, _ => none
      else none
    | _ => none
  | .elem i e j q => match lkO σ i with
    | .vec T e' l => bif e.beq e' then match (Dat.mk e' (l.getD j e'.zero)).get q, (Dat.mk e' (l.getD j e'.zero)).set q y with
        | some z, some o' => bif z.t.shape.beq y.t.shape then match o'.as e' with
          | some x' => some (i, .vec T e' (List.set (α := e'.den) l j x'))
          | none => none
          else none
        | _, _ => none
      else none
    | _ => none
  | .imm _ _ => none

def Tgt.toAV : Tgt → AV
  | .obj i t p => .ptr i t p
  | .elem i e j q => .eptr i e j q
  | .imm t x => .d (.atl t) x

def Tgt.step (g : Tgt) (st : Stp) : Option Tgt :=
  match g with
  | .obj i t p => some (.obj i t (p ++ [st]))
  | .elem i e j q => some (.elem i e j (q ++ [st]))
  | .imm t x => match (Dat.mk t x).get [st] with
    | some z => some (.imm z.t z.x)
    | none => none

def lkF {α : Type u} (n : Nat) : List (Nat × α) → Option α
  | [] => none
  | (m, x) :: l => bif Nat.beq m n then some x else lkF n l

/-- What a function does: the arguments, the objects handed over, the next free name; behind it the result, the arguments' names, the objects, the next free name. -/
abbrev AFn := List AV → Sto → Nat → (R : Type) → (AV → List AV → Sto → Nat → Option R) → Option R

structure Fun where
  /-- true: the argument's objects are handed over; false: it is read as an immutable datum -/
  modes : List Bool
  /-- is it meant for these arguments -/
  fits : List AV → Sto → Bool
  run : AFn

structure Ctx where
  /-- the data type of a type number -/
  ty : TypeId → Option Ty
  /-- bytes of an element of a slice type -/
  bytes : TypeId → Nat
  /-- the type number of an element of a slice type -/
  elem : TypeId → TypeId
  /-- struct types of plain fields, whose values may be compared -/
  eqs : List TypeId
  /-- what the functions compute -/
  fns : List (FuncId × Fun)

end Go.Lift
