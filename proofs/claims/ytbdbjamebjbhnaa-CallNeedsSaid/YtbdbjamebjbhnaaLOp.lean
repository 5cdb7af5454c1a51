import Derived.Test.YtbdbjamebjbhnaaLDef
set_option linter.all false
/- ONE OPERATION. -/
namespace Go.Lift

/-- An operation on two integers of a kind: whether it goes well, and what it gives. -/
def binInt (op : BinOp) (k : IntKind) (a b : Int) : Option (Bool × Dat) :=
  match op with
  | .add => some (true, ⟨.int k, k.wrap (a + b)⟩)
  | .sub => some (true, ⟨.int k, k.wrap (a - b)⟩)
  | .mul => some (true, ⟨.int k, k.wrap (a * b)⟩)
  | .quo => some (b != 0, ⟨.int k, k.wrap (a.tdiv b)⟩)
  | .rem => some (b != 0, ⟨.int k, a.tmod b⟩)
  | .and => some (true, ⟨.int k, k.wrap (BitVec.ofInt k.bits a &&& BitVec.ofInt k.bits b).toNat⟩)
  | .or => some (true, ⟨.int k, k.wrap (BitVec.ofInt k.bits a ||| BitVec.ofInt k.bits b).toNat⟩)
  | .xor => some (true, ⟨.int k, k.wrap (BitVec.ofInt k.bits a ^^^ BitVec.ofInt k.bits b).toNat⟩)
  | .andNot => some (true, ⟨.int k, k.wrap (BitVec.ofInt k.bits a &&& ~~~ BitVec.ofInt k.bits b).toNat⟩)
  | .eql => some (true, ⟨.bool, a == b⟩)
  | .neq => some (true, ⟨.bool, a != b⟩)
  | .lss => some (true, ⟨.bool, decide (a < b)⟩)
  | .leq => some (true, ⟨.bool, decide (a ≤ b)⟩)
  | .gtr => some (true, ⟨.bool, decide (a > b)⟩)
  | .geq => some (true, ⟨.bool, decide (a ≥ b)⟩)
  | .shl => none
  | .shr => none

/-- Where the text says that the operation goes well. -/
def sureInt (op : BinOp) (y : Operand) (g : Bool) : Bool :=
  match op, y with
  | .quo, .const (.int _ n) => bif n == 0 then g else true
  | .rem, .const (.int _ n) => bif n == 0 then g else true
  | _, _ => g

def shInt (op : BinOp) (k : IntKind) (a b : Int) : Option (Bool × Dat) :=
  match op with
  | .shl => some (decide (0 ≤ b), ⟨.int k, k.wrap (a * 2 ^ (min b.toNat k.bits))⟩)
  | .shr => some (decide (0 ≤ b), ⟨.int k, a.fdiv (2 ^ (min b.toNat k.bits))⟩)
  | _ => none

def isShift : BinOp → Bool
  | .shl | .shr => true
  | _ => false

def binStr (op : BinOp) (a b : List UInt8) : Option Dat :=
  match op with
  | .add => some ⟨.str, a ++ b⟩
  | .eql => some ⟨.bool, a == b⟩
  | .neq => some ⟨.bool, !(a == b)⟩
  | _ => none

/-- Equality of plain data, as the model's walk through the fields gives it. -/
def eqD : (t : Ty) → t.den → t.den → Option Bool
  | .int _, (a : Int), (b : Int) => some (a == b)
  | .bool, (a : Bool), (b : Bool) => some (a == b)
  | .str, (a : List UInt8), (b : List UInt8) => some (a == b)
  | .nil, _, _ => some true
  | .cons t u, a, b => match eqD t a.1 b.1, eqD u a.2 b.2 with
    | some p, some q => some (p && q)
    | _, _ => none
  | _, _, _ => none

/-- '==' on two data: whether it goes well (no string too long), and what it gives. -/
def binDat (op : BinOp) (a b : Dat) : Option (Bool × Dat) :=
  match a, b with
  | ⟨.int k, x⟩, ⟨.int k', y⟩ => bif isShift op then shInt op k x y else bif kindBeq k k' then binInt op k x y else none
  | ⟨.str, x⟩, ⟨.str, y⟩ => match binStr op x y with
    | some z => some (match op with | .add => decide (x.length + y.length ≤ 9223372036854775807) | _ => true, z)
    | none => none
  | ⟨t, x⟩, ⟨u, y⟩ => match (Dat.mk t x).as u with
    | some x => match eqD u x y with
      | some q => match op with
        | .eql => some (true, ⟨.bool, q⟩)
        | .neq => some (true, ⟨.bool, !q⟩)
        | _ => none
      | none => none
    | none => none

def unDat (op : UnOp) (a : Dat) : Option Dat :=
  match op, a with
  | .neg, ⟨.int k, x⟩ => some ⟨.int k, k.wrap (0 - x)⟩
  | .xor, ⟨.int k, x⟩ => some ⟨.int k, k.wrap (BitVec.ofInt k.bits (if k.signed then -1 else k.max) ^^^ BitVec.ofInt k.bits x).toNat⟩
  | .not, ⟨.bool, b⟩ => some ⟨.bool, !b⟩
  | _, _ => none

/-- Is the value nil? (t: what its type stands for) -/
def isNil (σ : Sto) (t : Ty) (a : AV) : Option Bool :=
  match t, a with
  | .slice _ _, .nilS => some true
  | .slice _ _, .d (.slice 3 _) _ => some true
  | .slice _ _, .d (.slice 2 _) _ => some false
  | .nilp m, .d (.nilp m') _ => bif boolBeq m m' then some true else none
  | .nilp false, .d (.atl _) _ => some false
  | .nilp false, .d (.iptr _) x => some (match x with | none => true | some _ => false)
  | .nilp false, .ptr _ _ _ => some false
  | .nilp false, .d (.ref i) _ => match lkO σ i with
    | .box _ _ _ => some false
    | .ibox _ _ => some false
    | _ => none
  | _, _ => none

/-- y is nil, of this type. -/
def nilArm (C : Ctx) (T : TypeId) : AV → Option Ty
  | .nilS => match C.ty T with
    | some (.slice q e) => some (.slice q e)
    | _ => none
  | .d (.nilp m) _ => match C.ty T with
    | some (.nilp m') => bif boolBeq m m' then some (.nilp m) else none
    | _ => none
  | _ => none

/-- A value that is put into memory where the text has type t; it may name objects. -/
def asDecl (t : Ty) : AV → Option Dat
  | .nilS => match t with
    | .slice _ e => bif e.pure then some ⟨.slice 3 e, []⟩ else none
    | _ => none
  | .d t' x => bif t'.shape.beq t.shape then some (Dat.plain ⟨t', x⟩) else none
  | .ptr i _ [] => bif t.shape.beq .any then some ⟨.ref i, ()⟩ else none
  | _ => none

/-- An immutable datum of type t; with it the objects that are let go for it. -/
def asPure (σ : Sto) (t : Ty) (a : AV) : Option (t.den × List Nat) :=
  match a with
  | .nilS => match t with
    | .slice 0 e => bif e.pure then some ([], []) else none
    | _ => none
  | a => match viewA σ a with
    | some z => match z.as t with
      | some x => some (x, a.reach σ)
      | none => none
    | none => none

def Ob.isObj : Ob → Bool
  | .box _ _ _ | .vec _ _ _ | .map _ _ _ => true
  | _ => false

/-- Of these objects those that somebody may still change. -/
def hot (σ : Sto) : List Nat → List Nat
  | [] => []
  | i :: l => bif (lkO σ i).isObj then i :: hot σ l else hot σ l

def subN : List Nat → List Nat → Bool
  | [], _ => true
  | i :: l, m => memN i m && subN l m

/-- Objects are let go: from here on they are immutable. -/
def frzO (σ : Sto) (L : List Nat) (i : Nat) : Option Ob :=
  match lkO σ i with
  | .vec _ e l => some (.ivec e l)
  | .box _ t x => bif subN (hot σ (reach σ t)) L then match purify σ t x with
    | some u => some (.ibox u.t u.x)
    | none => none
    else none
  | .ibox t x => some (.ibox t x)
  | .ivec e l => some (.ivec e l)
  | _ => none

def frzAll (σ0 : Sto) (L : List Nat) : List Nat → Sto → Option Sto
  | [], σ => some σ
  | i :: l, σ => match frzO σ0 L i with
    | some ob => frzAll σ0 L l ((i, ob) :: σ)
    | none => none

def St.frz (s : St) (l : List Nat) : Option St :=
  match frzAll s.σ (hot s.σ l) (hot s.σ l) s.σ with
  | some σ => some { s with σ := σ }
  | none => none

def intsOf (s : St) : List Operand → Option (List (IntKind × Int))
  | [] => some []
  | x :: xs => match ev s x, intsOf s xs with
    | .d (.int k) n, some l => some ((k, n) :: l)
    | _, _ => none

def maxI (k : IntKind) : Int → List (IntKind × Int) → Option Dat
  | x, [] => some ⟨.int k, x⟩
  | x, (k', y) :: l => bif kindBeq k k' then maxI k (if y > x then y else x) l else none
def minI (k : IntKind) : Int → List (IntKind × Int) → Option Dat
  | x, [] => some ⟨.int k, x⟩
  | x, (k', y) :: l => bif kindBeq k k' then minI k (if y < x then y else x) l else none

def Dat.av (z : Dat) : AV := .d z.t z.x

def isStruct : Ty → Bool
  | .nil => true
  | .cons _ _ => true
  | _ => false

/-- The fields of a struct literal put in, one after the other. -/
def buildD (s : St) (T : Ty) : List (Nat × Operand) → Dat → Option Dat
  | [], z => some z
  | (i, x) :: l, z => match fldD T T.zero i with
    | some f => match asDecl f.t (ev s x) with
      | some y => match setFld z.t z.x i y with
        | some z' => buildD s T l z'
        | none => none
      | none => none
    | none => none

def buildL (s : St) (e : Ty) : Nat → List (Nat × Operand) → Option (List e.den × List Nat)
  | _, [] => some ([], [])
  | j, (i, x) :: l => bif Nat.beq i j then match asPure s.σ e (ev s x), buildL s e (j + 1) l with
      | some (y, r), some (ys, rs) => some (y :: ys, r ++ rs)
      | _, _ => none
    else none

def roomBytes' : Int := 140737488355328

/-- A bound of a slice expression. -/
def numOr (s : St) (d : Int) : Option Operand → Option Int
  | none => some d
  | some x => match ev s x with
    | .d (.int _) n => some n
    | _ => none

/-- What a function literal captures. -/
def capsD (s : St) : List Operand → Option Dat
  | [] => some ⟨.nil, ()⟩
  | c :: l => match ev s c, capsD s l with
    | .d t x, some z => bif t.isAgg then none else some ⟨.cons t z.t, (x, z.x)⟩
    | _, _ => none

/-- The captured values, as arguments. -/
def capsL : (t : Ty) → t.den → Option (List AV)
  | .nil, _ => some []
  | .cons a b, x => bif a.isAgg then none else match capsL b x.2 with
    | some l => some (.d a x.1 :: l)
    | none => none
  | _, _ => none

/-- An argument, as the callee sees it; with it the objects that are lent for it. -/
def argV (C : Ctx) (σ : Sto) (T : TypeId) (raw : Bool) (a : AV) : Option (AV × List Nat) :=
  bif raw then some (a, [])
  else match a with
    | .nilS => match C.ty T with
      | some (.slice _ e) => bif e.pure then some (.d (.slice 0 e) [], []) else none
      | _ => none
    | a => match viewA σ a with
      | some z => some (z.av, a.reach σ)
      | none => none

def argVs (C : Ctx) (σ : Sto) : List AV → List TypeId → List Bool → Option (List AV × List Nat)
  | [], _, _ => some ([], [])
  | a :: as, T :: Ts, m :: ms => match argV C σ T m a, argVs C σ as Ts ms with
    | some (x, r), some (xs, rs) => some (x :: xs, r ++ rs)
    | _, _ => none
  | _, _, _ => none

/-- The arguments that are handed over. -/
def raws : List Bool → List AV → List AV
  | m :: ms, a :: as => bif m then a :: raws ms as else raws ms as
  | _, _ => []

/-- The objects that are handed over. -/
def passed (σ : Sto) : List AV → List Bool → List Nat
  | a :: as, m :: ms => bif m then a.reach σ ++ passed σ as ms else passed σ as ms
  | _, _ => []

def restr (σ : Sto) : List Nat → Sto
  | [] => []
  | i :: l => (i, lkO σ i) :: restr σ l

def goneAll (σ : Sto) : List Nat → Sto
  | [] => σ
  | i :: l => (i, .gone) :: goneAll σ l

def disj : List Nat → List Nat → Bool
  | [], _ => true
  | i :: l, m => !memN i m && disj l m

/-- Does the value hold memory that is not its own? -/
def sharesL : List AV → Bool
  | [] => false
  | .d t _ :: l => !t.lone || sharesL l
  | .undef :: l => sharesL l
  | .nilS :: l => sharesL l
  | _ :: _ => true
def AV.shares : AV → Bool
  | .d t _ => !t.lone
  | .tup vs => sharesL vs
  | .undef => false
  | .nilS => false
  | _ => true
def Ob.shares : Ob → Bool
  | .gone => false
  | .box _ t _ => !t.lone
  | .vec _ e _ => !e.scalar
  | .map k e _ => !k.scalar || !e.scalar
  | _ => true
def stoShares : Sto → Bool
  | [] => false
  | (_, ob) :: σ => ob.shares || stoShares σ

/-! ### Other names -/

def swap (a b i : Nat) : Nat := bif Nat.beq i a then b else bif Nat.beq i b then a else i

/-- One name becomes another, for each pair in turn (and the other one's place is taken by the first). -/
def perm : List (Nat × Nat) → Nat → Nat
  | [], i => i
  | (a, b) :: l, i => perm l (swap a b i)

def renW (f : Nat → Nat) : (t : Ty) → t.den → Dat
  | .cons a b, x => bif (Ty.cons a b).pure then ⟨.cons a b, x⟩ else ⟨.cons (renW f a x.1).t (renW f b x.2).t, ((renW f a x.1).x, (renW f b x.2).x)⟩
  | .fn g c, x => bif c.pure then ⟨.fn g c, x⟩ else ⟨.fn g (renW f c x).t, (renW f c x).x⟩
  | .ref i, _ => ⟨.ref (f i), ()⟩
  | t, x => ⟨t, x⟩

def renT (f : Nat → Nat) : Ty → Ty
  | .cons a b => .cons (renT f a) (renT f b)
  | .fn g c => .fn g (renT f c)
  | .ref i => .ref (f i)
  | t => t

mutual
def AV.ren (f : Nat → Nat) : AV → AV
  | .d t x => .d (renW f t x).t (renW f t x).x
  | .ptr i t p => .ptr (f i) t p
  | .eptr i e j q => .eptr (f i) e j q
  | .sub i e a b => .sub (f i) e a b
  | .tup vs => .tup (renL f vs)
  | .undef => .undef
  | .nilS => .nilS
def renL (f : Nat → Nat) : List AV → List AV
  | [] => []
  | a :: l => a.ren f :: renL f l
end

def Ob.ren (f : Nat → Nat) : Ob → Ob
  | .box T t x => .box T (renW f t x).t (renW f t x).x
  | ob => ob

def renEnv (f : Nat → Nat) : Env → Env
  | [] => []
  | (k, a) :: l => (k, a.ren f) :: renEnv f l

def renSto (f : Nat → Nat) : Sto → Sto
  | [] => []
  | (i, ob) :: l => (f i, ob.ren f) :: renSto f l

/-- The names of the arguments behind the call become those ahead of it. -/
def pairUp : List AV → List AV → List (Nat × Nat) → Option (List (Nat × Nat))
  | [], [], acc => some acc
  | .d (.ref i) _ :: as, b :: bs, acc => match b with
    | .d (.ref j) _ => pairUp as bs (acc ++ [(perm acc j, i)])
    | _ => none
  | _ :: as, _ :: bs, acc => pairUp as bs acc
  | _, _, _ => none

/-- All objects are new ones (from nx on), or are among these. -/
def stoNew (nx : Nat) (l : List Nat) : Sto → Bool
  | [] => true
  | (i, _) :: σ => (Nat.ble nx i || memN i l) && stoNew nx l σ

section
variable (C : Ctx)

/-- A call: the arguments are as, the results come into o.dst. -/
def callFn (quiet : Bool) (o : Oper) (s : St) (F : Fun) (as : List AV) (Ts : List TypeId) {R : Type} (k : St → Option R) : Option R :=
  match argVs C s.σ as Ts F.modes with
  | none => none
  | some (vs, lent) =>
    let ps := passed s.σ as F.modes
    bif disj (hot s.σ lent) ps && (!quiet || Nat.beq ps.length 0) then
      F.run vs (restr s.σ ps) s.nx R fun res as' σ' nx' =>
        match pairUp (raws F.modes vs) as' [] with
        | none => none
        | some pr =>
          let res2 := res.ren (perm pr)
          let σ2 := renSto (perm pr) σ'
          bif stoNew s.nx ps σ2 && Nat.ble s.nx nx' then
            bif (res.shares || stoShares σ') && !Nat.beq (hot s.σ lent).length 0 then
              match s.frz lent with
                | none => none
                | some s1 => k (({ s1 with σ := σ2 ++ goneAll s1.σ ps, nx := nx' } : St).put o.dst res2)
            else k (({ s with σ := σ2 ++ goneAll s.σ ps, nx := nx' } : St).put o.dst res2)
          else none
    else none

def findFun (fns : List (FuncId × Fun)) (g : FuncId) (as : List AV) (σ : Sto) : Option Fun :=
  match fns with
  | [] => none
  | (m, F) :: l => bif Nat.beq m g && F.fits as σ then some F else findFun l g as σ

/-- A slice expression: whether it goes well, and what it gives. -/
def sliceD (s : St) (t : Ty) (z : Dat) (lo hi mx : Option Operand) : Option (Bool × AV) :=
  match z, t with
  | ⟨.slice _ e, l⟩, .slice _ e' => match numOr s 0 lo, numOr s l.length hi, numOr s 0 mx, mx with
    | some a, some b, _, none => some (e.shape.beq e'.shape && (decide (0 ≤ a) && decide (a ≤ b) && decide (b ≤ l.length)), .d (.slice 0 e) ((l.take b.toNat).drop a.toNat))
    | some a, some b, some m, some _ => some (e.shape.beq e'.shape && (decide (0 ≤ a) && decide (a ≤ b) && decide (b ≤ l.length)) && (m == b && hi.isSome), .d (.slice 1 e) ((l.take b.toNat).drop a.toNat))
    | _, _, _, _ => none
  | ⟨.str, l⟩, .str => match numOr s 0 lo, numOr s l.length hi, mx with
    | some a, some b, none => some (decide (0 ≤ a) && decide (a ≤ b) && decide (b ≤ l.length), .d .str ((l.take b.toNat).drop a.toNat))
    | _, _, _ => none
  | _, _ => none

/-- A slice expression over an owned slice. -/
def sliceO (s : St) (i : Nat) (e e' : Ty) (a0 len : Nat) (lo hi : Option Operand) : Option (Bool × AV) :=
  match numOr s 0 lo, numOr s len hi with
  | some a, some b => some (e.shape.beq e'.shape && (decide (0 ≤ a) && decide (a ≤ b) && decide (b ≤ len)), .sub i e (a0 + a.toNat) (a0 + b.toNat))
  | _, _ => none

/-- Values of this type may be compared as the type with number T. -/
def eqTy (T : TypeId) (t : Ty) : Bool :=
  match t with
  | .int _ | .str => true
  | t => match C.ty T with
    | some t' => t'.beq t && (!t.isAgg || memN T C.eqs)
    | none => false

/-- The length of a value, as the type t has it. -/
def lenA (σ : Sto) (a : AV) (t : Ty) : Option (Bool × Int) :=
  match a, t with
  | .nilS, .slice _ _ => some (true, 0)
  | .d (.slice _ _) l, .slice _ _ => some (true, l.length)
  | .d .str l, .str => some (true, l.length)
  | .d (.arr n _) _, .arr m _ => some (Nat.beq n m, n)
  | .d (.ref i) _, .slice _ _ => match lkO σ i with
    | .vec _ _ l => some (true, l.length)
    | .ivec _ l => some (true, l.length)
    | _ => none
  | .sub _ _ a b, .slice _ _ => some (true, (b - a : Nat))
  | _, _ => none

/-- The place of an element: object, its type, the first index, the length. -/
def elemOf (σ : Sto) : AV → Option (Nat × Ty × Nat × Nat)
  | .d (.ref i) _ => match lkO σ i with
    | .vec _ e l => some (i, e, 0, l.length)
    | .ivec e l => some (i, e, 0, l.length)
    | _ => none
  | .sub i e' a b => match lkO σ i with
    | .vec _ e _ => bif e'.beq e then some (i, e, a, b - a) else none
    | .ivec e _ => bif e'.beq e then some (i, e, a, b - a) else none
    | _ => none
  | _ => none

/-- The elements that an operand holds, to be copied. -/
def elems (σ : Sto) (e : Ty) (a : AV) : Option (List e.den) :=
  match a with
  | .nilS => some []
  | .d (.slice _ e') l => (Dat.mk (.slice 0 e') l).as (.slice 0 e)
  | a => match elemOf σ a with
    | some (i, _, j, len) => match lkO σ i with
      | .vec _ e' l => (Dat.mk (.slice 0 e') ((l.drop j).take len)).as (.slice 0 e)
      | .ivec e' l => (Dat.mk (.slice 0 e') ((l.drop j).take len)).as (.slice 0 e)
      | _ => none
    | none => none

/-- What an append onto x gives: the object that it takes from, what was there. -/
def appBase (s : St) (E : TypeId) (e : Ty) : AV → Option (Option Nat × List e.den × Bool)
  | .nilS => some (none, [], false)
  | .d (.slice 3 _) _ => some (none, [], false)
  | .d (.ref i) _ => match lkO s.σ i with
    | .vec T e' l => bif Nat.beq T E then match (Dat.mk (.slice 0 e') l).as (.slice 0 e) with
      | some l => some (some i, l, false)
      | none => none
      else none
    | _ => none
  | .d (.slice 1 e') l => match (Dat.mk (.slice 0 e') l).as (.slice 0 e) with
      | some l => some (none, l, true)
      | none => none
  | _ => none

/-- One operation. -/
def stepOp (quiet : Bool) (o : Oper) (s : St) {R : Type} (k : St → Option R) : Option R :=
  match o.op with
  | .move x => k (s.put o.dst (ev s x))
  | .assign x => k (s.put o.dst (ev s x))
  | .pick c a b => match (ev s c).bool?, (ev s a).bool?, (ev s b).bool? with
    | some c, some a, some b => k (s.put o.dst (.d .bool (bif c then a else b)))
    | some c, some a, none => bif c then k (s.put o.dst (.d .bool a)) else none
    | some c, none, some b => bif c then none else k (s.put o.dst (.d .bool b))
    | _, _, _ => none
  | .alloc T => match C.ty T with
    | some t => k (s.new o.dst (.box T t.zt t.zt.zero))
    | none => none
  | .box T x => match C.ty T with
    | some t => match asDecl t (ev s x) with
      | some z => k (s.new o.dst (.box T z.t z.x))
      | none => none
    | none => none
  | .build T ps => match C.ty T with
    | some t => bif isStruct t then match buildD s t ps.toList ⟨t.zt, t.zt.zero⟩ with
        | some z => k (s.put o.dst z.av)
        | none => none
      else none
    | none => none
  | .buildSlice T n ps => match C.ty T with
    | some (.slice _ e) => match buildL s e 0 ps.toList with
      | some (l, r) => bif Nat.beq l.length n && (Nat.ble (n * e.size) 16777216 && Nat.ble n 16777216) then
          (bif Nat.beq (hot s.σ r).length 0 then k (s.new o.dst (.vec (C.elem T) e l))
           else bif quiet then none else match s.frz r with
            | some s' => k (s'.new o.dst (.vec (C.elem T) e l))
            | none => none)
        else none
      | none => none
    | _ => none
  | .load T x => match tgt s.σ (ev s x), C.ty T with
    | some g, some t => match tgtD s.σ g with
      | some z => bif z.t.shape.beq t.shape then k (s.put o.dst z.av) else none
      | none => none
    | _, _ => none
  | .store T x y => match tgt s.σ (ev s x), C.ty T, o.dst with
    | some (.elem i e j q), some t, none => match asPure s.σ t (ev s y) with
      | some (z, r) => match tgtSet s.σ (.elem i e j q) ⟨t, z⟩ with
        | some p => bif Nat.beq (hot s.σ r).length 0 then k (s.setO p.1 p.2) else bif memN i r then none else match s.frz r with
          | some s' => k (s'.setO p.1 p.2)
          | none => none
        | none => none
      | none => none
    | some g, some t, none => match asDecl t (ev s y) with
      | some z => match tgtSet s.σ g z with
        | some p => k (s.setO p.1 p.2)
        | none => none
      | none => none
    | _, _, _ => none
  | .nilCheck x => match ev s x with
    | .d (.iptr t) o' => Option.bind o' fun x => k (s.put o.dst (.d (.atl t) x))
    | a => match tgt s.σ a with
      | some g => match tgtD s.σ g with
        | some _ => k (s.put o.dst a)
        | none => none
      | none => none
  | .binOp op T x y _ => match nilArm C T (ev s y) with
    | some t => match op, isNil s.σ t (ev s x) with
      | .eql, some b => k (s.put o.dst (.d .bool b))
      | .neq, some b => k (s.put o.dst (.d .bool (!b)))
      | _, _ => none
    | none => match viewA s.σ (ev s x), viewA s.σ (ev s y) with
      | some a, some b => match binDat op a b with
        | some (g, z) => bif eqTy C T a.t then bif sureInt op y g then k (s.put o.dst z.av) else none else none
        | none => none
      | _, _ => none
  | .unOp op _ x => match viewA s.σ (ev s x) with
    | some a => match unDat op a with
      | some z => k (s.put o.dst z.av)
      | none => none
    | none => none
  | .convert S T x => match ev s x, C.ty S, C.ty T with
    | .d (.int _) n, some (.int _), some (.int k') => k (s.put o.dst (.d (.int k') (k'.wrap n)))
    | _, _, _ => none
  | .fieldAddr S x f => match tgt s.σ (ev s x), C.ty S with
    | some g, some t' => match tgtD s.σ g, g.step (.fld f) with
      | some z, some g' => match fldD z.t z.x f with
        | some y => bif z.t.shape.beq t'.shape && Nat.blt 0 y.t.size then k (s.put o.dst g'.toAV) else none
        | none => none
      | _, _ => none
    | _, _ => none
  | .field S x f => match ev s x, C.ty S with
    | .d t z, some t' => match fldD t z f with
      | some y => bif t.shape.beq t'.shape then k (s.put o.dst y.av) else none
      | none => none
    | _, _ => none
  | .indexAddr S x i => match ev s i, C.ty S with
    | .d (.int _) n, some (.slice _ e') => match ev s x with
      | .d (.slice _ e) l => bif e.shape.beq e'.shape && Nat.blt 0 e.size then
          bif decide (0 ≤ n) && decide (n < l.length) then k (s.put o.dst (.d (.atl e) (l.getD n.toNat e.zero))) else none else none
      | a => match elemOf s.σ a with
        | some (id, e, j, len) => bif e.shape.beq e'.shape then
            bif decide (0 ≤ n) && decide (n < len) then k (s.put o.dst (.eptr id e (j + n.toNat) [])) else none else none
        | none => none
    | .d (.int _) n, some (.arr m' e') => match tgt s.σ (ev s x) with
      | some g => match tgtD s.σ g with
        | some ⟨.arr m e, _⟩ => bif Nat.beq m m' && e.shape.beq e'.shape && Nat.blt 0 e.size then
            bif decide (0 ≤ n) && decide (n < m) then match g.step (.idx n.toNat) with
              | some g' => k (s.put o.dst g'.toAV)
              | none => none
            else none
          else none
        | _ => none
      | none => none
    | _, _ => none
  | .index S x i => match ev s x, ev s i, C.ty S with
    | .d .str l, .d (.int _) n, some .str => bif decide (0 ≤ n) && decide (n < l.length) then k (s.put o.dst (.d (.int .u8) (l.getD n.toNat 0).toNat)) else none
    | .d (.arr m e) l, .d (.int _) n, some (.arr m' e') => bif Nat.beq m m' && e.shape.beq e'.shape && e.pure then bif decide (0 ≤ n) && decide (n < m) then k (s.put o.dst (.d e (l.getD n.toNat e.zero))) else none else none
    | _, _, _ => none
  | .extract (.tmp t) i => match lk s.env t with
    | .tup vs => match vs[i]? with
      | some a => k (s.put o.dst a)
      | none => none
    | _ => none
  | .slice S x lo hi mx => match C.ty S with
    | some t => match ev s x with
      | .d (.slice q e) l => match sliceD s t ⟨.slice q e, l⟩ lo hi mx with
        | some (g, av) => bif g then k (s.put o.dst av) else none
        | none => none
      | .d .str l => match sliceD s t ⟨.str, l⟩ lo hi mx with
        | some (g, av) => bif g then k (s.put o.dst av) else none
        | none => none
      | a => match elemOf s.σ a, t, mx with
        | some (id, e, j, len), .slice _ e', none => match sliceO s id e e' j len lo hi with
          | some (g, av) => bif g then k (s.put o.dst av) else none
          | none => none
        | _, _, _ => none
    | none => none
  | .makeSlice T n m => match C.ty T, ev s n, ev s m with
    | some (.slice _ e), .d (.int .i64) n, .d (.int .i64) m => bif decide (0 ≤ n) && decide (n ≤ m) && decide (m * C.bytes T ≤ roomBytes') && decide (m ≤ 9223372036854775807) then
        k (s.new o.dst (.vec (C.elem T) e (List.replicate n.toNat e.zero))) else none
    | _, _, _ => none
  | .makeFunc (.func f) first caps => bif Nat.beq first.size 0 then match capsD s caps.toList with
      | some z => k (s.put o.dst (.d (.fn f z.t) z.x))
      | none => none
    else none
  | .call { callee := .builtin b, args, argTypes } => match b, args.toList, argTypes.toList with
    | .len, [x], [T] => match C.ty T with
      | some t => match lenA s.σ (ev s x) t with
        | some (g, n) => bif g then k (s.put o.dst (.d (.int .i64) n)) else none
        | none => none
      | none => none
    | .max, x :: xs, _ => match ev s x, intsOf s xs with
      | .d (.int kd) n, some l => match maxI kd n l with
        | some z => k (s.put o.dst z.av)
        | none => none
      | _, _ => none
    | .min, x :: xs, _ => match ev s x, intsOf s xs with
      | .d (.int kd) n, some l => match minI kd n l with
        | some z => k (s.put o.dst z.av)
        | none => none
      | _, _ => none
    | .append, [x, y], [T, U] => match C.ty T with
      | some (.slice _ e) => match elems s.σ e (ev s y), appBase s (C.elem T) e (ev s x) with
        | some m, some (sp, l, clip) => bif Nat.beq T U && Nat.blt 0 (C.bytes T) && Nat.blt 0 e.size then
            bif decide (((l ++ m).length : Int) * C.bytes T ≤ roomBytes') then
              bif clip then k (s.put o.dst (.d (.slice 0 e) (l ++ m)))
              else match sp with
                | none => k (s.new o.dst (.vec (C.elem T) e (l ++ m)))
                | some i => k ((s.setO i .gone).new o.dst (.vec (C.elem T) e (l ++ m)))
            else none
          else none
        | _, _ => none
      | _ => none
    | .copy, [x, y], [T, _] => match C.ty T with
      | some (.slice _ e) => match elems s.σ e (ev s y), elemOf s.σ (ev s x) with
        | some m, some (i, _, j, len) => match lkO s.σ i with
          | .vec T' e' l => match (Dat.mk (.slice 0 e) (m.take len)).as (.slice 0 e') with
            | some m' => bif Nat.beq e.size 1 then k ((s.setO i (.vec T' e' (l.take j ++ (m' ++ l.drop (j + m'.length))))).put o.dst (.d (.int .i64) (min m.length len : Nat))) else none
            | none => none
          | _ => none
        | _, _ => none
      | _ => none
    | .clear, [x], [T] => match C.ty T with
      | some (.slice _ e) => match elemOf s.σ (ev s x) with
        | some (i, _, j, len) => match lkO s.σ i with
          | .vec T' e' l => bif e.beq e' then k ((s.setO i (.vec T' e' (l.take j ++ (List.replicate len e'.zero ++ l.drop (j + len))))).put o.dst .undef) else none
          | _ => none
        | _ => none
      | _ => none
    | _, _, _ => none
  | .call { callee := .value f, args, argTypes } => match ev s f with
    | .d (.fn g c) x => match capsL c x with
      | some cs => match findFun C.fns g (args.toList.map (ev s) ++ cs) s.σ with
        | some F => callFn C quiet o s F (args.toList.map (ev s) ++ cs) (argTypes.toList ++ cs.map fun _ => 0) k
        | none => none
      | none => none
    | _ => none
  | _ => none

/-- May it stand in a guarded group: it changes no object. -/
def quietOp : Op → Bool
  | .alloc _ | .box _ _ | .makeSlice _ _ _ | .buildSlice _ _ _ => true
  | .move _ | .assign _ | .pick _ _ _ | .nilCheck _ | .load _ _ | .binOp _ _ _ _ _ | .unOp _ _ _ | .convert _ _ _ | .fieldAddr _ _ _ | .field _ _ _ | .indexAddr _ _ _ | .index _ _ _ | .build _ _ | .slice _ _ _ _ _ | .extract _ _ | .makeFunc _ _ _ => true
  | .call { callee := .builtin .len, .. } | .call { callee := .builtin .max, .. } | .call { callee := .builtin .min, .. } => true
  | .call { callee := .value _, .. } => true
  | _ => false

/-- It changes nothing in memory: all that it does is to give a value. -/
def stillOp : Op → Bool
  | .move _ | .assign _ | .pick _ _ _ | .nilCheck _ | .load _ _ | .binOp _ _ _ _ _ | .unOp _ _ _ | .convert _ _ _ | .fieldAddr _ _ _ | .field _ _ _ | .indexAddr _ _ _ | .index _ _ _ | .build _ _ | .slice _ _ _ _ _ => true
  | .extract (.tmp _) _ => true
  | .makeFunc (.func _) _ _ => true
  | .call { callee := .builtin .len, .. } | .call { callee := .builtin .max, .. } | .call { callee := .builtin .min, .. } => true
  | _ => false

end
end Go.Lift
