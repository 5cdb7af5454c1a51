import Derived.Test.YtbdbjamebjbhnaaLOp
set_option linter.all false
/- REGIONS, CODE, FUNCTIONS: the abstract run. -/
universe u
namespace Go.Lift

def dsts : List Oper → List Nat
  | [] => []
  | o :: l => match o.dst with
    | some d => d :: dsts l
    | none => dsts l

def killed : List Nat → Env → Env
  | [], env => env
  | d :: l, env => (d, .undef) :: killed l env

def sameGuard (g h : Option (Nat × Bool)) : Bool :=
  match g, h with
  | none, none => true
  | some (i, a), some (j, b) => Nat.beq i j && (a == b)
  | _, _ => false

def inGrp (ops : Array Oper) (j : Nat) (want : Bool) (acc : List Nat) (i : Nat) (wt : Bool) : Bool :=
  (Nat.beq i j && (wt == want)) || (match (ops[i]?).bind (·.dst) with
    | some d => memN d acc
    | none => false)

/-- The operations that run only where operation j has said so, or one of these (their slots: acc); and the rest. -/
def splitGroup (ops : Array Oper) (j : Nat) (want : Bool) : List Nat → List Oper → List Oper × List Oper
  | _, [] => ([], [])
  | acc, o :: l => match o.guard with
    | some (i, wt) => bif inGrp ops j want acc i wt then (o :: (splitGroup ops j want (dsts [o] ++ acc) l).1, (splitGroup ops j want (dsts [o] ++ acc) l).2) else ([], o :: l)
    | none => ([], o :: l)

section
variable (C : Ctx)

/-- The truth value r comes into slot d; what the operations l did is forgotten. -/
def St.ask (s : St) (l : List Oper) (d : Nat) (r : Bool) : St := { s with env := (d, .d .bool r) :: killed (dsts l) s.env }

def St.kill (s : St) (l : List Nat) : St := { s with env := killed l s.env }

/-- The operations of a region, of which those with the guard g run. (ops: the whole region, for the guards' slots.) -/
def runOps (ops : Array Oper) : Nat → Bool → Option (Nat × Bool) → List Oper → St → {R : Type} → (St → Option R) → Option R
  | 0, _, _, _, _, _, _ => none
  | _ + 1, _, _, [], s, _, k => k s
  | n + 1, quiet, g, o :: rest, s, _, k =>
    bif sameGuard o.guard g then
      bif !quiet || quietOp o.op then stepOp C quiet o s fun s' => runOps ops n quiet g rest s' k else none
    else match o.guard with
      | none => none
      | some (j, want) => match (ops[j]?).bind (·.dst) with
        | none => none
        | some jd => match (lk s.env jd).bool? with
          | none => none
          | some b => match splitGroup ops j want [] (o :: rest) with
            | (grp, p :: rest') => match p.op, p.dst with
              | .pick (.tmp c) x y, some d => bif sameGuard p.guard g && Nat.beq c jd && !memN jd (dsts grp) then
                  Option.bind (match want with
                    | true => bif b then runOps ops n true (some (j, true)) grp s (fun s' => (ev s' x).bool?) else (ev (s.kill (dsts grp)) y).bool?
                    | false => bif b then (ev (s.kill (dsts grp)) x).bool? else runOps ops n true (some (j, false)) grp s (fun s' => (ev s' y).bool?)) fun r =>
                    runOps ops n quiet g rest' (s.ask grp d r) k
                else none
              | _, _ => none
            | (_, []) => none

/-! ### Regions that draw their order -/

def isLoad : Op → Bool
  | .load _ _ => true
  | _ => false

def lkB : List (Nat × Bool) → Nat → Option Bool
  | [], _ => none
  | (j, b) :: l, i => bif Nat.beq j i then some b else lkB l i

/-- Operation j itself waits for operation m. -/
def waitsD (ops : Array Oper) (j m : Nat) : Bool :=
  match ops[j]? with
  | some o => o.after.toList.any fun e => Region.binds .any e && Nat.beq e.on m
  | none => false

def waitsN (ops : Array Oper) : Nat → Nat → Nat → Bool
  | 0, _, _ => false
  | n + 1, j, m => waitsD ops j m || (match ops[j]? with
    | some o => o.after.toList.any fun e => Region.binds .any e && waitsN ops n e.on m
    | none => false)

/-- Operation j waits for operation m, or for one that does. -/
def waitsB (ops : Array Oper) (j m : Nat) : Bool := waitsN ops 6 j m

/-- An operation whose time does not matter: its number, its slot, what it makes. -/
abbrev Laz := Option (Nat × Nat × Ob)

def noneB {α : Type u} : Option α → Bool
  | none => true
  | some _ => false

/-- Those that do not wait for it. -/
def notYet (ops : Array Oper) (z : Laz) (l : List Nat) : List Nat :=
  match z with
  | none => l
  | some (x, _, _) => l.filter fun j => !waitsD ops j x

/-- It is not yet there. -/
def lset (z : Laz) (listed : Array Bool) : Array Bool :=
  match z with
  | none => listed
  | some (x, _, _) => listed.setIfInBounds x false

def alone (z : Laz) (l : List Nat) : Bool :=
  match z, l with
  | none, _ => true
  | some _, [_] => true
  | _, _ => false

def unwaited (ops : Array Oper) (i : Nat) : List (Nat × Nat) → List (Nat × Nat)
  | [] => []
  | m :: l => bif waitsB ops i m.1 then unwaited ops i l else m :: unwaited ops i l

inductive GS where
  | run | skip | ask (jd : Nat) (b : Bool) | bad

/-- Does the operation run? dec: slots whose truth value is known; dead: slots that were passed over. -/
def gstate (ops : Array Oper) (env : Env) (dec : List (Nat × Bool)) (dead : List Nat) (o : Oper) : GS :=
  match o.guard with
  | none => .run
  | some (j, want) => match (ops[j]?).bind (·.dst) with
    | none => .bad
    | some jd => match lkB dec jd with
      | some b => bif b == want then .run else .skip
      | none => bif memN jd dead then .skip else match (lk env jd).bool? with
        | some b => .ask jd b
        | none => .bad

/-- The first of these that only reads, and that nobody who could come before it touches. -/
def pickStill (ops : Array Oper) (listed : Array Bool) : List Nat → Option Nat
  | [] => none
  | i :: l => match ops[i]? with
    | some o => bif stillOp o.op && Region.free .any ops listed i then some i else pickStill ops listed l
    | none => pickStill ops listed l

def freshD (d : Option Nat) (dec : List (Nat × Bool)) (dead : List Nat) : Bool :=
  match d with
  | none => true
  | some d => (match lkB dec d with
    | none => true
    | some _ => false) && !memN d dead

/-- The object that a target lies in (0: what cannot change). -/
def Tgt.rid : Tgt → Nat
  | .obj i _ _ => i + 1
  | .elem i _ _ _ => i + 1
  | .imm _ _ => 0

def readOf (s : St) (o : Oper) : Nat :=
  match o.op with
  | .load _ x => match tgt s.σ (ev s x) with
    | some g => g.rid
    | none => 0
  | _ => 0

/-- A scalar. -/
def scalarA : AV → Bool
  | .d (.int _) _ => true
  | .d .bool _ => true
  | _ => false

/-- The object that is appended to (or a new one). -/
def appId (a : AV) (n : Nat) : Nat :=
  match a with
  | .d (.ref i) _ => i
  | _ => n

/-- The object that a store of a scalar, or an append, touches. -/
def touches (s : St) (o : Oper) : Option Nat :=
  match o.op with
  | .store _ x y => bif scalarA (ev s y) then match tgt s.σ (ev s x) with
    | some (.elem i _ _ _) => some i
    | some (.obj i _ _) => some i
    | _ => none
    else none
  | .call { callee := .builtin .append, args, argTypes := _ } => match args.toList with
    | [x, _] => some (appId (ev s x) s.nx)
    | _ => none
  | _ => none

def apartB (t : Option Nat) (d : Nat) : Bool :=
  match t with
  | some t => !Nat.beq d (t + 1)
  | none => false

/-- The operations of a region in whatever order: those that only read first. q: the region has guards. z: what comes last of all. -/
def drawRun (ops : Array Oper) (q : Bool) : Nat → Nat → Bool → Array Bool → Laz → List (Nat × Nat) → List (Nat × Bool) → List Nat → St → {R : Type} → (St → Option R) → Option R
  | 0, _, _, _, _, _, _, _, _, _, _ => none
  | n + 1, m, late, listed, z, pend, dec, dead, s, _, k =>
    match notYet ops z (Region.ready .any ops listed) with
    | [] => match z with
      | none => k s
      | some (_, dx, ob) => drawRun ops q n m (!q || late) listed none pend dec dead (s.new (some dx) ob) k
    | i0 :: rs => match m with
      | 0 => none
      | m + 1 => match pickStill ops (lset z listed) (i0 :: rs) with
        | some i => match ops[i]? with
          | none => none
          | some o => match gstate ops s.env dec dead o with
            | .bad => none
            | .ask jd b => bif b then drawRun ops q n (m + 1) late listed z pend ((jd, true) :: dec) dead s k else drawRun ops q n (m + 1) late listed z pend ((jd, false) :: dec) dead s k
            | .skip => bif freshD o.dst dec dead then match o.dst with
                | some d => drawRun ops q n m late (listed.setIfInBounds i true) z pend dec (d :: dead) (s.put o.dst .undef) k
                | none => drawRun ops q n m late (listed.setIfInBounds i true) z pend dec dead s k
              else none
            | .run => bif freshD o.dst dec dead then
                stepOp C true o s fun s' => drawRun ops q n m late (listed.setIfInBounds i true) z (bif isLoad o.op then (i, readOf s o) :: pend else pend) dec dead s' k
              else none
        | none => match rs, alone z (Region.ready .any ops listed), ops[i0]? with
          | [], true, some o => match gstate ops s.env dec dead o with
            | .bad => none
            | .ask jd b => bif b then drawRun ops q n (m + 1) late listed z pend ((jd, true) :: dec) dead s k else drawRun ops q n (m + 1) late listed z pend ((jd, false) :: dec) dead s k
            | .skip => bif freshD o.dst dec dead then match o.dst with
                | some d => drawRun ops q n m late (listed.setIfInBounds i0 true) z (unwaited ops i0 pend) dec (d :: dead) (s.put o.dst .undef) k
                | none => drawRun ops q n m late (listed.setIfInBounds i0 true) z (unwaited ops i0 pend) dec dead s k
              else none
            | .run => bif freshD o.dst dec dead then
                bif !(q || !noneB z) && pend.all (fun p => waitsB ops i0 p.1 || (!late && apartB (touches s o) p.2)) then stepOp C false o s fun s' => drawRun ops q n m (late || noneB (touches s o)) (listed.setIfInBounds i0 true) z (unwaited ops i0 pend) dec dead s' k
                else bif !late && quietOp o.op then stepOp C true o s fun s' => drawRun ops q n m late (listed.setIfInBounds i0 true) z (unwaited ops i0 pend) dec dead s' k
                else none
              else none
          | _, _, _ => none

def hasGuard : List Oper → Bool
  | [] => false
  | o :: l => match o.guard with
    | some _ => true
    | none => hasGuard l

def lastDst : List Oper → Option Nat
  | [] => none
  | [o] => o.dst
  | _ :: l => lastDst l

/-! What may come last: memory made of nothing. -/

def constsB : List (Nat × Operand) → Bool
  | [] => true
  | (_, .const _) :: l => constsB l
  | _ => false

/-- What the operation makes. -/
def lazyOb (s : St) (o : Oper) : Option Ob :=
  match o.op with
  | .alloc T => match C.ty T with
    | some t => some (.box T t.zt t.zt.zero)
    | none => none
  | .buildSlice T n ps => bif constsB ps.toList then match C.ty T with
      | some (.slice _ e) => match buildL s e 0 ps.toList with
        | some (l, r) => bif e.scalar && (Nat.beq l.length n && (Nat.ble (n * e.size) 16777216 && (Nat.ble n 16777216 && Nat.beq (hot s.σ r).length 0))) then some (.vec (C.elem T) e l) else none
        | none => none
      | _ => none
    else none
  | _ => none

def countD (d : Nat) : List Nat → Nat
  | [] => 0
  | i :: l => bif Nat.beq i d then countD d l + 1 else countD d l

/-- Somebody else does more than read, and does not wait for operation x. -/
def besides (ops : Array Oper) (x : Nat) : Nat → Bool
  | 0 => false
  | j + 1 => (match ops[j]? with
    | some o => !Nat.beq j x && !stillOp o.op && !waitsB ops j x
    | none => false) || besides ops x j

def lazyAt (s : St) (ops : Array Oper) : Nat → Laz
  | 0 => none
  | x + 1 => match ops[x]? with
    | some o => match o.dst, lazyOb C s o with
      | some dx, some ob => bif noneB o.guard && (Nat.beq o.after.toList.length 0 && (Nat.beq (countD dx (dsts ops.toList)) 1 && besides ops x ops.size)) then some (x, dx, ob) else lazyAt s ops x
      | _, _ => lazyAt s ops x
    | none => lazyAt s ops x

def lazyS (z : Laz) (s : St) : St :=
  match z with
  | none => s
  | some (_, dx, _) => s.kill [dx]

def lazyL (z : Laz) (l : Array Bool) : Array Bool :=
  match z with
  | none => l
  | some (x, _, _) => l.setIfInBounds x true

def lazyM (z : Laz) (n : Nat) : Nat :=
  match z with
  | none => n
  | some _ => n - 1

/-- A region that draws its order. With guards: all that it leaves is the truth value of its last operation. -/
def drawReg (ops : Array Oper) (s : St) {R : Type} (k : St → Option R) : Option R :=
  bif !Region.noSelect ops then none else
  let z := lazyAt C s ops ops.size
  bif hasGuard ops.toList then match lastDst ops.toList with
    | none => none
    | some d => Option.bind (drawRun C ops true (2 * ops.size + 3) (lazyM z ops.size) false (lazyL z (Array.replicate ops.size false)) z [] [] [] (lazyS z s) fun s' => (lk s'.env d).bool?) fun r =>
      k (s.ask ops.toList d r)
  else drawRun C ops false (2 * ops.size + 3) (lazyM z ops.size) false (lazyL z (Array.replicate ops.size false)) z [] [] [] (lazyS z s) k

inductive Ex where
  | normal | exit (id : Nat) | ret

def firstId : Code → Option Nat
  | .region id _ _ => some id
  | .seq a b => match firstId a with
    | some i => some i
    | none => firstId b
  | .cond _ a b => match firstId a with
    | some i => some i
    | none => firstId b
  | .block _ b => firstId b
  | .loop b => firstId b
  | .scope b => firstId b
  | _ => none

/-- The body of the loop whose first region has this number. -/
def findLoop (i : Nat) : Code → Option Code
  | .seq a b => match findLoop i a with
    | some c => some c
    | none => findLoop i b
  | .cond _ a b => match findLoop i a with
    | some c => some c
    | none => findLoop i b
  | .block _ b => findLoop i b
  | .loop b => match firstId b with
    | some j => bif Nat.beq i j then some b else findLoop i b
    | none => findLoop i b
  | _ => none

abbrev Loops := Nat → St → (R : Type) → (Ex → St → Option R) → Option R

def absRun (L : Loops) : Code → St → {R : Type} → (Ex → St → Option R) → Option R
  | .skip, s, _, k => k .normal s
  | .region _ ops draw, s, _, k => bif draw then drawReg C ops s (k .normal) else runOps C ops (ops.size + 1) false none ops.toList s (k .normal)
  | .seq a b, s, _, k => absRun L a s fun e s' => match e with
    | .normal => absRun L b s' k
    | .exit id => k (.exit id) s'
    | .ret => k .ret s'
  | .cond c a b, s, _, k => match (ev s c).bool? with
    | some t => bif t then absRun L a s k else absRun L b s k
    | none => none
  | .block id b, s, _, k => absRun L b s fun e s' => match e with
    | .exit j => bif Nat.beq j id then k .normal s' else k (.exit j) s'
    | .normal => k .normal s'
    | .ret => k .ret s'
  | .loop b, s, R, k => match firstId b with
    | some i => L i s R k
    | none => none
  | .exit id, s, _, k => k (.exit id) s
  | .ret, s, _, k => k .ret s
  | _, _, _, _ => none

end

/-! ### Shapes: a state without its data -/

inductive AS where
  | undef | d (t : Ty) | nilS

inductive OS where
  | box (T : TypeId) (t : Ty) | vec (T : TypeId) (e : Ty) | ibox (t : Ty) | ivec (e : Ty) | map (k e : Ty)

@[reducible] def AS.den : AS → Type
  | .d t => t.den
  | _ => Unit

@[reducible] def OS.den : OS → Type
  | .box _ t => t.den
  | .vec _ e => List e.den
  | .ibox t => t.den
  | .ivec e => List e.den
  | .map k e => List (k.den × e.den)

/-- Without data. -/
def AS.void : AS → Bool
  | .d t => t.void
  | _ => true

@[reducible] def denO : List OS → Type
  | [] => Unit
  | [a] => a.den
  | a :: b :: l => a.den × denO (b :: l)

def allVoid : List AS → Bool
  | [] => true
  | a :: l => a.void && allVoid l

/-- The data of these values and objects. -/
@[reducible] def denA (obs : List OS) : List AS → Type
  | [] => denO obs
  | a :: l => bif a.void then denA obs l else bif allVoid l && obs.isEmpty then a.den else a.den × denA obs l

def elimB {α β : Type} {γ : Type u} : (b : Bool) → (α → γ) → (β → γ) → (bif b then α else β) → γ
  | true, f, _, x => f x
  | false, _, g, x => g x

def introB {α β : Type} : (b : Bool) → (Unit → Option α) → (Unit → Option β) → Option (bif b then α else β)
  | true, f, _ => f ()
  | false, _, g => g ()

/-- The value of a shape without data. -/
def AS.base : AS → AV
  | .d t => .d t t.zero
  | .nilS => .nilS
  | .undef => .undef

def AS.fill : (a : AS) → a.den → AV
  | .undef, _ => .undef
  | .d t, x => .d t x
  | .nilS, _ => .nilS

def OS.fill : (o : OS) → o.den → Ob
  | .box T t, x => .box T t x
  | .vec T e, x => .vec T e x
  | .ibox t, x => .ibox t x
  | .ivec e, x => .ivec e x
  | .map k e, x => .map k e x

def fillO : Nat → (l : List OS) → denO l → Sto
  | _, [], _ => []
  | i, [a], x => [(i, a.fill x)]
  | i, a :: b :: l, x => (i, a.fill x.1) :: fillO (i + 1) (b :: l) x.2

def fillA (obs : List OS) : (l : List AS) → denA obs l → List AV × Sto
  | [], x => ([], fillO 0 obs x)
  | a :: l, x => elimB a.void (fun y => (a.base :: (fillA obs l y).1, (fillA obs l y).2))
      (elimB (allVoid l && obs.isEmpty) (fun y => (a.fill y :: l.map AS.base, [])) (fun y => (a.fill y.1 :: (fillA obs l y.2).1, (fillA obs l y.2).2))) x

/-- The slots, the arguments, the objects 0, 1, .. -/
structure Sh where
  env : List Nat
  avs : List AS
  args : List AS
  obs : List OS

@[reducible] def Sh.den (h : Sh) : Type := denA h.obs (h.avs ++ h.args)

def zipE : List Nat → List AV → Env
  | i :: l, a :: as => (i, a) :: zipE l as
  | _, _ => []

def dropL {α : Type u} : List Nat → List α → List α
  | _ :: l, _ :: as => dropL l as
  | _, as => as

def Sh.fill (h : Sh) (x : h.den) : St where
  env := zipE h.env (fillA h.obs (h.avs ++ h.args) x).1
  args := dropL h.env (fillA h.obs (h.avs ++ h.args) x).1
  σ := (fillA h.obs (h.avs ++ h.args) x).2
  nx := h.obs.length

/-- A datum taken as one of type t: a pointer that is nil, or is not, is one that may be nil. -/
def Dat.fit : (t : Ty) → Dat → Option t.den
  | .iptr e, ⟨.nilp false, _⟩ => bif e.pure then some (none : Option e.den) else none
  | .iptr e, ⟨.atl e', x⟩ => match (Dat.mk e' x).as e with
    | some y => some (some y : Option e.den)
    | none => none
  | .cons a b, ⟨.cons a' b', x⟩ => bif (Ty.cons a' b').pure && (Ty.cons a' b').beq (.cons a b) then (Dat.mk (.cons a' b') x).as (.cons a b) else
    match Dat.fit a ⟨a', x.1⟩, Dat.fit b ⟨b', x.2⟩ with
    | some y, some z => some (y, z)
    | _, _ => none
  | t, z => z.as t

def AS.take : (a : AS) → AV → Option a.den
  | .undef, _ => some ()
  | .d t, .d t' x => (Dat.mk t' x).fit t
  | .nilS, .nilS => some ()
  | _, _ => none

def OS.take : (o : OS) → Ob → Option o.den
  | .box T t, .box T' t' x => bif Nat.beq T T' then (Dat.mk t' x).fit t else none
  | .vec T e, .vec T' e' l => bif Nat.beq T T' then (Dat.mk (.slice 0 e') l).as (.slice 0 e) else none
  | .ibox t, .ibox t' x => (Dat.mk t' x).fit t
  | .ivec e, .ivec e' l => (Dat.mk (.slice 0 e') l).as (.slice 0 e)
  | .map k e, .map k' e' l => (Dat.mk (.slice 0 (.cons k' e')) l).as (.slice 0 (.cons k e))
  | _, _ => none

def takeO (σ : Sto) : Nat → (l : List OS) → Option (denO l)
  | _, [] => some ()
  | i, [a] => a.take (lkO σ i)
  | i, a :: b :: l => match a.take (lkO σ i), takeO σ (i + 1) (b :: l) with
    | some x, some y => some (x, y)
    | _, _ => none

/-- Are the values those of the shapes (which have no data)? -/
def takeV : List AS → List AV → Bool
  | [], [] => true
  | a :: l, v :: vs => (a.take v).isSome && takeV l vs
  | _, _ => false

def takeA (σ : Sto) (obs : List OS) : (l : List AS) → List AV → Option (denA obs l)
  | [], [] => takeO σ 0 obs
  | a :: l, v :: vs => introB a.void
      (fun _ => bif (a.take v).isSome then takeA σ obs l vs else none)
      (fun _ => introB (allVoid l && obs.isEmpty)
        (fun _ => bif takeV l vs then a.take v else none)
        (fun _ => match a.take v, takeA σ obs l vs with
          | some x, some y => some (x, y)
          | _, _ => none))
  | _, _ => none

/-- The data of a state that has this shape. -/
def Sh.take (h : Sh) (s : St) : Option h.den :=
  bif Nat.beq h.env.length h.avs.length then takeA s.σ h.obs (h.avs ++ h.args) (h.env.map (lk s.env) ++ s.args) else none

/-! ### A state brought to a shape -/

/-- A new empty slice. -/
def St.empty (s : St) (T : TypeId) (e : Ty) : St := { s with σ := (s.nx, .vec T e []) :: s.σ, nx := s.nx + 1 }

/-- A datum is brought to a type: owned slices are let go where data is wanted, nil becomes an empty slice. -/
def fitD (obs : List OS) : Ty → (t : Ty) → t.den → St → Option (Dat × St)
  | .cons a b, .cons a' b', x, s => bif (Ty.cons a' b').beq (.cons a b) then some (⟨.cons a' b', x⟩, s) else match fitD obs a a' x.1 s with
    | some (y, s1) => match fitD obs b b' x.2 s1 with
      | some (z, s2) => some (⟨.cons y.t z.t, (y.x, z.x)⟩, s2)
      | none => none
    | none => none
  | .ref j, .slice 3 _, _, s => match obs[j]? with
    | some (.vec T e) => bif e.pure then some (⟨.ref s.nx, ()⟩, s.empty T e) else none
    | _ => none
  | .ref _, t', x, s => some (⟨t', x⟩, s)
  | t, t', x, s => bif t'.pure then (match purify s.σ t' x with
      | some z => some (z, s)
      | none => none)
    else bif t.pure then match purify s.σ t' x, s.frz (reach s.σ t') with
      | some z, some s' => some (z, s')
      | _, _ => none
    else some (⟨t', x⟩, s)

/-- A value is brought to a shape. -/
def fitV (obs : List OS) (a : AS) (v : AV) (s : St) : Option (AV × St) :=
  match a, v with
  | .d (.slice 0 e), .nilS => bif e.pure then some (.d (.slice 0 e) [], s) else none
  | .d (.ref j), .nilS => match obs[j]? with
    | some (.vec T e) => bif e.pure then some (.d (.ref s.nx) (), s.empty T e) else none
    | _ => none
  | .d (.ref j), .d (.ref i) x => match obs[j]?, lkO s.σ i with
    | some (.box _ t), .box T t' y => match fitD obs t t' y s with
      | some (z, s') => match lkO s'.σ i with
        | .box _ _ _ => some (.d (.ref i) x, s'.setO i (.box T z.t z.x))
        | _ => none
      | none => none
    | _, _ => some (.d (.ref i) x, s)
  | .d t, .d t' x => match fitD obs t t' x s with
    | some (z, s') => some (z.av, s')
    | none => none
  | .d _, v => match viewA s.σ v, s.frz (v.reach s.σ) with
    | some z, some s' => some (z.av, s')
    | _, _ => none
  | _, v => some (v, s)

def fitE (obs : List OS) : List Nat → List AS → St → Option St
  | i :: l, a :: as, s => match fitV obs a (lk s.env i) s with
    | some (v, s') => fitE obs l as { s' with env := (i, v) :: s'.env }
    | none => none
  | [], [], s => some s
  | _, _, _ => none

/-- The objects in the order in which they are met. -/
def meet (σ : Sto) : Nat → List Nat → List Nat → List Nat
  | 0, _, acc => acc
  | _, [], acc => acc
  | n + 1, i :: l, acc => bif memN i acc then meet σ n l acc else match lkO σ i with
    | .box _ t _ => meet σ n (t.ids ++ l) (acc ++ [i])
    | .gone => meet σ n l acc
    | _ => meet σ n l (acc ++ [i])

mutual
def AV.ids : AV → List Nat
  | .d t _ => t.ids
  | .ptr i _ _ => [i]
  | .eptr i _ _ _ => [i]
  | .sub i _ _ _ => [i]
  | .tup vs => idsL vs
  | _ => []
def idsL : List AV → List Nat
  | [] => []
  | a :: l => a.ids ++ idsL l
end

/-- The k-th of these becomes k. -/
def number : Nat → List Nat → List (Nat × Nat) → List (Nat × Nat)
  | _, [], acc => acc
  | k, i :: l, acc => number (k + 1) l (acc ++ [(perm acc i, k)])

/-- Only these slots; the objects by the names 0, 1, .. -/
def St.canon (s : St) (slots : List Nat) : St :=
  let env := slots.map fun i => (i, lk s.env i)
  let f := perm (number 0 (meet s.σ 100 (idsL (env.map (·.2)) ++ idsL s.args) []) [])
  { env := renEnv f env, args := renL f s.args, σ := renSto f s.σ, nx := s.nx }

def AS.ids : AS → List Nat
  | .d t => t.ids
  | _ => []

def OS.ids : OS → List Nat
  | .box _ t => t.ids
  | _ => []

def ltAll (n : Nat) : List Nat → Bool
  | [] => true
  | i :: l => Nat.blt i n && ltAll n l

def idsAS : List AS → List Nat
  | [] => []
  | a :: l => a.ids ++ idsAS l
def idsOS : List OS → List Nat
  | [] => []
  | a :: l => a.ids ++ idsOS l

/-- It names only its own objects. -/
def Sh.okB (h : Sh) : Bool := ltAll h.obs.length (idsAS (h.avs ++ h.args)) && ltAll h.obs.length (idsOS h.obs)

def Sh.pack (h : Sh) (s : St) : Option h.den :=
  bif h.okB then match fitE h.obs h.env h.avs s with
  | some s' => h.take (s'.canon h.env)
  | none => none
  else none

/-! ### Loops and functions with a typed state -/

/-- One of several ways out, with its data. -/
@[reducible] def Out : List (Ex × Sh) → Type
  | [] => Empty
  | [p] => p.2.den
  | p :: l => p.2.den ⊕ Out l

def Ex.beq : Ex → Ex → Bool
  | .normal, .normal => true
  | .exit i, .exit j => Nat.beq i j
  | .ret, .ret => true
  | _, _ => false

def packOut : (l : List (Ex × Sh)) → Ex → St → Option (Out l)
  | [], _, _ => none
  | [p], e, s => bif p.1.beq e then p.2.pack s else none
  | p :: q :: l, e, s => match (bif p.1.beq e then p.2.pack s else none) with
    | some x => some (.inl x)
    | none => match packOut (q :: l) e s with
      | some x => some (.inr x)
      | none => none

def fillOut : (l : List (Ex × Sh)) → Out l → {R : Type} → (Ex → St → Option R) → Option R
  | [], x, _, _ => nomatch x
  | [p], x, _, k => k p.1 (p.2.fill x)
  | p :: q :: l, x, _, k => match x with
    | .inl y => k p.1 (p.2.fill y)
    | .inr y => fillOut (q :: l) y k

def FUEL : Nat := 18446744073709551616

/-- A loop: the shape at its head, its ways out, what it does. -/
structure LoopF where
  head : Sh
  outs : List (Ex × Sh)
  run : head.den → Option (Out outs)

def LoopF.go (f : LoopF) (s : St) (R : Type) (k : Ex → St → Option R) : Option R :=
  match f.head.pack s with
  | some x => Option.bind (f.run x) fun y => fillOut f.outs y k
  | none => none

def loopsOf (l : List (Nat × LoopF)) : Loops := fun i s R k =>
  match lkF i l with
  | some f => f.go s R k
  | none => none

/-- One round: the data behind it, or the way out. -/
def round (C : Ctx) (L : Loops) (head : Sh) (outs : List (Ex × Sh)) (body : Code) (next : head.den → Option (Out outs)) (x : head.den) : Option (Out outs) :=
  absRun C L body (head.fill x) fun e s => match e with
    | .normal => match head.pack s with
      | some y => next y
      | none => none
    | .exit j => packOut outs (.exit j) s
    | .ret => packOut outs .ret s

/-- n rounds at most. -/
def rounds (C : Ctx) (L : Loops) (head : Sh) (outs : List (Ex × Sh)) (body : Code) : Nat → head.den → Option (Out outs)
  | 0, _ => none
  | n + 1, x => round C L head outs body (rounds C L head outs body n) x

/-- A function: the shape of what it is given (slots: the parameters), its results' slots, the shapes of what it gives back (slots: the results). -/
def funBody (C : Ctx) (L : Loops) (c : Code) (s : St) (outs : List (Ex × Sh)) : Option (Out outs) :=
  absRun C L c s fun e s' => match e with
    | .normal => packOut outs .ret s'
    | .ret => packOut outs .ret s'
    | .exit _ => none

def argEnv : Nat → List AV → Env
  | _, [] => []
  | i, a :: l => (i, a) :: argEnv (i + 1) l

def packRes : List AV → AV
  | [x] => x
  | l => .tup l

def shift (n i : Nat) : Nat := n + i

/-- A typed function, for its callers. -/
def typed (modes : List Bool) (ins : Sh) (outs : List (Ex × Sh)) (f : ins.den → Option (Out outs)) : AFn := fun as σ nx _ k =>
  bif Nat.beq as.length modes.length then match ins.pack { env := argEnv 0 as, args := raws modes as, σ := σ, nx := nx } with
  | some x => Option.bind (f x) fun y => fillOut outs y fun _ s =>
      k (packRes (renL (shift nx) (s.env.map (·.2)))) (renL (shift nx) s.args) (renSto (shift nx) s.σ) (shift nx s.nx)
  | none => none
  else none

/-- Would these arguments be taken? -/
def fitsFor (modes : List Bool) (ins : Sh) (as : List AV) (σ : Sto) : Bool :=
  (ins.pack { env := argEnv 0 as, args := raws modes as, σ := σ, nx := 1000000 }).isSome

end Go.Lift
