/-
  From the model's code to the evaluator's: every type that an operation names is looked up once, and what the evaluator does not know is refused.
-/
import Derived.Test.YtmmpnmekiplhfaaGreatAeIr
namespace Go.Ae
open Go

def okOpd : Operand → Bool
  | .const v => closed v
  | _ => true

/-- The cells of a type's zero value, if they bear no address. -/
def zeroOf (P : Program) (t : TypeId) : Option (List Value) :=
  match P.info? t with
  | some i => match i.zero with
    | some z => if isTuple z = false ∧ z.cells.all plain = true then some z.cells.toList else none
    | none => none
  | none => none

/-- A type's zero value that is one plain value. -/
def zeroV (P : Program) (t : TypeId) : Option Value :=
  match P.info? t with
  | some i => match i.zero with
    | some z => if plain z = true then some z else none
    | none => none
  | none => none

def ldForm (P : Program) (t : TypeId) : Option (Option Nat) :=
  match P.underlying t with
  | some (.struct _) | some (.array _ _) => (P.info? t).map fun i => some i.size
  | some _ => some none
  | none => none

def sizeOf? (P : Program) (t : TypeId) : Option Nat := (P.info? t).map fun i => i.size

/-- The places of the parts of a struct. -/
def compParts (place : Nat → Option (Nat × Nat)) : List (Nat × Operand) → Option (List (Nat × Nat × Operand))
  | [] => some []
  | (i, x) :: ps => (place i).bind fun p => (compParts place ps).map fun r => (p.1, p.2, x) :: r

def fieldPlaces (P : Program) (fs : Array Field) (i : Nat) : Option (Nat × Nat) :=
  (fs[i]?).bind fun f => (sizeOf? P f.type).map fun n => (f.offset, n)

def allSized (P : Program) (fs : Array Field) : Bool := fs.all fun f => (P.info? f.type).isSome

def isInt (P : Program) (t : TypeId) : Bool := match P.underlying t with | some (.int _) => true | _ => false
def isBool (P : Program) (t : TypeId) : Bool := match P.underlying t with | some .bool => true | _ => false
def nilKind (P : Program) (t : TypeId) : Option Nat :=
  match P.underlying t with
  | some (.pointer _) => some 0
  | some (.slice _) => some 1
  | some (.map _ _) => some 2
  | some (.func _ _ _) => some 3
  | some (.interface _) => some 4
  | _ => none
def nilConst : Operand → Bool
  | .const v => (match v with | .pointer none | .slice none _ _ | .map none | .nilFunc | .nilIface => true | _ => false)
  | _ => false

/-- The places of a struct's parts, if these are numbers and truth values alone. -/
def flatOffs (P : Program) (t : TypeId) : Option (List (Nat × Bool)) :=
  match P.underlying t with
  | some (.struct fs) =>
    if (fs.toList.all fun f => (isInt P f.type || isBool P f.type) && f.name != "_") = true ∧ P.stoodInHeld t = false ∧ P.eqGuardType P.depth t = false then some (fs.toList.map fun f => (f.offset, isInt P f.type)) else none
  | _ => none
def isStr (P : Program) (t : TypeId) : Bool := match P.underlying t with | some .string => true | _ => false
def isBytes (P : Program) (t : TypeId) : Bool := match P.underlying t with
  | some (.slice e) => (match P.underlying e with | some (.int .u8) => true | _ => false)
  | _ => false

/-- The methods of a name, by dynamic type: the function, and whether the receiver is loaded. -/
def methodAt (P : Program) (name : String) (t : TypeId) : Option (TypeId × FuncId × Option (Option Nat)) :=
  match P.info? t with
  | none => none
  | some i => match i.methods.find? (·.name == name) with
    | none => none
    | some m => match m.path.isEmpty, m.func, P.underlying t with
      | true, some (f, true), some (.pointer _) => some (t, f, none)
      | true, some (f, false), some (.pointer e) => (ldForm P e).map fun n => (t, f, some n)
      | true, some (_, false), some (.interface _) => none
      | true, some (f, false), some _ => some (t, f, none)
      | _, _, _ => none

def methodsOf (P : Program) (name : String) : List (TypeId × FuncId × Option (Option Nat)) :=
  (List.range P.types.size).filterMap (methodAt P name)

/-- Is a name's method that of an interface that the struct embeds? Where. -/
def embedAt (P : Program) (name : String) (t : TypeId) : Option (TypeId × Nat) :=
  match P.info? t with
  | none => none
  | some i => match i.methods.find? (·.name == name) with
    | none => none
    | some m => match m.path.toList, m.func with
      | [s], none => match s.deref, P.underlying s.struct with
        | false, some (.struct fs) => match fs[s.index]? with
          | some f => if ldForm P f.type = some none then some (t, f.offset) else none
          | none => none
        | _, _ => none
      | _, _ => none

def embedsOf (P : Program) (name : String) : List (TypeId × Nat) :=
  (List.range P.types.size).filterMap (embedAt P name)

def comp (P : Program) (o : Oper) : Option I :=
  match o.op with
  | .move x => some (.mv x)
  | .assign x => some (.mv x)
  | .pick c a b => some (.pick c a b)
  | .alloc t => (zeroOf P t).map .new
  | .box _ x => some (.box x)
  | .build t ps => match P.underlying t, zeroOf P t with
    | some (.struct fs), some z => if allSized P fs then (compParts (fieldPlaces P fs) ps.toList).map fun r => .mk z r else none
    | some (.array _ e), some z => match sizeOf? P e with
      | some n => (compParts (fun i => some (i * n, n)) ps.toList).map fun r => .mk z r
      | none => none
    | _, _ => none
  | .buildSlice t len ps => match P.underlying t with
    | some (.slice e) => match sizeOf? P e, zeroOf P e with
      | some n, some z => if len * n ≤ 2 ^ 24 ∧ z.length = n ∧ 0 < n then (compParts (fun i => some (i * n, n)) ps.toList).map fun r => .mkSl (reps len z) len r else none
      | _, _ => none
    | _ => none
  | .load t a => (ldForm P t).map fun n => .ld n a
  | .store t a x => (sizeOf? P t).map fun n => .st n a x
  | .nilCheck x => some (.nn x)
  | .binOp op t x y _ =>
    if isInt P t then some (.bin op x y)
    else if isBool P t then (match op with | .eql => some (.beq false x y) | .neq => some (.beq true x y) | _ => none)
    else if isStr P t then (match op with | .eql => some (.sqs false x y) | .neq => some (.sqs true x y) | _ => none)
    else match flatOffs P t with
    | some l => (match op with | .eql => some (.eqs l false x y) | .neq => some (.eqs l true x y) | _ => none)
    | none => match nilKind P t, nilConst x || nilConst y with
      | some k, true => (match op with | .eql => some (.nil k false x y) | .neq => some (.nil k true x y) | _ => none)
      | _, _ => none
  | .unOp op _ x => some (.un op x)
  | .convert s t x => match P.underlying s, P.underlying t with
    | some _, some (.int k) => some (.conv k x)
    | some (.slice _), some .string => if isBytes P s then some (.str x) else none
    | _, _ => none
  | .makeInterface t x => match P.underlying t with
    | some (.interface _) => none
    | some _ => some (.ifc t x)
    | none => none
  | .makeFunc (.func f) a b => some (.fn f a.toList b.toList)
  | .makeSlice t l c => match P.underlying t with
    | some (.slice e) => match P.info? e, zeroOf P e with
      | some i, some z => if z.length = i.size ∧ 0 < i.size then some (.mkS z i.bytes l c) else none
      | _, _ => none
    | _ => none
  | .slice t x lo hi mx => match P.underlying t with
    | some (.slice e) => if mx.isSome = true ∧ hi.isNone = true then none else (sizeOf? P e).map fun n => .slc n x lo hi mx
    | _ => none
  | .fieldAddr t x f => match P.underlying t with
    | some (.struct fs) => match fs[f]? with
      | some fd => match sizeOf? P fd.type with
        | some n => if n = 0 then none else some (.fa fd.offset x)
        | none => none
      | none => none
    | _ => none
  | .field t x f => match P.underlying t with
    | some (.struct fs) => match fs[f]? with
      | some fd => (ldForm P fd.type).map fun n => .fld fd.offset n x
      | none => none
    | _ => none
  | .indexAddr t x i => match P.underlying t with
    | some (.slice e) => (sizeOf? P e).map fun n => .ia n x i
    | some (.array len e) => (sizeOf? P e).map fun n => .iaa len n x i
    | _ => none
  | .index t x i => match P.underlying t with
    | some (.array len e) => match sizeOf? P e, ldForm P e with
      | some n, some m => some (.idx len n m x i)
      | _, _ => none
    | some .string => some (.sidx x i)
    | _ => none
  | .lookup t x i ok => match P.underlying t with
    | some (.map kt et) => match P.underlying kt, zeroV P et with
      | some (.int k), some z => some (.mpl k z ok x i)
      | _, _ => none
    | _ => none
  | .makeMap _ none => some .mpn
  | .mapUpdate t m i x => match P.underlying t with
    | some (.map kt _) => (match P.underlying kt with | some (.int k) => some (.mpu k m i x) | _ => none)
    | _ => none
  | .insert t m i x => match P.underlying t with
    | some (.map kt _) => (match P.underlying kt with | some (.int k) => some (.mpu k m i x) | _ => none)
    | _ => none
  | .mapEntry t m i => match P.underlying t with
    | some (.map kt et) => match P.underlying kt, zeroV P et with
      | some (.int k), some z => some (.mpe k z m i)
      | _, _ => none
    | _ => none
  | .entryStore _ m s x => some (.mps m s x)
  | .extract x i => some (.ext x i)
  | .typeAssert x _ t false => match P.underlying t with
    | some (.interface _) => none
    | some _ => some (.ta t x)
    | none => none
  | .call ⟨.builtin .len, args, ts⟩ => match args.toList, ts.toList with
    | [x], [t] => (match P.underlying t with | some (.slice _) => some (.len x) | some .string => some (.slen x) | _ => none)
    | _, _ => none
  | .call ⟨.builtin .cap, args, ts⟩ => match args.toList, ts.toList with
    | [x], [t] => (match P.underlying t with | some (.slice _) => some (.cap x) | _ => none)
    | _, _ => none
  | .call ⟨.builtin .append, args, ts⟩ => match args.toList, ts.toList with
    | [x, y], [t, u] => (match P.underlying t, P.underlying u with
      | some (.slice e), some (.slice _) => match P.info? e, zeroOf P e with
        | some i, some z => if 0 < i.size ∧ 0 < i.bytes ∧ z.length = i.size then some (.app i.size i.bytes x y) else none
        | _, _ => none
      | _, _ => none)
    | _, _ => none
  | .call ⟨.builtin .clear, args, ts⟩ => match args.toList, ts.toList with
    | [x], [t] => (match P.underlying t with
      | some (.slice e) => (zeroOf P e).map fun z => .clr z x
      | _ => none)
    | _, _ => none
  | .call ⟨.builtin .copy, args, ts⟩ => match args.toList, ts.toList with
    | [x, y], [t, u] => (match P.underlying t, P.underlying u with
      | some (.slice e), some (.slice _) => (sizeOf? P e).map fun n => .cpy n x y
      | _, _ => none)
    | _, _ => none
  | .call ⟨.builtin .min, args, _⟩ => match args.toList with
    | x :: xs => some (.mm false x xs)
    | [] => none
  | .call ⟨.builtin .max, args, _⟩ => match args.toList with
    | x :: xs => some (.mm true x xs)
    | [] => none
  | _ => none

def compK (P : Program) (o : Oper) : Option K :=
  match o.op with
  | .call ⟨.value (.func f), args, _⟩ => some (.call f args.toList)
  | .call ⟨.value x, args, _⟩ => some (.callv x args.toList)
  | .call ⟨.invoke x name, args, _⟩ => some (.inv x (embedsOf P name) (methodsOf P name) args.toList)
  | _ => (comp P o).map .op

def compG (ops : Array Oper) : Option (Nat × Bool) → Option (Option (Nat × Bool))
  | none => some none
  | some (j, want) => ((ops[j]?).bind (·.dst)).map fun d => some (d, want)

def dstOk (nt : Nat) : Option Nat → Bool
  | some d => decide (d < nt)
  | none => true

def compO (P : Program) (nt : Nat) (ops : Array Oper) (o : Oper) : Option O :=
  if o.op.operands.all okOpd = true ∧ dstOk nt o.dst = true then
    (compG ops o.guard).bind fun gd => (compK P o).map fun k => ⟨o.dst, gd, k⟩
  else none

def compOs (P : Program) (nt : Nat) (ops : Array Oper) : List Oper → Option (List O)
  | [] => some []
  | o :: os => (compO P nt ops o).bind fun x => (compOs P nt ops os).map fun xs => x :: xs

/-- What each operation of a region must stand behind, as a mask. -/
def maskOf (acc : List Nat) (o : Oper) : Nat :=
  o.after.toList.foldl (fun s e => if Region.binds .any e then s ||| 2 ^ e.on ||| acc.getD e.on 0 else s) 0
def masks : List Oper → List Nat → List Nat
  | [], acc => acc
  | o :: os, acc => masks os (acc ++ [maskOf acc o])

def apartO (a b : O) : Bool :=
  (match a.dst with | some d => !b.names.contains d && b.dst != some d | none => true) &&
  (match b.dst with | some d => !a.names.contains d | none => true)

def opdEq : Operand → Operand → Bool
  | .tmp a, .tmp b => a == b
  | _, _ => false

def hasChk (b a : DO) : Bool :=
  match a.o.k.load, a.o.dst with
  | some (n, x), some d => b.chks.any fun c => c.1 == n && opdEq c.2.1 x && c.2.2.1 == d && c.2.2.2 == a.o.g
  | _, _ => false

def cTmps (c : Option Nat × Operand × Nat × Option (Nat × Bool)) : List Nat := c.2.2.1 :: ((tmpOf c.2.1).toList ++ (match c.2.2.2 with | some (d, _) => [d] | none => []))
def chkTmps (d : DO) : List Nat := d.chks.flatMap cTmps

def mild (k : K) : Bool := k.quiet || k.alloc || k.load.isSome

/-- What a load named, and where it laid what it found, stays. -/
def loadKeep (a b : O) : Bool :=
  a.k.load.isNone || (match b.dst with | some d => !a.names.contains d && a.dst != some d | none => true)

/-- May b be run ahead of a, which stands in front of it? -/
def free (a b : DO) : Bool :=
  apartO a.o b.o &&
  ((b.o.k.quiet && (match b.o.dst with | some d => !(chkTmps a).contains d | none => true)) ||
   ((b.o.k.load.isSome || b.o.k.alloc) && mild a.o.k) ||
   (!mild b.o.k && (a.o.k.quiet || (a.o.k.load.isSome && hasChk b a))) ||
   (b.o.k.alloc && !mild a.o.k && (match b.o.dst with | some d => !(chkTmps a).contains d | none => true)))

def pairOk (ms : List Nat) (a b : DO) : Bool :=
  !(ms.getD a.ix 0).testBit b.ix && ((ms.getD b.ix 0).testBit a.ix || free a b) && a.ix != b.ix && loadKeep a.o b.o && (a.q.isNone || b.q.isNone || a.q != b.q)

def pairsOk (ms : List Nat) : List DO → Bool
  | [] => true
  | d :: ds => ds.all (pairOk ms d) && pairsOk ms ds

def selfOk (o : O) : Bool := o.k.load.isNone || (match o.dst with | some d => !o.names.contains d | none => true)

def soleOk (m n : Nat) (d : DO) : Bool :=
  selfOk d.o && decide (d.ix < n) && (match d.q with | some q => d.o.k.alloc && decide (q < m) | none => !d.o.k.alloc) && (d.chks.isEmpty || !mild d.o.k)

def edgesOk (n : Nat) (o : Oper) : Bool := o.after.all fun e => !Region.binds .any e || decide (e.on < n)

def okD (ops : Array Oper) (m : Nat) (ds : List DO) : Bool :=
  decide (ds.length = ops.size) && (List.range ops.size).all (fun i => ds.any (·.ix == i)) && ops.all (edgesOk ops.size) && ds.all (soleOk m ops.size) && ds.all (fun d => !((masks ops.toList []).getD d.ix 0).testBit d.ix) && pairsOk (masks ops.toList []) ds

/-- An order in which loads come early and new blocks late. -/
def pick1 (p : Nat → Bool) : List Nat → Option Nat
  | [] => none
  | i :: is => if p i then some i else pick1 p is

def orderD (ks : List K) (ms : List Nat) : Nat → List Nat → Nat → List Nat
  | 0, _, _ => []
  | f + 1, left, done =>
    let k (i : Nat) : K := ks.getD i (.op (.mv (.global 0)))
    let rdy (i : Nat) : Bool := (ms.getD i 0) &&& done == ms.getD i 0
    let go (i : Nat) : List Nat := i :: orderD ks ms f (left.erase i) (done ||| 2 ^ i)
    match pick1 (fun i => ((k i).quiet || (k i).load.isSome) && rdy i) left with
    | some i => go i
    | none =>
      match pick1 (fun i => !mild (k i)) left with
      | some a => if rdy a then go a else
        match pick1 (fun i => (k i).alloc && rdy i && (ms.getD a 0).testBit i) left with
        | some i => go i
        | none => []
      | none =>
        match pick1 (fun i => (k i).alloc && rdy i) left with
        | some i => go i
        | none => []

def mkD (ms : List Nat) (xs : List O) : List Nat → Nat → List (Nat × Option Nat × Operand × Nat × Option (Nat × Bool)) → List DO
  | [], _, _ => []
  | i :: is, q, ls =>
    match xs[i]? with
    | none => []
    | some x =>
      if x.k.alloc then ⟨i, x, some q, []⟩ :: mkD ms xs is (q + 1) ls
      else match x.k.load, x.dst with
        | some (n, a), some d => ⟨i, x, none, []⟩ :: mkD ms xs is q ((i, n, a, d, x.g) :: ls)
        | _, _ => ⟨i, x, none, if mild x.k then [] else (ls.filter fun l => !(ms.getD i 0).testBit l.1).map (·.2)⟩ :: mkD ms xs is q ls

def compD (P : Program) (nt : Nat) (ops : Array Oper) : Option C :=
  if P.follows .mixedOrders then
    (compOs P nt ops ops.toList).bind fun xs =>
      let ms := masks ops.toList []
      let ds := mkD ms xs (orderD (xs.map (·.k)) ms ops.size (List.range ops.size) 0) 0 []
      let m := (xs.filter (·.k.alloc)).length
      if okD ops m ds = true then some (.regD m ds) else none
  else none

/-- The label on the spine of a code, and what stands behind it. -/
def firstL : C → Option Nat
  | .seq a b => (match firstL a with | some l => some l | none => firstL b)
  | .label l => some l
  | _ => none
def findL : C → Nat → Option C
  | .seq a b, l => (match findL a l with | some r => some (.seq r b) | none => findL b l)
  | .label l', l => if l' == l then some .skip else none
  | _, _ => none

def compC (P : Program) (nt : Nat) : Code → Option C
  | .skip => some .skip
  | .region _ ops draw => if draw then compD P nt ops else (compOs P nt ops ops.toList).map .reg
  | .seq a b => (compC P nt a).bind fun x => (compC P nt b).map fun y => .seq x y
  | .cond c a b => if okOpd c then (compC P nt a).bind fun x => (compC P nt b).map fun y => .cond c x y else none
  | .block id c => (compC P nt c).map (C.block id)
  | .loop c => (compC P nt c).map C.loop
  | .exit id => some (.exit id)
  | .ret => some .ret
  | .label l => some (.label l)
  | .goto l => some (.goto l)
  | .scope c => (compC P nt c).bind fun x => (firstL x).bind fun l => (findL x l).map (.scope l x)
  | _ => none

def compR (P : Program) : ResultVar → Option Rs
  | .tmp t => some (.tmp t)
  | .cell a t => (ldForm P t).map fun n => .cell a n

def compRs (P : Program) : List ResultVar → Option (List Rs)
  | [] => some []
  | r :: rs => (compR P r).bind fun x => (compRs P rs).map fun xs => x :: xs

/-- Functions that are entered: with a body, and not the one that the machine answers itself. -/
def enters (fn : Func) : Bool := fn.body.isSome && !(fn.name == "runtime.NumGoroutine")

def compFn (P : Program) (f : FuncId) : Option Fn' :=
  match P.funcs[f]? with
  | none => none
  | some fn => if enters fn then
      match fn.body with
      | none => none
      | some c => (compC P fn.ntmps c).bind fun code => (compRs P fn.results.toList).map fun res => ⟨code, res⟩
    else none
end Go.Ae
