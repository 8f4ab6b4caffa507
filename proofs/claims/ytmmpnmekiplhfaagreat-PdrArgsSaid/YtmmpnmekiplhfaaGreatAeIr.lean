/-
  The evaluator: operations with their types' sizes written in, and what they do to temporaries and an abstract heap. All is plain recursion, for the kernel.
-/
import Derived.Test.YtmmpnmekiplhfaaGreatAeMem
namespace Go.Ae
open Go

/-- An operation that is no call. -/
inductive I where
  | mv (x : Operand)
  | pick (c a b : Operand)
  | new (zs : List Value)
  | box (x : Operand)
  | mk (zs : List Value) (ps : List (Nat × Nat × Operand))
  | mkSl (zs : List Value) (len : Nat) (ps : List (Nat × Nat × Operand))
  | ld (n : Option Nat) (a : Operand)
  | st (n : Nat) (a x : Operand)
  | nn (x : Operand)
  | bin (op : BinOp) (x y : Operand)
  | beq (neg : Bool) (x y : Operand)
  | nil (kind : Nat) (neg : Bool) (x y : Operand)
  | un (op : UnOp) (x : Operand)
  | conv (k : IntKind) (x : Operand)
  | ifc (t : TypeId) (x : Operand)
  | fn (f : FuncId) (first captured : List Operand)
  | mkS (z : List Value) (bytes : Nat) (len cap : Operand)
  | slc (sz : Nat) (x : Operand) (lo hi mx : Option Operand)
  | fa (off : Nat) (x : Operand)
  | ia (sz : Nat) (x i : Operand)
  | ext (x : Operand) (i : Nat)
  | len (x : Operand)
  | slen (x : Operand)
  | app (sz bytes : Nat) (x y : Operand)
  | clr (z : List Value) (x : Operand)
  | mm (isMax : Bool) (x : Operand) (xs : List Operand)
  | ta (t : TypeId) (x : Operand)
  | fld (off : Nat) (n : Option Nat) (x : Operand)
  | eqs (offs : List (Nat × Bool)) (neg : Bool) (x y : Operand)
  | sqs (neg : Bool) (x y : Operand)
  | str (x : Operand)
  | idx (len sz : Nat) (n : Option Nat) (x i : Operand)
  | iaa (len sz : Nat) (x i : Operand)
  | cpy (sz : Nat) (x y : Operand)
  | cap (x : Operand)
  | sidx (x i : Operand)
  | mpn
  | mpl (k : IntKind) (z : Value) (ok : Bool) (x i : Operand)
  | mpu (k : IntKind) (m i x : Operand)
  | mpe (k : IntKind) (z : Value) (m i : Operand)
  | mps (m s x : Operand)

/-- An operation: one of these, or a call. -/
inductive K where
  | op (i : I)
  | call (f : FuncId) (args : List Operand)
  | callv (x : Operand) (args : List Operand)
  | inv (x : Operand) (em : List (TypeId × Nat)) (tab : List (TypeId × FuncId × Option (Option Nat))) (args : List Operand)

structure O where
  dst : Option Nat
  g : Option (Nat × Bool)
  k : K

inductive Ex where
  | normal
  | exit (id : Nat)
  | ret
  | goto (l : Nat)

/-- Where a result lies: in a temporary, or in a variable. -/
inductive Rs where
  | tmp (t : Nat)
  | cell (t : Nat) (n : Option Nat)

abbrev Tm := Tr Value
def g (T : Tm) (t : Nat) : Value := match T.get t with | some v => v | none => undef
def Tm.set (T : Tm) (d : Option Nat) (v : Value) : Tm := match d with | some d => T.put d v | none => T

def rho (T : Tm) : Operand → Value
  | .tmp t => g T t
  | .const v => v
  | .global _ => junk
  | .func f => .func (.func f) #[] #[]

def isTuple : Value → Bool
  | .tuple _ => true
  | _ => false

def adr : Value → Option (Nat × Nat)
  | .pointer (some ⟨i, o, none⟩) => some (i, o)
  | _ => none

def binI : BinOp → IntKind → Int → Int → Option Value
  | .add, k, a, b => some (.int k (k.wrap (a + b)))
  | .sub, k, a, b => some (.int k (k.wrap (a - b)))
  | .mul, k, a, b => some (.int k (k.wrap (a * b)))
  | .quo, k, a, b => if b = 0 then none else some (.int k (k.wrap (a.tdiv b)))
  | .rem, k, a, b => if b = 0 then none else some (.int k (a.tmod b))
  | .and, k, a, b => some (.int k (k.wrap (BitVec.ofInt k.bits a &&& BitVec.ofInt k.bits b).toNat))
  | .or, k, a, b => some (.int k (k.wrap (BitVec.ofInt k.bits a ||| BitVec.ofInt k.bits b).toNat))
  | .xor, k, a, b => some (.int k (k.wrap (BitVec.ofInt k.bits a ^^^ BitVec.ofInt k.bits b).toNat))
  | .andNot, k, a, b => some (.int k (k.wrap (BitVec.ofInt k.bits a &&& ~~~ BitVec.ofInt k.bits b).toNat))
  | .eql, _, a, b => some (.bool (a == b))
  | .neq, _, a, b => some (.bool (a != b))
  | .lss, _, a, b => some (.bool (decide (a < b)))
  | .leq, _, a, b => some (.bool (decide (a ≤ b)))
  | .gtr, _, a, b => some (.bool (decide (a > b)))
  | .geq, _, a, b => some (.bool (decide (a ≥ b)))
  | _, _, _, _ => none

def shf : BinOp → IntKind → Int → Int → Option Value
  | .shl, k, a, b => if b < 0 then none else some (.int k (k.wrap (a * 2 ^ min b.toNat k.bits)))
  | .shr, k, a, b => if b < 0 then none else some (.int k (a.fdiv (2 ^ min b.toNat k.bits)))
  | _, _, _, _ => none

def bin (op : BinOp) : Value → Value → Option Value
  | .int k a, .int k' b => match op with
    | .shl | .shr => shf op k a b
    | _ => if k = k' then binI op k a b else none
  | _, _ => none

/-- Is one of the two, of which the one is nil, nil? By the kind of their type: pointers, slices, maps, functions, interfaces. -/
def nilEq : Nat → Value → Value → Option Bool
  | 0, .pointer none, .pointer b => some b.isNone
  | 0, .pointer (some _), .pointer none => some false
  | 1, .slice none _ _, .slice b _ _ => some b.isNone
  | 1, .slice (some _) _ _, .slice none _ _ => some false
  | 2, .map none, .map b => some b.isNone
  | 2, .map (some _), .map none => some false
  | 3, .nilFunc, .nilFunc => some true
  | 3, .nilFunc, .func _ _ _ => some false
  | 3, .func _ _ _, .nilFunc => some false
  | 4, .nilIface, .nilIface => some true
  | 4, .nilIface, .iface _ _ => some false
  | 4, .iface _ _, .nilIface => some false
  | _, _, _ => none

def un : UnOp → Value → Option Value
  | .neg, .int k n => some (.int k (k.wrap (0 - n)))
  | .xor, .int k n => binI .xor k (if k.signed then -1 else k.max) n
  | .not, .bool b => some (.bool !b)
  | _, _ => none

/-- Parts laid into cells. -/
def fill' : List Value → List (Nat × Nat × Value) → Option (List Value)
  | cs, [] => some cs
  | cs, (off, sz, v) :: ps =>
    if isTuple v = false ∧ v.cells.size = sz ∧ off + v.cells.size ≤ cs.length then fill' (put cs off v.cells.toList) ps else none

def parts' (ρ : Operand → Value) (ps : List (Nat × Nat × Operand)) : List (Nat × Nat × Value) := ps.map fun p => (p.1, p.2.1, ρ p.2.2)

def reps (n : Nat) : List Value → List Value
  | [] => []
  | [v] => List.replicate n v
  | z => (List.replicate n z).flatten

def natOf : Value → Option Nat
  | .int _ n => if 0 ≤ n then some n.toNat else none
  | _ => none

/-- A slice of a slice. -/
def slc (sz : Nat) (x : Value) (lo hi mx : Option Nat) : Option Value :=
  match x with
  | .slice none len cap =>
    let m := mx.getD cap; let h := hi.getD len; let l := lo.getD 0
    if l ≤ h ∧ h ≤ m ∧ m ≤ cap then some (.slice none (h - l) (m - l)) else none
  | .slice (some ⟨i, o, none⟩) len cap =>
    let m := mx.getD cap; let h := hi.getD len; let l := lo.getD 0
    if l ≤ h ∧ h ≤ m ∧ m ≤ cap then some (.slice (some ⟨i, if m = l then o else o + l * sz, none⟩) (h - l) (m - l)) else none
  | .slice (some ⟨i, o, some s⟩) len cap =>
    let m := mx.getD cap; let h := hi.getD len; let l := lo.getD 0
    if s = sz ∧ l ≤ h ∧ h ≤ m ∧ m ≤ cap then
      match mx with
      | none => some (.slice (some ⟨i, o + l * sz, some s⟩) (h - l) (m - l))
      | some _ => if cap = 0 then none else some (.slice (some ⟨i, if m = l then o else o + l * sz, none⟩) (h - l) (m - l))
    else none
  | _ => none

def optNat : Option Value → Option (Option Nat)
  | none => some none
  | some v => (natOf v).map some

/-- The cells of a slice's first elements. -/
def cellsOf (h : H) (sz n : Nat) : Value → Option (List Value)
  | .slice (some ⟨i, o, _⟩) _ _ => if n * sz = 0 then some [] else h.lds i o (n * sz)
  | .slice none _ _ => if n = 0 then some [] else none
  | _ => none

def lenOf : Value → Option Nat
  | .slice _ n _ => some n
  | _ => none

/-- append: in place where there is surely room; of a slice whose capacity is not known the old block is given up. -/
def app (h : H) (sz bytes : Nat) (x y : Value) : Option (Value × H) :=
  match x, lenOf y with
  | .slice base len cap, some n =>
    if n = 0 then (if len ≤ cap then some (x, h) else none) else
    (cellsOf h sz n y).bind fun new =>
    if len + n ≤ cap then
      match base with
      | some ⟨i, o, s⟩ => (h.sts i (o + len * sz) new).map fun h' => (.slice (some ⟨i, o, s⟩) (len + n) cap, h')
      | none => none
    else if (len + n) * bytes ≤ 140737488355328 then
      (cellsOf h sz len x).bind fun old =>
      match base with
      | some ⟨i, _, some s⟩ =>
        (h.get i).bind fun k =>
        if k.ro = false ∧ s = sz ∧ new.all Value.oneCell' = true then
          some (.slice (some ⟨h.next, 0, some sz⟩) (len + n) (len + n), (h.set i none).new ⟨old ++ new, false⟩)
        else none
      | _ => some (.slice (some ⟨h.next, 0, some sz⟩) (len + n) (len + n), h.new ⟨old ++ new, false⟩)
    else none
  | _, _ => none

def mmI (isMax : Bool) : IntKind → Int → List Value → Option Value
  | k, a, [] => some (.int k a)
  | k, a, .int _ b :: xs => mmI isMax k (if isMax then (if b > a then b else a) else (if b < a then b else a)) xs
  | _, _, _ => none

def fld (off : Nat) (n : Option Nat) : Value → Option Value
  | .agg cs => match n with
    | none => cs[off]?
    | some n => if off + n ≤ cs.size then some (.agg (cs.extract off (off + n))) else none
  | _ => none

/-- Are the cells of two rows, at these places, the same? -/
def aggEq : List (Nat × Bool) → Array Value → Array Value → Option Bool
  | [], _, _ => some true
  | (o, n) :: os, xs, ys => match xs[o]?, ys[o]? with
    | some (.int k a), some (.int k' b) => if k = k' ∧ n = true then (if a == b then aggEq os xs ys else some false) else none
    | some (.bool a), some (.bool b) => if n = false then (if a == b then aggEq os xs ys else some false) else none
    | _, _ => none

def bytesOf : List Value → Option (List Int)
  | [] => some []
  | .int .u8 n :: vs => (bytesOf vs).map fun l => n :: l
  | _ => none
def strOf (ns : List Int) : ByteArray := ⟨(ns.map fun n => UInt8.ofNat n.toNat).toArray⟩

/-- What copy does. -/
def cpy (h : H) (sz : Nat) (x y : Value) : Option (Value × H) :=
  match x, lenOf y with
  | .slice base d _, some m =>
    if Nat.min m d = 0 then some (.int .i64 0, h) else
    (cellsOf h sz (Nat.min m d) y).bind fun new => match base with
      | some ⟨i, o, _⟩ => (h.sts i o new).map fun h' => (.int .i64 (Nat.min m d : Nat), h')
      | none => none
  | _, _ => none

/-- Where a key of one integer kind stands in a map, and what it has. -/
def mfind (k : IntKind) (n : Int) : List MapEntry → Nat → Option (Option (Nat × Value))
  | [], _ => some none
  | e :: es, i => match e.key with
    | .int k' m => if k = k' then (if n == m then some (some (i, e.val)) else mfind k n es (i + 1)) else none
    | _ => none

def mlook (h : H) (k : IntKind) (z : Value) : Value → Value → Option (Value × Bool)
  | .map none, .int _ _ => some (z, false)
  | .map (some r), .int k' n => if k = k' then (h.mget r).bind fun m => (mfind k n m.es 0).bind fun o => match o with
      | some (_, v) => if plain v = true then some (v, true) else none
      | none => some (z, false)
    else none
  | _, _ => none

def mput (h : H) (k : IntKind) (m i x : Value) : Option H :=
  match m, i with
  | .map (some r), .int k' n => if k = k' ∧ plain x = true then (h.mget r).bind fun m => (mfind k n m.es 0).map fun o => match o with
      | some (j, _) => h.setMap r ⟨m.es.modify j fun e => { e with key := .int k n, val := x }, m.ck⟩
      | none => h.setMap r ⟨m.es ++ [⟨.int k n, x, m.ck⟩], m.ck + 1⟩
    else none
  | _, _ => none

def mentry (h : H) (k : IntKind) (z : Value) (m i : Value) : Option (Value × H) :=
  match m, i with
  | .map (some r), .int k' n => if k = k' then (h.mget r).bind fun m => (mfind k n m.es 0).bind fun o => match o with
      | some (j, v) => if plain v = true then some (.tuple #[v, .int .i64 (((m.es[j]?).map (·.born)).getD 0 : Nat)], h.setMap r ⟨m.es.modify j fun e => { e with key := .int k n }, m.ck⟩) else none
      | none => some (.tuple #[z, .int .i64 m.ck], h.setMap r ⟨m.es ++ [⟨.int k n, z, m.ck⟩], m.ck + 1⟩)
    else none
  | _, _ => none

def mborn (n : Int) : List MapEntry → Nat → Option Nat
  | [], _ => none
  | e :: es, i => if (e.born : Int) == n then some i else mborn n es (i + 1)

def mstore (h : H) (m s x : Value) : Option H :=
  match m, s with
  | .map (some r), .int _ n => if plain x = true then (h.mget r).bind fun m => (mborn n m.es 0).map fun j => h.setMap r ⟨m.es.modify j fun e => { e with val := x }, m.ck⟩ else none
  | _, _ => none

def evI (ρ : Operand → Value) (h : H) : I → Option (Value × H)
  | .mv x => some (ρ x, h)
  | .pick c a b => match ρ c with | .bool t => some (if t then ρ a else ρ b, h) | _ => none
  | .new zs => some (.pointer (some ⟨h.next, 0, none⟩), h.new ⟨zs, false⟩)
  | .box x => if isTuple (ρ x) then none else some (.pointer (some ⟨h.next, 0, none⟩), h.new ⟨(ρ x).cells.toList, false⟩)
  | .mk zs ps => (fill' zs (parts' ρ ps)).map fun cs => (.agg cs.toArray, h)
  | .mkSl zs len ps => (fill' zs (parts' ρ ps)).map fun cs => (.slice (some ⟨h.next, 0, none⟩) len len, h.new ⟨cs, false⟩)
  | .ld n a => (adr (ρ a)).bind fun p => match n with
    | none => (h.ld p.1 p.2).map fun v => (v, h)
    | some n => (h.lds p.1 p.2 n).map fun vs => (.agg vs.toArray, h)
  | .st n a x => (adr (ρ a)).bind fun p =>
    if isTuple (ρ x) = false ∧ (ρ x).cells.size = n then (h.sts p.1 p.2 (ρ x).cells.toList).map fun h' => (undef, h') else none
  | .nn x => match ρ x with
    | .pointer (some a) => some (.pointer (some a), h)
    | .func (.func f) a b => some (.func (.func f) a b, h)
    | .iface t v => some (.iface t v, h)
    | _ => none
  | .bin op x y => (bin op (ρ x) (ρ y)).map fun v => (v, h)
  | .beq neg x y => match ρ x, ρ y with | .bool a, .bool b => some (.bool ((a == b) != neg), h) | _, _ => none
  | .nil k neg x y => (nilEq k (ρ x) (ρ y)).map fun b => (.bool (b != neg), h)
  | .un op x => (un op (ρ x)).map fun v => (v, h)
  | .conv k x => match ρ x with | .int _ n => some (.int k (k.wrap n), h) | _ => none
  | .ifc t x => some (.iface t (ρ x), h)
  | .fn f a b => some (.func (.func f) (a.map ρ).toArray (b.map ρ).toArray, h)
  | .mkS z bytes len cap => match natOf (ρ len), natOf (ρ cap) with
    | some l, some c => if l ≤ c ∧ c ≤ 2 ^ 48 ∧ bytes * c ≤ 2 ^ 48 then some (.slice (some ⟨h.next, 0, none⟩) l c, h.new ⟨reps c z, false⟩) else none
    | _, _ => none
  | .slc sz x lo hi mx => (optNat (lo.map ρ)).bind fun lo => (optNat (hi.map ρ)).bind fun hi => (optNat (mx.map ρ)).bind fun mx =>
    (slc sz (ρ x) lo hi mx).map fun v => (v, h)
  | .fa off x => (adr (ρ x)).map fun p => (.pointer (some ⟨p.1, p.2 + off, none⟩), h)
  | .ia sz x i => match ρ x, natOf (ρ i) with
    | .slice (some ⟨b, o, _⟩) len _, some n => if n < len then some (.pointer (some ⟨b, o + n * sz, none⟩), h) else none
    | _, _ => none
  | .ext x i => match ρ x with
    | .tuple vs => if 2 ≤ vs.size then (vs[i]?).map fun v => (v, h) else none
    | _ => none
  | .len x => match ρ x with
    | .slice _ n _ => some (.int .i64 n, h)
    | _ => none
  | .slen x => match ρ x with
    | .string s => some (.int .i64 s.size, h)
    | _ => none
  | .app sz bytes x y => app h sz bytes (ρ x) (ρ y)
  | .clr z x => match ρ x with
    | .slice none _ _ => some (undef, h)
    | .slice (some ⟨i, o, _⟩) n _ => if n = 0 then some (undef, h) else (h.sts i o (reps n z)).map fun h' => (undef, h')
    | _ => none
  | .mm isMax x xs => match ρ x with | .int k a => (mmI isMax k a (xs.map ρ)).map fun v => (v, h) | _ => none
  | .ta t x => match ρ x with | .iface u v => if u = t then some (v, h) else none | _ => none
  | .fld off n x => (fld off n (ρ x)).map fun v => (v, h)
  | .eqs offs neg x y => match ρ x, ρ y with | .agg a, .agg b => (aggEq offs a b).map fun r => (.bool (r != neg), h) | _, _ => none
  | .sqs neg x y => match ρ x, ρ y with | .string a, .string b => some (.bool (decide (a.data = b.data) != neg), h) | _, _ => none
  | .str x => (lenOf (ρ x)).bind fun n => (cellsOf h 1 n (ρ x)).bind fun vs => (bytesOf vs).map fun l => (.string (strOf l), h)
  | .idx len sz n x i => match natOf (ρ i) with
    | some j => if j < len then (fld (j * sz) n (ρ x)).map fun v => (v, h) else none
    | none => none
  | .iaa len sz x i => match adr (ρ x), natOf (ρ i) with
    | some p, some j => if j < len then some (.pointer (some ⟨p.1, p.2 + j * sz, none⟩), h) else none
    | _, _ => none
  | .cpy sz x y => cpy h sz (ρ x) (ρ y)
  | .cap x => match ρ x with
    | .slice none _ c | .slice (some ⟨_, _, none⟩) _ c => some (.int .i64 c, h)
    | _ => none
  | .sidx x i => match ρ x, natOf (ρ i) with
    | .string s, some n => (s.data.toList[n]?).map fun b => (.int .u8 b.toNat, h)
    | _, _ => none
  | .mpn => some (.map (some h.next), h.newMap ⟨[], 0⟩)
  | .mpl k z ok x i => (mlook h k z (ρ x) (ρ i)).map fun r => (if ok then .tuple #[r.1, .bool r.2] else r.1, h)
  | .mpu k m i x => (mput h k (ρ m) (ρ i) (ρ x)).map fun h' => (undef, h')
  | .mpe k z m i => mentry h k z (ρ m) (ρ i)
  | .mps m s x => (mstore h (ρ m) (ρ s) (ρ x)).map fun h' => (undef, h')

def findT : List (TypeId × FuncId × Option (Option Nat)) → TypeId → Option (FuncId × Option (Option Nat))
  | [], _ => none
  | (t, f, m) :: r, u => cond (Nat.beq t u) (some (f, m)) (findT r u)

def findE : List (TypeId × Nat) → TypeId → Option Nat
  | [], _ => none
  | (t, o) :: r, u => cond (Nat.beq t u) (some o) (findE r u)
/-- What is asked for a method: of a struct that embeds an interface which has it, that interface's value. -/
def unw (em : List (TypeId × Nat)) (v : Value) : Value :=
  match v with
  | .iface t (.agg xs) => match findE em t with
    | none => v
    | some o => match xs[o]? with
      | some (.iface s u) => .iface s u
      | _ => undef
  | _ => v
theorem unw_nil (v : Value) : unw [] v = v := by
  unfold unw
  split <;> rfl

abbrev CallF := FuncId → List Value → H → Option (Value × H)

def evK (call : CallF) (ρ : Operand → Value) (h : H) : K → Option (Value × H)
  | .op i => evI ρ h i
  | .call f xs => call f (xs.map ρ) h
  | .callv x xs => match ρ x with
    | .func (.func f) a b => call f (a.toList ++ xs.map ρ ++ b.toList) h
    | _ => none
  | .inv x em tab xs => match unw em (ρ x) with
    | .iface t v => (findT tab t).bind fun fm => match fm.2 with
      | none => call fm.1 (v :: xs.map ρ) h
      | some n => (adr v).bind fun p => match n with
        | none => (h.ld p.1 p.2).bind fun u => call fm.1 (u :: xs.map ρ) h
        | some n => (h.lds p.1 p.2 n).bind fun us => call fm.1 (.agg us.toArray :: xs.map ρ) h
    | _ => none

/-- What a guard's temporary says: yes, no, or nothing (its operation was not run). -/
def gate : Value → Option (Option Bool)
  | .bool b => some (some b)
  | .tuple xs => if xs.isEmpty then some none else none
  | _ => none

/-- Is an operation to be run, by its guard? -/
def dec (T : Tm) (gd : Option (Nat × Bool)) : Option Bool :=
  match gd with
  | none => some true
  | some (d, want) => match gate (g T d) with
    | some (some b) => some (b == want)
    | some none => some false
    | none => none

def evO (call : CallF) (o : O) (T : Tm) (h : H) : Option (Value × H) :=
  match dec T o.g with
  | none => none
  | some false => some (undef, h)
  | some true => evK call (rho T) h o.k

def evOs (call : CallF) : List O → Tm → H → Option (Tm × H)
  | [], T, h => some (T, h)
  | o :: os, T, h => (evO call o T h).bind fun r => evOs call os (T.set o.dst r.1) r.2

/-- Does it run a new block's making alone, whatever the heap? -/
def K.alloc : K → Bool
  | .op (.new _) | .op (.box _) | .op (.mkSl _ _ _) | .op (.mkS _ _ _ _) => true
  | _ => false
/-- Does it leave the heap alone, and ask nothing of it? -/
def K.quiet : K → Bool
  | .op (.new _) | .op (.box _) | .op (.mkSl _ _ _) | .op (.mkS _ _ _ _) | .op (.ld _ _) | .op (.st _ _ _) | .op (.app _ _ _ _) | .op (.clr _ _) | .op (.str _) | .op (.cpy _ _ _) | .op .mpn | .op (.mpl _ _ _ _ _) | .op (.mpu _ _ _ _) | .op (.mpe _ _ _ _) | .op (.mps _ _ _) => false
  | .op _ => true
  | _ => false
def K.load : K → Option (Option Nat × Operand)
  | .op (.ld n a) => some (n, a)
  | _ => none

def I.opds : I → List Operand
  | .mv x | .box x | .nn x | .un _ x | .conv _ x | .ifc _ x | .fa _ x | .ext x _ | .len x | .slen x | .clr _ x | .ta _ x | .fld _ _ x | .ld _ x | .str x | .cap x => [x]
  | .pick c a b => [c, a, b]
  | .new _ | .mpn => []
  | .mk _ ps | .mkSl _ _ ps => ps.map (·.2.2)
  | .st _ a x | .bin _ a x | .beq _ a x | .nil _ _ a x | .mkS _ _ a x | .ia _ a x | .app _ _ a x | .eqs _ _ a x | .sqs _ a x | .idx _ _ _ a x | .iaa _ _ a x | .cpy _ a x | .sidx a x | .mpl _ _ _ a x | .mpe _ _ a x => [a, x]
  | .mpu _ m i x | .mps m i x => [m, i, x]
  | .fn _ a b => a ++ b
  | .slc _ x lo hi mx => x :: (lo.toList ++ hi.toList ++ mx.toList)
  | .mm _ x xs => x :: xs

def K.opds : K → List Operand
  | .op i => i.opds
  | .call _ xs => xs
  | .callv x xs | .inv x _ _ xs => x :: xs

def tmpOf : Operand → Option Nat
  | .tmp t => some t
  | _ => none

def O.names (o : O) : List Nat := o.k.opds.filterMap tmpOf ++ (match o.g with | some (d, _) => [d] | none => [])

/-- An operation of a region whose order is drawn: its place in the text, the number that its new block bears, and which loads must find behind it what they found. -/
structure DO where
  ix : Nat
  o : O
  q : Option Nat
  chks : List (Option Nat × Operand × Nat × Option (Nat × Bool))

def veq : Value → Value → Bool
  | .bool a, .bool b => a == b
  | .int j a, .int k b => j == k && a == b
  | .string a, .string b => decide (a.data = b.data)
  | .pointer a, .pointer b => a == b
  | .slice a m c, .slice b n d => a == b && m == n && c == d
  | .map a, .map b => a == b
  | .nilFunc, .nilFunc => true
  | .nilIface, .nilIface => true
  | _, _ => false
def veqs : List Value → List Value → Bool
  | [], [] => true
  | x :: xs, y :: ys => veq x y && veqs xs ys
  | _, _ => false
def veqa : Value → Value → Bool
  | .agg a, .agg b => veqs a.toList b.toList
  | a, b => veq a b

def ldv (h : H) (n : Option Nat) (p : Nat × Nat) : Option Value :=
  match n with
  | none => h.ld p.1 p.2
  | some n => (h.lds p.1 p.2 n).map fun vs => .agg vs.toArray

/-- A load that was run would find in this heap what it found. -/
def chk (T : Tm) (h : H) (c : Option Nat × Operand × Nat × Option (Nat × Bool)) : Bool :=
  match dec T c.2.2.2 with
  | none => false
  | some false => true
  | some true => match adr (rho T c.2.1) with
    | none => false
    | some p => match ldv h c.1 p with
      | none => false
      | some u => veqa u (g T c.2.2.1)

/-- Is an address one of the numbers that are kept for new blocks? -/
def kept (base m : Nat) (v : Value) : Bool :=
  match adr v with
  | none => false
  | some p => base ≤ p.1 && p.1 < base + m

def run1 (call : CallF) (base m : Nat) (d : DO) (ρ : Operand → Value) (h : H) : Option (Value × H) :=
  match d.q with
  | some q => (evK call ρ { h with next := base + q } d.o.k).map fun r => (r.1, { r.2 with next := h.next })
  | none => match d.o.k.load with
    | some (_, a) => if kept base m (ρ a) = true then none else evK call ρ h d.o.k
    | none => evK call ρ h d.o.k

def evE (call : CallF) (base m : Nat) (d : DO) (T : Tm) (h : H) : Option (Value × H) :=
  match dec T d.o.g with
  | none => none
  | some false => some (undef, h)
  | some true => run1 call base m d (rho T) h

def evD (call : CallF) (base m : Nat) : List DO → Tm → H → Option (Tm × H)
  | [], T, h => some (T, h)
  | d :: ds, T, h => (evE call base m d T h).bind fun r => if d.chks.all (chk (T.set d.o.dst r.1) r.2) = true then evD call base m ds (T.set d.o.dst r.1) r.2 else none

inductive C where
  | skip
  | reg (ops : List O)
  | regD (m : Nat) (ops : List DO)
  | seq (a b : C)
  | cond (c : Operand) (a b : C)
  | block (id : Nat) (c : C)
  | loop (c : C)
  | exit (id : Nat)
  | ret
  | label (l : Nat)
  | goto (l : Nat)
  | scope (l : Nat) (a b : C)

structure Fn' where
  code : C
  res : List Rs

def iter (f : Tm → H → Option (Ex × Tm × H)) : Nat → Tm → H → Option (Ex × Tm × H)
  | 0, _, _ => none
  | n + 1, T, h => (f T h).bind fun r => match r.1 with
    | .normal => iter f n r.2.1 r.2.2
    | e => some (e, r.2.1, r.2.2)

/-- Round by round, as long as a round ends in a jump to the label. -/
def jumps (f : Tm → H → Option (Ex × Tm × H)) (l : Nat) : Nat → Tm → H → Option (Ex × Tm × H)
  | 0, _, _ => none
  | n + 1, T, h => (f T h).bind fun r => match r.1 with
    | .goto l' => if l' = l then jumps f l n r.2.1 r.2.2 else none
    | e => some (e, r.2.1, r.2.2)

def evC (call : CallF) (n : Nat) : C → Tm → H → Option (Ex × Tm × H)
  | .skip, T, h => some (.normal, T, h)
  | .reg ops, T, h => (evOs call ops T h).map fun r => (.normal, r.1, r.2)
  | .regD m ops, T, h => (evD call h.next m ops T { h with next := h.next + m }).map fun r => (.normal, r.1, r.2)
  | .seq a b, T, h => (evC call n a T h).bind fun r => match r.1 with
    | .normal => evC call n b r.2.1 r.2.2
    | e => some (e, r.2.1, r.2.2)
  | .cond c a b, T, h => match rho T c with
    | .bool true => evC call n a T h
    | .bool false => evC call n b T h
    | _ => none
  | .block id c, T, h => (evC call n c T h).map fun r => match r.1 with
    | .exit id' => if id' = id then (.normal, r.2.1, r.2.2) else r
    | _ => r
  | .loop c, T, h => iter (evC call n c) n T h
  | .exit id, T, h => some (.exit id, T, h)
  | .ret, T, h => some (.ret, T, h)
  | .label _, T, h => some (.normal, T, h)
  | .goto l, T, h => some (.goto l, T, h)
  | .scope l a b, T, h => (evC call n a T h).bind fun r => match r.1 with
    | .goto l' => if l' = l then jumps (evC call n b) l n r.2.1 r.2.2 else none
    | e => some (e, r.2.1, r.2.2)

def evR (T : Tm) (h : H) : Rs → Option Value
  | .tmp t => some (g T t)
  | .cell t n => (adr (g T t)).bind fun p => match n with
    | none => h.ld p.1 p.2
    | some n => (h.lds p.1 p.2 n).map fun vs => .agg vs.toArray

def evRs (T : Tm) (h : H) : List Rs → Option (List Value)
  | [] => some []
  | r :: rs => (evR T h r).bind fun v => (evRs T h rs).map fun vs => v :: vs

def one : List Value → Value
  | [v] => v
  | vs => .tuple vs.toArray

def Tm.of : List Value → Nat → Tm → Tm
  | [], _, T => T
  | v :: vs, i, T => Tm.of vs (i + 1) (T.put i v)

/-- A table of functions, and contracts that stand in the place of some. -/
structure Env where
  fns : FuncId → Option Fn'
  spec : FuncId → List Value → H → Option (Value × H)

def evFn (E : Env) : Nat → CallF
  | 0, _, _, _ => none
  | n + 1, f, args, h =>
    match E.spec f args h with
    | some r => some r
    | none => (E.fns f).bind fun fn => (evC (evFn E n) n fn.code (Tm.of args 0 .nil) h).bind fun r => match r.1 with
      | .exit _ => none
      | .goto _ => none
      | _ => (evRs r.2.1 r.2.2 fn.res).map fun vs => (one vs, r.2.2)
end Go.Ae
