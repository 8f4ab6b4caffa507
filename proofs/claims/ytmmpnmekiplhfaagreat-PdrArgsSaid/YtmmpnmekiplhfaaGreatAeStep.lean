/-
  Stepping through a code by rewriting, head first: what lies ahead is kept as data (a stack of frames), so that each step is one rewriting.
-/
import Derived.Test.YtmmpnmekiplhfaaGreatAeList
import Derived.IntWalk
namespace Go.Ae
open Go

inductive Fm where
  | seq (b : C)
  | out (id : Nat)
  | jmp (l : Nat) (J : Tm → H → Prop)

def contQ (E : Env) : List Fm → (Ex → Tm → H → Prop) → Ex → Tm → H → Prop
  | [], Q => Q
  | .seq b :: fs, Q => thenQ (fun T h => wC E b T h (contQ E fs Q)) (contQ E fs Q)
  | .out id :: fs, Q => outQ id (contQ E fs Q)
  | .jmp l J :: fs, Q => jumpQ l J (contQ E fs Q)

def At (E : Env) (c : C) (T : Tm) (h : H) (fs : List Fm) (Q : Ex → Tm → H → Prop) : Prop := wC E c T h (contQ E fs Q)
def On (E : Env) (e : Ex) (T : Tm) (h : H) (fs : List Fm) (Q : Ex → Tm → H → Prop) : Prop := contQ E fs Q e T h
def Ops (E : Env) (os : List O) (T : Tm) (h : H) (fs : List Fm) (Q : Ex → Tm → H → Prop) : Prop := wOs E os T h fun T h => On E .normal T h fs Q
def Dps (E : Env) (b m : Nat) (os : List DO) (T : Tm) (h : H) (fs : List Fm) (Q : Ex → Tm → H → Prop) : Prop := wD E b m os T h fun T h => On E .normal T h fs Q
def condV (E : Env) (v : Value) (a b : C) (T : Tm) (h : H) (fs : List Fm) (Q : Ex → Tm → H → Prop) : Prop :=
  ∃ t, v = .bool t ∧ (t = true → At E a T h fs Q) ∧ (t = false → At E b T h fs Q)
def opV (E : Env) (r : Option (Value × H)) (d : Option Nat) (os : List O) (T : Tm) (fs : List Fm) (Q : Ex → Tm → H → Prop) : Prop :=
  ∃ v h', r = some (v, h') ∧ Ops E os (T.set d v) h' fs Q
def callV (E : Env) (f : FuncId) (xs : List Value) (d : Option Nat) (os : List O) (T : Tm) (h : H) (fs : List Fm) (Q : Ex → Tm → H → Prop) : Prop :=
  AF E f xs h fun v h' => Ops E os (T.set d v) h' fs Q
def gateV (E : Env) (u : Value) (want : Bool) (d : Option Nat) (k : K) (os : List O) (T : Tm) (h : H) (fs : List Fm) (Q : Ex → Tm → H → Prop) : Prop :=
  ∃ b, (match gate u with | some (some b) => some (b == want) | some none => some false | none => none) = some b ∧
    (b = false → Ops E os (T.set d undef) h fs Q) ∧ (b = true → Ops E (⟨d, none, k⟩ :: os) T h fs Q)

section
variable {E : Env} {T : Tm} {h : H} {fs : List Fm} {Q : Ex → Tm → H → Prop}

theorem At.skip : At E .skip T h fs Q = On E .normal T h fs Q := propext Iff.rfl
theorem At.reg {ops : List O} : At E (.reg ops) T h fs Q = Ops E ops T h fs Q := propext Iff.rfl
theorem At.regD {m : Nat} {ops : List DO} : At E (.regD m ops) T h fs Q = Dps E h.next m ops T { h with next := h.next + m } fs Q := propext Iff.rfl
theorem At.seq {a b : C} : At E (.seq a b) T h fs Q = At E a T h (.seq b :: fs) Q := propext Iff.rfl
theorem At.cond {c : Operand} {a b : C} : At E (.cond c a b) T h fs Q = condV E (rho T c) a b T h fs Q := propext Iff.rfl
theorem At.block {id : Nat} {c : C} : At E (.block id c) T h fs Q = At E c T h (.out id :: fs) Q := propext Iff.rfl
theorem At.exit {id : Nat} : At E (.exit id) T h fs Q = On E (.exit id) T h fs Q := propext Iff.rfl
theorem At.ret : At E .ret T h fs Q = On E .ret T h fs Q := propext Iff.rfl

theorem At.label {l : Nat} : At E (.label l) T h fs Q = On E .normal T h fs Q := propext Iff.rfl
theorem At.goto {l : Nat} : At E (.goto l) T h fs Q = On E (.goto l) T h fs Q := propext Iff.rfl
theorem At.scope {l : Nat} {a b : C} : At E (.scope l a b) T h fs Q = At E a T h (.jmp l (fun T h => AJ E l b T h (contQ E fs Q)) :: fs) Q := propext Iff.rfl
theorem On.seqG {b : C} {l : Nat} : On E (.goto l) T h (.seq b :: fs) Q = On E (.goto l) T h fs Q := propext Iff.rfl
theorem On.outG {id l : Nat} : On E (.goto l) T h (.out id :: fs) Q = On E (.goto l) T h fs Q := propext Iff.rfl
theorem On.jmp {l : Nat} {J : Tm → H → Prop} : On E .normal T h (.jmp l J :: fs) Q = On E .normal T h fs Q := propext Iff.rfl
theorem On.jmpE {l i : Nat} {J : Tm → H → Prop} : On E (.exit i) T h (.jmp l J :: fs) Q = On E (.exit i) T h fs Q := propext Iff.rfl
theorem On.jmpR {l : Nat} {J : Tm → H → Prop} : On E .ret T h (.jmp l J :: fs) Q = On E .ret T h fs Q := propext Iff.rfl
theorem On.jmpG {l l' : Nat} {J : Tm → H → Prop} : On E (.goto l') T h (.jmp l J :: fs) Q = (l' = l ∧ J T h) := propext Iff.rfl
/-- Behind a label, by an invariant at each jump. -/
theorem AJ.loop {l : Nat} {b : C} (Inv : Nat → Tm → H → Prop) (step : ∀ k T h, Inv k T h → At E b T h (.jmp l (fun T h => ∃ k', k' < k ∧ Inv k' T h) :: fs) Q) (k : Nat) (h0 : Inv k T h) : AJ E l b T h (contQ E fs Q) :=
  AJ.rule Inv step k h0

theorem On.nil {e : Ex} : On E e T h [] Q = Q e T h := propext Iff.rfl
theorem On.seq {b : C} : On E .normal T h (.seq b :: fs) Q = At E b T h fs Q := propext Iff.rfl
theorem On.seqE {b : C} {i : Nat} : On E (.exit i) T h (.seq b :: fs) Q = On E (.exit i) T h fs Q := propext Iff.rfl
theorem On.seqR {b : C} : On E .ret T h (.seq b :: fs) Q = On E .ret T h fs Q := propext Iff.rfl
theorem On.out {id : Nat} : On E .normal T h (.out id :: fs) Q = On E .normal T h fs Q := propext Iff.rfl
theorem On.outR {id : Nat} : On E .ret T h (.out id :: fs) Q = On E .ret T h fs Q := propext Iff.rfl
theorem On.outE {id i : Nat} : On E (.exit i) T h (.out id :: fs) Q = if i = id then On E .normal T h fs Q else On E (.exit i) T h fs Q := propext Iff.rfl

theorem condV.t {a b : C} : condV E (.bool true) a b T h fs Q = At E a T h fs Q := by
  apply propext; constructor
  · rintro ⟨t, ht, h1, _⟩; cases ht; exact h1 rfl
  · intro w; exact ⟨true, rfl, fun _ => w, fun e => by cases e⟩
theorem condV.f {a b : C} : condV E (.bool false) a b T h fs Q = At E b T h fs Q := by
  apply propext; constructor
  · rintro ⟨t, ht, _, h1⟩; cases ht; exact h1 rfl
  · intro w; exact ⟨false, rfl, fun e => (by cases e), fun _ => w⟩

theorem Ops.nil : Ops E [] T h fs Q = On E .normal T h fs Q := propext Iff.rfl
theorem Ops.op {d : Option Nat} {i : I} {os : List O} : Ops E (⟨d, none, .op i⟩ :: os) T h fs Q = opV E (evI (rho T) h i) d os T fs Q := by
  apply propext; constructor
  · rintro ⟨b, hb, _, w⟩; cases hb; exact w rfl
  · intro w; exact ⟨true, rfl, fun e => (by cases e), fun _ => w⟩
theorem Ops.call {d : Option Nat} {f : FuncId} {xs : List Operand} {os : List O} : Ops E (⟨d, none, .call f xs⟩ :: os) T h fs Q = callV E f (xs.map (rho T)) d os T h fs Q := by
  apply propext; constructor
  · rintro ⟨b, hb, _, w⟩; cases hb; exact w rfl
  · intro w; exact ⟨true, rfl, fun e => (by cases e), fun _ => w⟩
theorem Ops.callv {d : Option Nat} {x : Operand} {xs : List Operand} {os : List O} {f : FuncId} {a b : Array Value} (hx : rho T x = .func (.func f) a b) (w : callV E f (a.toList ++ xs.map (rho T) ++ b.toList) d os T h fs Q) :
    Ops E (⟨d, none, .callv x xs⟩ :: os) T h fs Q := ⟨true, rfl, fun e => (by cases e), fun _ => ⟨f, a, b, hx, w⟩⟩
theorem opV.mk {v : Value} {h' : H} {d : Option Nat} {os : List O} : opV E (some (v, h')) d os T fs Q = Ops E os (T.set d v) h' fs Q := by
  apply propext; constructor
  · rintro ⟨v', h1, e, w⟩; cases e; exact w
  · intro w; exact ⟨v, h', rfl, w⟩
theorem callV.of {f : FuncId} {xs : List Value} {d : Option Nat} {os : List O} {R : Value → H → Prop} (a : AF E f xs h R) (k : ∀ v h', R v h' → Ops E os (T.set d v) h' fs Q) : callV E f xs d os T h fs Q := AF.mono a k

theorem Ops.gate {d : Option Nat} {c : Nat} {want : Bool} {k : K} {os : List O} : Ops E (⟨d, some (c, want), k⟩ :: os) T h fs Q = gateV E (g T c) want d k os T h fs Q := by
  apply propext; constructor
  · rintro ⟨b, hb, w0, w1⟩; exact ⟨b, hb, w0, fun e => ⟨true, rfl, fun e => (by cases e), fun _ => w1 e⟩⟩
  · rintro ⟨b, hb, w0, w1⟩
    refine ⟨b, hb, w0, fun e => ?_⟩
    obtain ⟨b', hb', _, w⟩ := w1 e
    cases hb'; exact w rfl
theorem gateV.yes {d : Option Nat} {b want : Bool} {k : K} {os : List O} (hb : (b == want) = true) : gateV E (.bool b) want d k os T h fs Q = Ops E (⟨d, none, k⟩ :: os) T h fs Q := by
  apply propext; constructor
  · rintro ⟨b', hb', _, w⟩; simp only [gate, Option.some.injEq] at hb'; exact w (by rw [← hb']; exact hb)
  · intro w; exact ⟨true, by simp only [gate, hb], fun e => (by cases e), fun _ => w⟩
theorem gateV.no {d : Option Nat} {b want : Bool} {k : K} {os : List O} (hb : (b == want) = false) : gateV E (.bool b) want d k os T h fs Q = Ops E os (T.set d undef) h fs Q := by
  apply propext; constructor
  · rintro ⟨b', hb', w, _⟩; simp only [gate, Option.some.injEq] at hb'; exact w (by rw [← hb']; exact hb)
  · intro w; exact ⟨false, by simp only [gate, hb], fun _ => w, fun e => (by cases e)⟩
theorem gateV.tt {d : Option Nat} {k : K} {os : List O} : gateV E (.bool true) true d k os T h fs Q = Ops E (⟨d, none, k⟩ :: os) T h fs Q := gateV.yes rfl
theorem gateV.ff {d : Option Nat} {k : K} {os : List O} : gateV E (.bool false) false d k os T h fs Q = Ops E (⟨d, none, k⟩ :: os) T h fs Q := gateV.yes rfl
theorem gateV.tf {d : Option Nat} {k : K} {os : List O} : gateV E (.bool true) false d k os T h fs Q = Ops E os (T.set d undef) h fs Q := gateV.no rfl
theorem gateV.ft {d : Option Nat} {k : K} {os : List O} : gateV E (.bool false) true d k os T h fs Q = Ops E os (T.set d undef) h fs Q := gateV.no rfl
theorem gateV.un {d : Option Nat} {want : Bool} {k : K} {os : List O} : gateV E (.tuple #[]) want d k os T h fs Q = Ops E os (T.set d undef) h fs Q := by
  apply propext; constructor
  · rintro ⟨b', hb', w, _⟩; simp [gate] at hb'; exact w hb'
  · intro w; exact ⟨false, by simp [gate], fun _ => w, fun e => (by cases e)⟩

/-- A loop, by an invariant and a measure. -/
theorem At.loop {c : C} (Inv : Nat → Tm → H → Prop) (step : ∀ k T h, Inv k T h → At E c T h [] (stepQ Inv k (contQ E fs Q))) (k : Nat) (h0 : Inv k T h) : At E (.loop c) T h fs Q :=
  AL.rule Inv step k h0
theorem stepQ.n {Inv : Nat → Tm → H → Prop} {k : Nat} : stepQ Inv k (contQ E fs Q) .normal T h = ∃ k', k' < k ∧ Inv k' T h := propext Iff.rfl
theorem stepQ.e {Inv : Nat → Tm → H → Prop} {k i : Nat} : stepQ Inv k (contQ E fs Q) (.exit i) T h = On E (.exit i) T h fs Q := propext Iff.rfl
theorem stepQ.g {Inv : Nat → Tm → H → Prop} {k l : Nat} : stepQ Inv k (contQ E fs Q) (.goto l) T h = On E (.goto l) T h fs Q := propext Iff.rfl
theorem stepQ.r {Inv : Nat → Tm → H → Prop} {k : Nat} : stepQ Inv k (contQ E fs Q) .ret T h = On E .ret T h fs Q := propext Iff.rfl

theorem Dps.nil {b m : Nat} : Dps E b m [] T h fs Q = On E .normal T h fs Q := propext Iff.rfl
end

def I.isLoad : I → Bool
  | .ld _ _ => true
  | .mv _ | .pick _ _ _ | .new _ | .box _ | .mk _ _ | .mkSl _ _ _ | .st _ _ _ | .nn _ | .bin _ _ _ | .beq _ _ _ | .nil _ _ _ _ | .un _ _ | .conv _ _ | .ifc _ _ | .fn _ _ _ | .mkS _ _ _ _ | .slc _ _ _ _ _
  | .fa _ _ | .ia _ _ _ | .ext _ _ | .len _ | .slen _ | .app _ _ _ _ | .clr _ _ | .mm _ _ _ | .ta _ _ | .fld _ _ _
  | .eqs _ _ _ _ | .sqs _ _ _ | .str _ | .idx _ _ _ _ _ | .iaa _ _ _ _ | .cpy _ _ _ | .cap _ | .sidx _ _ | .mpn | .mpl _ _ _ _ _ | .mpu _ _ _ _ | .mpe _ _ _ _ | .mps _ _ _ => false

def dopV (E : Env) (b m : Nat) (keep : Option Nat) (r : Option (Value × H)) (d : Option Nat) (cs : List (Option Nat × Operand × Nat × Option (Nat × Bool))) (os : List DO) (T : Tm) (fs : List Fm) (Q : Ex → Tm → H → Prop) : Prop :=
  ∃ v h', r = some (v, h') ∧ cs.all (chk (T.set d v) (match keep with | some n => { h' with next := n } | none => h')) = true ∧ Dps E b m os (T.set d v) (match keep with | some n => { h' with next := n } | none => h') fs Q
def dopX (E : Env) (b m : Nat) (l : Bool) (i : I) (d : Option Nat) (cs : List (Option Nat × Operand × Nat × Option (Nat × Bool))) (os : List DO) (T : Tm) (h : H) (fs : List Fm) (Q : Ex → Tm → H → Prop) : Prop :=
  (l = true → ∀ n a, i = .ld n a → kept b m (rho T a) = false) ∧ dopV E b m none (evI (rho T) h i) d cs os T fs Q
def dcallV (E : Env) (b m : Nat) (f : FuncId) (xs : List Value) (d : Option Nat) (cs : List (Option Nat × Operand × Nat × Option (Nat × Bool))) (os : List DO) (T : Tm) (h : H) (fs : List Fm) (Q : Ex → Tm → H → Prop) : Prop :=
  AF E f xs h fun v h' => cs.all (chk (T.set d v) h') = true ∧ Dps E b m os (T.set d v) h' fs Q
def dgateV (E : Env) (b m : Nat) (u : Value) (want : Bool) (x : DO) (os : List DO) (T : Tm) (h : H) (fs : List Fm) (Q : Ex → Tm → H → Prop) : Prop :=
  ∃ t, (match gate u with | some (some b) => some (b == want) | some none => some false | none => none) = some t ∧
    (t = false → x.chks.all (chk (T.set x.o.dst undef) h) = true ∧ Dps E b m os (T.set x.o.dst undef) h fs Q) ∧ (t = true → Dps E b m ({ x with o := { x.o with g := none } } :: os) T h fs Q)

section
variable {E : Env} {T : Tm} {h : H} {fs : List Fm} {Q : Ex → Tm → H → Prop} {b m : Nat}

theorem Dps.new {ix q : Nat} {d : Option Nat} {i : I} {cs : List (Option Nat × Operand × Nat × Option (Nat × Bool))} {os : List DO} :
    Dps E b m (⟨ix, ⟨d, none, .op i⟩, some q, cs⟩ :: os) T h fs Q = dopV E b m (some h.next) (evI (rho T) { h with next := b + q } i) d cs os T fs Q := by
  apply propext; constructor
  · rintro ⟨t, ht, _, w⟩; cases ht; exact w rfl
  · intro w; exact ⟨true, rfl, fun e => (by cases e), fun _ => w⟩
theorem Dps.op {ix : Nat} {d : Option Nat} {i : I} {cs : List (Option Nat × Operand × Nat × Option (Nat × Bool))} {os : List DO} :
    Dps E b m (⟨ix, ⟨d, none, .op i⟩, none, cs⟩ :: os) T h fs Q = dopX E b m i.isLoad i d cs os T h fs Q := by
  apply propext; constructor
  · rintro ⟨t, ht, _, w⟩; cases ht; exact ⟨fun _ n a e => (w rfl).1 n a (by rw [e]; rfl), (w rfl).2⟩
  · intro w; exact ⟨true, rfl, fun e => (by cases e), fun _ => ⟨fun n a e => (by cases i <;> cases e; exact w.1 rfl _ _ rfl), w.2⟩⟩
theorem dopX.f {d : Option Nat} {i : I} {cs : List (Option Nat × Operand × Nat × Option (Nat × Bool))} {os : List DO} : dopX E b m false i d cs os T h fs Q = dopV E b m none (evI (rho T) h i) d cs os T fs Q := by
  apply propext; constructor
  · exact fun w => w.2
  · exact fun w => ⟨fun e => (by cases e), w⟩
theorem dopX.t {d : Option Nat} {n : Option Nat} {a : Operand} {cs : List (Option Nat × Operand × Nat × Option (Nat × Bool))} {os : List DO} : dopX E b m true (.ld n a) d cs os T h fs Q = (kept b m (rho T a) = false ∧ dopV E b m none (evI (rho T) h (.ld n a)) d cs os T fs Q) := by
  apply propext; constructor
  · exact fun w => ⟨w.1 rfl n a rfl, w.2⟩
  · exact fun w => ⟨fun _ n' a' e => (by cases e; exact w.1), w.2⟩
theorem Dps.call {ix : Nat} {d : Option Nat} {f : FuncId} {xs : List Operand} {cs : List (Option Nat × Operand × Nat × Option (Nat × Bool))} {os : List DO} :
    Dps E b m (⟨ix, ⟨d, none, .call f xs⟩, none, cs⟩ :: os) T h fs Q = dcallV E b m f (xs.map (rho T)) d cs os T h fs Q := by
  apply propext; constructor
  · rintro ⟨t, ht, _, w⟩; cases ht; exact (w rfl).2
  · intro w; exact ⟨true, rfl, fun e => (by cases e), fun _ => ⟨fun n a e => (by cases e), w⟩⟩
theorem Dps.gate {ix : Nat} {d : Option Nat} {c : Nat} {want : Bool} {k : K} {q : Option Nat} {cs : List (Option Nat × Operand × Nat × Option (Nat × Bool))} {os : List DO} :
    Dps E b m (⟨ix, ⟨d, some (c, want), k⟩, q, cs⟩ :: os) T h fs Q = dgateV E b m (g T c) want ⟨ix, ⟨d, none, k⟩, q, cs⟩ os T h fs Q := by
  apply propext; constructor
  · rintro ⟨t, ht, w0, w1⟩; exact ⟨t, ht, w0, fun e => ⟨true, rfl, fun e => (by cases e), fun _ => w1 e⟩⟩
  · rintro ⟨t, ht, w0, w1⟩
    refine ⟨t, ht, w0, fun e => ?_⟩
    obtain ⟨t', ht', _, w⟩ := w1 e
    cases ht'; exact w rfl
theorem dopV.mk {v : Value} {h' : H} {d : Option Nat} {os : List DO} : dopV E b m none (some (v, h')) d [] os T fs Q = Dps E b m os (T.set d v) h' fs Q := by
  apply propext; constructor
  · rintro ⟨v', h1, e, _, w⟩; cases e; exact w
  · intro w; exact ⟨v, h', rfl, rfl, w⟩
theorem dopV.new {v : Value} {h' : H} {n : Nat} {d : Option Nat} {os : List DO} : dopV E b m (some n) (some (v, h')) d [] os T fs Q = Dps E b m os (T.set d v) { h' with next := n } fs Q := by
  apply propext; constructor
  · rintro ⟨v', h1, e, _, w⟩; cases e; exact w
  · intro w; exact ⟨v, h', rfl, rfl, w⟩
theorem dopV.chk {v : Value} {h' : H} {d : Option Nat} {c : Option Nat × Operand × Nat × Option (Nat × Bool)} {cs : List (Option Nat × Operand × Nat × Option (Nat × Bool))} {os : List DO} :
    dopV E b m none (some (v, h')) d (c :: cs) os T fs Q = ((c :: cs).all (chk (T.set d v) h') = true ∧ Dps E b m os (T.set d v) h' fs Q) := by
  apply propext; constructor
  · rintro ⟨v', h1, e, hc, w⟩; cases e; exact ⟨hc, w⟩
  · rintro ⟨hc, w⟩; exact ⟨v, h', rfl, hc, w⟩
theorem dcallV.of {f : FuncId} {xs : List Value} {d : Option Nat} {os : List DO} {R : Value → H → Prop} (a : AF E f xs h R) (k : ∀ v h', R v h' → Dps E b m os (T.set d v) h' fs Q) : dcallV E b m f xs d [] os T h fs Q :=
  AF.mono a fun v h' r => ⟨rfl, k v h' r⟩
theorem dgateV.yes {t want : Bool} {x : DO} {os : List DO} (hb : (t == want) = true) : dgateV E b m (.bool t) want x os T h fs Q = Dps E b m ({ x with o := { x.o with g := none } } :: os) T h fs Q := by
  apply propext; constructor
  · rintro ⟨b', hb', _, w⟩; simp only [Ae.gate, Option.some.injEq] at hb'; exact w (by rw [← hb']; exact hb)
  · intro w; exact ⟨true, by simp only [Ae.gate, hb], fun e => (by cases e), fun _ => w⟩
theorem dgateV.no {t want : Bool} {x : DO} {os : List DO} (hb : (t == want) = false) : dgateV E b m (.bool t) want x os T h fs Q = (x.chks.all (chk (T.set x.o.dst undef) h) = true ∧ Dps E b m os (T.set x.o.dst undef) h fs Q) := by
  apply propext; constructor
  · rintro ⟨b', hb', w, _⟩; simp only [Ae.gate, Option.some.injEq] at hb'; exact w (by rw [← hb']; exact hb)
  · intro w; exact ⟨false, by simp only [Ae.gate, hb], fun _ => w, fun e => (by cases e)⟩
theorem dgateV.tt {x : DO} {os : List DO} : dgateV E b m (.bool true) true x os T h fs Q = Dps E b m ({ x with o := { x.o with g := none } } :: os) T h fs Q := dgateV.yes rfl
theorem dgateV.ff {x : DO} {os : List DO} : dgateV E b m (.bool false) false x os T h fs Q = Dps E b m ({ x with o := { x.o with g := none } } :: os) T h fs Q := dgateV.yes rfl
theorem dgateV.tf {x : DO} {os : List DO} : dgateV E b m (.bool true) false x os T h fs Q = (x.chks.all (chk (T.set x.o.dst undef) h) = true ∧ Dps E b m os (T.set x.o.dst undef) h fs Q) := dgateV.no rfl
theorem dgateV.ft {x : DO} {os : List DO} : dgateV E b m (.bool false) true x os T h fs Q = (x.chks.all (chk (T.set x.o.dst undef) h) = true ∧ Dps E b m os (T.set x.o.dst undef) h fs Q) := dgateV.no rfl
theorem dgateV.un {want : Bool} {x : DO} {os : List DO} : dgateV E b m (.tuple #[]) want x os T h fs Q = (x.chks.all (chk (T.set x.o.dst undef) h) = true ∧ Dps E b m os (T.set x.o.dst undef) h fs Q) := by
  apply propext; constructor
  · rintro ⟨b', hb', w, _⟩; simp [Ae.gate] at hb'; exact w hb'
  · intro w; exact ⟨false, by simp [Ae.gate], fun _ => w, fun e => (by cases e)⟩
end

theorem resQ.r {res : List Rs} {Q : Value → H → Prop} {T : Tm} {h : H} : resQ res Q .ret T h = ∃ vs, evRs T h res = some vs ∧ Q (one vs) h := propext Iff.rfl
theorem resQ.n {res : List Rs} {Q : Value → H → Prop} {T : Tm} {h : H} : resQ res Q .normal T h = ∃ vs, evRs T h res = some vs ∧ Q (one vs) h := propext Iff.rfl

/-- A function's walk, from its first step on. -/
theorem AF.walk {E : Env} {f : FuncId} {fn : Fn'} (hf : E.fns f = some fn) {xs : List Value} {h : H} {Q : Value → H → Prop} (hs : E.spec f xs h = none)
    (w : At E fn.code (Tm.of xs 0 .nil) h [] (resQ fn.res Q)) : AF E f xs h Q := AF.of_code hf hs w

theorem g_nil (i : Nat) : g .nil i = undef := by unfold g; rw [Tr.get_nil]
theorem set_some (T : Tm) (d : Nat) (v : Value) : T.set (some d) v = T.put d v := rfl
theorem set_none (T : Tm) (v : Value) : T.set none v = T := rfl
theorem of_nil (i : Nat) (T : Tm) : Tm.of [] i T = T := rfl
theorem of_cons (v : Value) (vs : List Value) (i : Nat) (T : Tm) : Tm.of (v :: vs) i T = Tm.of vs (i + 1) (T.put i v) := rfl
theorem rho_tmp (T : Tm) (t : Nat) : rho T (.tmp t) = g T t := rfl
theorem rho_const (T : Tm) (v : Value) : rho T (.const v) = v := rfl
theorem rho_func (T : Tm) (f : FuncId) : rho T (.func f) = .func (.func f) #[] #[] := rfl

theorem fill_one {v : Value} {cs : List Value} {off : Nat} {ps : List (Nat × Nat × Value)} (ht : isTuple v = false) (hc : v.cells = #[v]) (ho : off + 1 ≤ cs.length) :
    fill' cs ((off, 1, v) :: ps) = fill' (cs.set off v) ps := by
  simp [fill', ht, hc, ho, put]
theorem fill_int {k : IntKind} {n : Int} {cs : List Value} {off : Nat} {ps : List (Nat × Nat × Value)} (ho : off + 1 ≤ cs.length) : fill' cs ((off, 1, .int k n) :: ps) = fill' (cs.set off (.int k n)) ps := fill_one rfl rfl ho
theorem fill_bool {b : Bool} {cs : List Value} {off : Nat} {ps : List (Nat × Nat × Value)} (ho : off + 1 ≤ cs.length) : fill' cs ((off, 1, .bool b) :: ps) = fill' (cs.set off (.bool b)) ps := fill_one rfl rfl ho
theorem fill_slice {a : Option Addr} {m c : Nat} {cs : List Value} {off : Nat} {ps : List (Nat × Nat × Value)} (ho : off + 1 ≤ cs.length) : fill' cs ((off, 1, .slice a m c) :: ps) = fill' (cs.set off (.slice a m c)) ps := fill_one rfl rfl ho
theorem fill_ptr {a : Option Addr} {cs : List Value} {off : Nat} {ps : List (Nat × Nat × Value)} (ho : off + 1 ≤ cs.length) : fill' cs ((off, 1, .pointer a) :: ps) = fill' (cs.set off (.pointer a)) ps := fill_one rfl rfl ho
theorem fill_nil (cs : List Value) : fill' cs [] = some cs := rfl
theorem reps_one (n : Nat) (v : Value) : reps n [v] = List.replicate n v := rfl
theorem ld_set {h : H} {b o : Nat} {k : Blk} : (h.set b (some k)).ld b o = k.cells[o]? := by simp [H.ld, H.get_set]
theorem ld_set_ne {h : H} {b c o : Nat} {k : Option Blk} (e : c ≠ b) : (h.set b k).ld c o = h.ld c o := by simp [H.ld, H.get_set, e]
theorem ld_new {h : H} {o : Nat} {k : Blk} : (h.new k).ld h.next o = k.cells[o]? := by simp [H.ld, H.get_new]
theorem ld_new_ne {h : H} {b o : Nat} {k : Blk} (e : b ≠ h.next) : (h.new k).ld b o = h.ld b o := by simp [H.ld, H.get_new, e]

theorem kept_no {b m i o : Nat} (h : i < b) : kept b m (.pointer (some ⟨i, o, none⟩)) = false := by simp [kept, adr]; intro; omega
theorem kept_zero {b : Nat} {v : Value} : kept b 0 v = false := by
  unfold kept; split
  · rfl
  · simp

theorem cast_zero : ((0 : Nat) : Int) = 0 := rfl
theorem cast_one : ((1 : Nat) : Int) = 1 := rfl
theorem sts_of {h : H} {i off : Nat} {k : Blk} {vs : List Value} (hk : h.get i = some k) (hro : k.ro = false) (hl : off + vs.length ≤ k.cells.length) (ho : vs.all Value.oneCell' = true) :
    h.sts i off vs = some (h.set i (some { k with cells := put k.cells off vs })) := by
  simp only [H.sts, hk, Option.bind_some, hro, hl, ho, and_self, if_true]
theorem cells_int (k : IntKind) (n : Int) : (Value.int k n).cells = #[.int k n] := rfl
theorem cells_bool (b : Bool) : (Value.bool b).cells = #[.bool b] := rfl
theorem cells_slice (a : Option Addr) (n c : Nat) : (Value.slice a n c).cells = #[.slice a n c] := rfl
theorem cells_ptr (a : Option Addr) : (Value.pointer a).cells = #[.pointer a] := rfl
theorem cells_agg (xs : Array Value) : (Value.agg xs).cells = xs := rfl
theorem put_one (cs : List Value) (o : Nat) (v : Value) : put cs o [v] = cs.set o v := rfl
theorem get_newest (h : H) (k : Blk) : (h.new k).get h.next = some k := by simp [H.get_new]
theorem H_eta (h : H) : (⟨h.tr, h.base, h.next, h.mp⟩ : H) = h := by cases h; rfl
theorem natOf_int {k : IntKind} {n : Int} (h : 0 ≤ n) : natOf (.int k n) = some n.toNat := by simp [natOf, h]
theorem wrap_id {n : Int} (h1 : -9223372036854775808 ≤ n) (h2 : n ≤ 9223372036854775807) : IntKind.i64.wrap n = n := by
  rw [IntKind.wrap_i64]; omega
/-- The stepping rewritings, as one. -/
theorem stp : type_of% (And.intro @At.skip (And.intro @At.reg (And.intro @At.seq (And.intro @At.cond (And.intro @At.block (And.intro @At.exit (And.intro @At.ret (And.intro @On.nil (And.intro @On.seq (And.intro @On.seqE (And.intro @On.seqR (And.intro @On.out (And.intro @On.outR (And.intro @On.outE (And.intro @condV.t (And.intro @condV.f (And.intro @Ops.nil (And.intro @Ops.op (And.intro @Ops.call (And.intro @opV.mk (And.intro @Ops.gate (And.intro @gateV.tt (And.intro @gateV.ff (And.intro @gateV.tf (And.intro @gateV.ft (And.intro @gateV.un (And.intro @Dps.nil (And.intro @Dps.op (And.intro @Dps.call (And.intro @Dps.gate (And.intro @dopV.mk (And.intro @dopV.new (And.intro @dgateV.tt (And.intro @dgateV.ff (And.intro @dgateV.tf (And.intro @dgateV.ft (And.intro @dgateV.un (And.intro @resQ.r (And.intro @resQ.n (And.intro @stepQ.n (And.intro @stepQ.e (And.intro @stepQ.r (And.intro @set_some (And.intro @set_none (And.intro @of_nil (And.intro @of_cons (And.intro @rho_tmp (And.intro @rho_const (And.intro @rho_func (And.intro @g_put (And.intro @g_nil (And.intro @fill_int (And.intro @fill_bool (And.intro @fill_slice (And.intro @fill_ptr (And.intro @fill_nil (And.intro @reps_one (And.intro @cast_zero (And.intro @cast_one (And.intro @H_eta (And.intro @cells_int (And.intro @cells_bool (And.intro @cells_slice (And.intro @cells_ptr (And.intro @cells_agg (And.intro @put_one (And.intro @dopX.f (And.intro @dopX.t (And.intro @kept_zero (And.intro @At.label (And.intro @At.goto (And.intro @At.scope (And.intro @On.seqG (And.intro @On.outG (And.intro @On.jmp (And.intro @On.jmpE (And.intro @On.jmpR (And.intro @On.jmpG (@stepQ.g))))))))))))))))))))))))))))))))))))))))))))))))))))))))))))))))))))))))))))))) := And.intro @At.skip (And.intro @At.reg (And.intro @At.seq (And.intro @At.cond (And.intro @At.block (And.intro @At.exit (And.intro @At.ret (And.intro @On.nil (And.intro @On.seq (And.intro @On.seqE (And.intro @On.seqR (And.intro @On.out (And.intro @On.outR (And.intro @On.outE (And.intro @condV.t (And.intro @condV.f (And.intro @Ops.nil (And.intro @Ops.op (And.intro @Ops.call (And.intro @opV.mk (And.intro @Ops.gate (And.intro @gateV.tt (And.intro @gateV.ff (And.intro @gateV.tf (And.intro @gateV.ft (And.intro @gateV.un (And.intro @Dps.nil (And.intro @Dps.op (And.intro @Dps.call (And.intro @Dps.gate (And.intro @dopV.mk (And.intro @dopV.new (And.intro @dgateV.tt (And.intro @dgateV.ff (And.intro @dgateV.tf (And.intro @dgateV.ft (And.intro @dgateV.un (And.intro @resQ.r (And.intro @resQ.n (And.intro @stepQ.n (And.intro @stepQ.e (And.intro @stepQ.r (And.intro @set_some (And.intro @set_none (And.intro @of_nil (And.intro @of_cons (And.intro @rho_tmp (And.intro @rho_const (And.intro @rho_func (And.intro @g_put (And.intro @g_nil (And.intro @fill_int (And.intro @fill_bool (And.intro @fill_slice (And.intro @fill_ptr (And.intro @fill_nil (And.intro @reps_one (And.intro @cast_zero (And.intro @cast_one (And.intro @H_eta (And.intro @cells_int (And.intro @cells_bool (And.intro @cells_slice (And.intro @cells_ptr (And.intro @cells_agg (And.intro @put_one (And.intro @dopX.f (And.intro @dopX.t (And.intro @kept_zero (And.intro @At.label (And.intro @At.goto (And.intro @At.scope (And.intro @On.seqG (And.intro @On.outG (And.intro @On.jmp (And.intro @On.jmpE (And.intro @On.jmpR (And.intro @On.jmpG (@stepQ.g))))))))))))))))))))))))))))))))))))))))))))))))))))))))))))))))))))))))))))))
attribute [go_sem] stp Go.Ae.I.isLoad evI Ae.bin binI Ae.un nilEq lenOf if_true if_false Nat.zero_add List.map_cons List.map_nil Option.map_some Option.bind_some evRs evR one Option.some.injEq exists_eq_left' exists_eq_left List.all_nil true_and and_true parts' List.replicate List.length_cons List.length_nil List.set_cons_zero List.set_cons_succ List.length_set List.length_replicate adr Nat.mul_one decide_true decide_false beq_self_eq_true bne_self_eq_false Bool.not_true Bool.not_false List.size_toArray List.getElem?_toArray List.getElem?_cons_zero List.getElem?_cons_succ isTuple Nat.add_zero ge_iff_le gt_iff_lt
end Go.Ae
