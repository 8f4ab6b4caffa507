/-
  How the abstract values and heap of the evaluator stand for the machine's: an embedding of abstract blocks into the machine's blocks, the relation of values, of heaps, and what a step leaves alone.
-/
import Derived.Test.YtmmpnmekiplhfaaGreatAeTr
import Derived.Orders
import Derived.Below
import Derived.Laws.Sem
import Derived.Laws.Entries
import Derived.Laws.World
namespace Go.Ae
open Go

/-- Where an abstract block lies: the machine's block, its first cell there, how many cells the machine's block has. -/
structure Loc where
  blk : Nat
  base : Nat
  size : Nat

abbrev Emb := Nat → Option Loc

/-- An unknown value: nothing may be made of it. -/
abbrev junk : Value := .tuple #[.tuple #[]]

/-- An abstract value stands for a machine's value. A slice whose address bears a spot (the element's cells) has that capacity or more. -/
inductive VR (φ : Emb) : Value → Value → Prop
  | junk (v : Value) : VR φ Ae.junk v
  | bool (b : Bool) : VR φ (.bool b) (.bool b)
  | int (k : IntKind) (n : Int) : VR φ (.int k n) (.int k n)
  | string (s : ByteArray) : VR φ (.string s) (.string s)
  | ptr0 : VR φ (.pointer none) (.pointer none)
  | ptr {i off : Nat} {l : Loc} (h : φ i = some l) : VR φ (.pointer (some ⟨i, off, none⟩)) (.pointer (some ⟨l.blk, l.base + off, none⟩))
  | sl0 (n c : Nat) : VR φ (.slice none n c) (.slice none n c)
  | sl {i off n c : Nat} {l : Loc} (h : φ i = some l) : VR φ (.slice (some ⟨i, off, none⟩) n c) (.slice (some ⟨l.blk, l.base + off, none⟩) n c)
  | slx {i off n c sz c' : Nat} {l : Loc} {a : Addr} (h : φ i = some l) (hn : n ≤ c) (hc : c ≤ c') (ha : c' = 0 ∨ a = ⟨l.blk, l.base + off, none⟩)
      (hs : l.base + off + c' * sz ≤ l.size) : VR φ (.slice (some ⟨i, off, some sz⟩) n c) (.slice (some a) n c')
  | map0 : VR φ (.map none) (.map none)
  | map {i : Nat} {l : Loc} (h : φ i = some l) : VR φ (.map (some i)) (.map (some l.blk))
  | func (f : Fn) {xs ys cs ds : Array Value} (h : xs.size = ys.size) (hi : ∀ j (h1 : j < xs.size) (h2 : j < ys.size), VR φ xs[j] ys[j])
      (h' : cs.size = ds.size) (hi' : ∀ j (h1 : j < cs.size) (h2 : j < ds.size), VR φ cs[j] ds[j]) : VR φ (.func f xs cs) (.func f ys ds)
  | nilFunc : VR φ .nilFunc .nilFunc
  | iface (t : TypeId) {v v' : Value} (h : VR φ v v') : VR φ (.iface t v) (.iface t v')
  | nilIface : VR φ .nilIface .nilIface
  | agg {xs ys : Array Value} (h : xs.size = ys.size) (hi : ∀ j (h1 : j < xs.size) (h2 : j < ys.size), VR φ xs[j] ys[j]) : VR φ (.agg xs) (.agg ys)
  | tuple {xs ys : Array Value} (h : xs.size = ys.size) (hi : ∀ j (h1 : j < xs.size) (h2 : j < ys.size), VR φ xs[j] ys[j]) : VR φ (.tuple xs) (.tuple ys)

/-- One embedding extends another. -/
def Emb.le (φ ψ : Emb) : Prop := ∀ i l, φ i = some l → ψ i = some l
theorem Emb.le.refl (φ : Emb) : φ.le φ := fun _ _ h => h
theorem Emb.le.trans {φ ψ χ : Emb} (h : φ.le ψ) (k : ψ.le χ) : φ.le χ := fun i l e => k i l (h i l e)

theorem VR.mono {φ ψ : Emb} (hle : φ.le ψ) {v v' : Value} (h : VR φ v v') : VR ψ v v' := by
  induction h with
  | junk v => exact .junk v
  | bool b => exact .bool b
  | int k n => exact .int k n
  | string s => exact .string s
  | ptr0 => exact .ptr0
  | ptr h => exact .ptr (hle _ _ h)
  | sl0 n c => exact .sl0 n c
  | sl h => exact .sl (hle _ _ h)
  | slx h hn hc ha hs => exact .slx (hle _ _ h) hn hc ha hs
  | map0 => exact .map0
  | map h => exact .map (hle _ _ h)
  | func f h _ h' _ ih ih' => exact .func f h ih h' ih'
  | nilFunc => exact .nilFunc
  | iface t _ ih => exact .iface t ih
  | nilIface => exact .nilIface
  | agg h _ ih => exact .agg h ih
  | tuple h _ ih => exact .tuple h ih

theorem VR.undef (φ : Emb) : VR φ undef undef := .tuple rfl (fun j h => absurd h (by simp))

/-- Values without an address stand for themselves. -/
def plain : Value → Bool
  | .bool _ | .int .. | .string _ | .pointer none | .slice none .. | .map none | .nilFunc | .nilIface => true
  | _ => false
theorem VR.plain {φ : Emb} {v : Value} (h : plain v = true) : VR φ v v := by
  unfold Ae.plain at h
  split at h
  · exact .bool _
  · exact .int _ _
  · exact .string _
  · exact .ptr0
  · exact .sl0 _ _
  · exact .map0
  · exact .nilFunc
  · exact .nilIface
  · cases h

def closed (v : Value) : Bool :=
  plain v || (match v with | .agg xs => xs.all plain | .tuple xs => xs.all plain | .func _ xs ys => xs.isEmpty && ys.isEmpty | .iface _ v => plain v | _ => false)
theorem VR.closed {φ : Emb} {v : Value} (h : closed v = true) : VR φ v v := by
  unfold Ae.closed at h
  simp only [Bool.or_eq_true] at h
  rcases h with h | h
  · exact .plain h
  · split at h
    · rename_i xs
      refine .agg rfl fun j h1 _ => .plain ?_
      simp only [Array.all_eq_true] at h
      exact h j h1
    · rename_i xs
      refine .tuple rfl fun j h1 _ => .plain ?_
      simp only [Array.all_eq_true] at h
      exact h j h1
    · rename_i xs ys
      simp only [Bool.and_eq_true, Array.isEmpty_iff] at h
      obtain ⟨rfl, rfl⟩ := h
      exact .func _ rfl (fun j h => absurd h (by simp)) rfl (fun j h => absurd h (by simp))
    · exact .iface _ (.plain h)
    · cases h

/-- Lists of values, place by place. -/
def VRs (φ : Emb) (xs ys : List Value) : Prop := xs.length = ys.length ∧ ∀ (j : Nat) (x y : Value), xs[j]? = some x → ys[j]? = some y → VR φ x y

theorem VRs.nil (φ : Emb) : VRs φ [] [] := ⟨rfl, fun j x y h => by simp at h⟩
theorem VRs.cons {φ : Emb} {x y : Value} {xs ys : List Value} (h : VR φ x y) (hs : VRs φ xs ys) : VRs φ (x :: xs) (y :: ys) := by
  refine ⟨by simp [hs.1], fun j a b ha hb => ?_⟩
  cases j with
  | zero => simp at ha hb; subst ha; subst hb; exact h
  | succ j => simp at ha hb; exact hs.2 j a b ha hb
theorem VRs.head {φ : Emb} {x y : Value} {xs ys : List Value} (h : VRs φ (x :: xs) (y :: ys)) : VR φ x y := h.2 0 x y rfl rfl
theorem VRs.tail {φ : Emb} {x y : Value} {xs ys : List Value} (h : VRs φ (x :: xs) (y :: ys)) : VRs φ xs ys :=
  ⟨by have := h.1; simpa using this, fun j a b ha hb => h.2 (j + 1) a b (by simpa using ha) (by simpa using hb)⟩
theorem VRs.mono {φ ψ : Emb} (hle : φ.le ψ) {xs ys : List Value} (h : VRs φ xs ys) : VRs ψ xs ys :=
  ⟨h.1, fun j x y hx hy => (h.2 j x y hx hy).mono hle⟩
theorem VRs.append {φ : Emb} {xs ys us vs : List Value} (h : VRs φ xs ys) (k : VRs φ us vs) : VRs φ (xs ++ us) (ys ++ vs) := by
  refine ⟨by simp [h.1, k.1], fun j x y hx hy => ?_⟩
  rw [List.getElem?_append] at hx hy
  have hl := h.1
  by_cases hj : j < xs.length
  · rw [if_pos hj] at hx; rw [if_pos (by omega)] at hy; exact h.2 j x y hx hy
  · rw [if_neg hj] at hx; rw [if_neg (by omega), ← hl] at hy; exact k.2 _ x y hx hy
theorem VRs.take {φ : Emb} {xs ys : List Value} (n : Nat) (h : VRs φ xs ys) : VRs φ (xs.take n) (ys.take n) := by
  refine ⟨by simp [h.1], fun j x y hx hy => ?_⟩
  rw [List.getElem?_take] at hx hy
  split at hx
  · rename_i hj; rw [if_pos hj] at hy; exact h.2 j x y hx hy
  · simp at hx
theorem VRs.drop {φ : Emb} {xs ys : List Value} (n : Nat) (h : VRs φ xs ys) : VRs φ (xs.drop n) (ys.drop n) := by
  refine ⟨by simp [h.1], fun j x y hx hy => ?_⟩
  rw [List.getElem?_drop] at hx hy
  exact h.2 _ x y hx hy
theorem VRs.ofArray {φ : Emb} {xs ys : Array Value} (h : xs.size = ys.size) (hi : ∀ j (h1 : j < xs.size) (h2 : j < ys.size), VR φ xs[j] ys[j]) :
    VRs φ xs.toList ys.toList := by
  refine ⟨by simpa using h, fun j x y hx hy => ?_⟩
  rw [Array.getElem?_toList] at hx hy
  obtain ⟨h1, rfl⟩ := Array.getElem?_eq_some_iff.1 hx
  obtain ⟨h2, rfl⟩ := Array.getElem?_eq_some_iff.1 hy
  exact hi j h1 h2
theorem VRs.toArray {φ : Emb} {xs ys : Array Value} (h : VRs φ xs.toList ys.toList) :
    xs.size = ys.size ∧ ∀ j (h1 : j < xs.size) (h2 : j < ys.size), VR φ xs[j] ys[j] :=
  ⟨by simpa using h.1, fun j h1 h2 => h.2 j _ _ (by simp [h1]) (by simp [h2])⟩
theorem VR.agg' {φ : Emb} {xs ys : Array Value} (h : VRs φ xs.toList ys.toList) : VR φ (.agg xs) (.agg ys) := .agg h.toArray.1 h.toArray.2
theorem VR.tuple' {φ : Emb} {xs ys : Array Value} (h : VRs φ xs.toList ys.toList) : VR φ (.tuple xs) (.tuple ys) := .tuple h.toArray.1 h.toArray.2

/-- A row of cells; may it be written? -/
structure Blk where
  cells : List Value
  ro : Bool

/-- A map: its entries, and its clock. -/
structure Mp where
  es : List MapEntry
  ck : Nat

/-- The abstract heap: what blocks hold, the first number that none bears, and the maps. -/
structure H where
  tr : Tr (Option Blk)
  base : Nat → Option Blk
  next : Nat
  mp : Tr Mp

def H.get (h : H) (i : Nat) : Option Blk := match h.tr.get i with | some o => o | none => h.base i
def H.set (h : H) (i : Nat) (o : Option Blk) : H := { h with tr := h.tr.put i o }
def H.new (h : H) (b : Blk) : H := { h with tr := h.tr.put h.next (some b), next := h.next + 1 }

def H.mget (h : H) (i : Nat) : Option Mp := h.mp.get i
def H.newMap (h : H) (m : Mp) : H := { h with mp := h.mp.put h.next m, next := h.next + 1 }
def H.setMap (h : H) (i : Nat) (m : Mp) : H := { h with mp := h.mp.put i m }
theorem H.mget_newMap (h : H) (m : Mp) (j : Nat) : (h.newMap m).mget j = if j = h.next then some m else h.mget j := by
  unfold H.mget H.newMap; rw [Tr.get_put]
theorem H.mget_setMap (h : H) (i : Nat) (m : Mp) (j : Nat) : (h.setMap i m).mget j = if j = i then some m else h.mget j := by
  unfold H.mget H.setMap; rw [Tr.get_put]
@[simp] theorem H.mget_set (h : H) (i : Nat) (o : Option Blk) (j : Nat) : (h.set i o).mget j = h.mget j := rfl
@[simp] theorem H.mget_new (h : H) (b : Blk) (j : Nat) : (h.new b).mget j = h.mget j := rfl
@[simp] theorem H.get_newMap (h : H) (m : Mp) (j : Nat) : (h.newMap m).get j = h.get j := rfl
@[simp] theorem H.get_setMap (h : H) (i : Nat) (m : Mp) (j : Nat) : (h.setMap i m).get j = h.get j := rfl
@[simp] theorem H.next_newMap (h : H) (m : Mp) : (h.newMap m).next = h.next + 1 := rfl
@[simp] theorem H.next_setMap (h : H) (i : Nat) (m : Mp) : (h.setMap i m).next = h.next := rfl

theorem H.get_set (h : H) (i j : Nat) (o : Option Blk) : (h.set i o).get j = if j = i then o else h.get j := by
  unfold H.get H.set
  simp only [Tr.get_put]
  by_cases e : j = i <;> simp [e]
theorem H.get_new (h : H) (b : Blk) (j : Nat) : (h.new b).get j = if j = h.next then some b else h.get j := by
  unfold H.get H.new
  simp only [Tr.get_put]
  by_cases e : j = h.next <;> simp [e]
@[simp] theorem H.next_set (h : H) (i : Nat) (o : Option Blk) : (h.set i o).next = h.next := rfl
@[simp] theorem H.next_new (h : H) (b : Blk) : (h.new b).next = h.next + 1 := rfl

/-- No cell of a block is frozen. -/
def thawed (c : Array Value) (fz : Nat × Nat) : Prop := ∀ o, o < c.size → ¬ (fz.1 ≤ o ∧ o < fz.2)

/-- The machine's heap bears a block. -/
def Bears (φ : Emb) (w : World) (k : Blk) (l : Loc) : Prop :=
  ∃ c e fz, w.heap[l.blk]? = some (.cells c e fz) ∧ c.size = l.size ∧ l.base + k.cells.length ≤ l.size ∧ (k.ro = false → thawed c fz) ∧
    ∀ j v, k.cells[j]? = some v → ∃ v', c[l.base + j]? = some v' ∧ VR φ v v'

structure Sim (φ : Emb) (h : H) (w : World) : Prop where
  bears : ∀ i k, h.get i = some k → ∃ l, φ i = some l ∧ Bears φ w k l
  apart : ∀ i i' k k' l l', i ≠ i' → h.get i = some k → h.get i' = some k' → φ i = some l → φ i' = some l' → k.ro = false → l.blk ≠ l'.blk
  maps : ∀ i m, h.mget i = some m → ∃ l, φ i = some l ∧ w.heap[l.blk]? = some (.map m.es.toArray m.ck)
  mapart : ∀ i i' m m' l l', i ≠ i' → h.mget i = some m → h.mget i' = some m' → φ i = some l → φ i' = some l' → l.blk ≠ l'.blk

/-- The machine's blocks that the heap may write. -/
def Owns (φ : Emb) (h : H) (b : Nat) : Prop := (∃ i k l, h.get i = some k ∧ k.ro = false ∧ φ i = some l ∧ l.blk = b) ∨ (∃ i m l, h.mget i = some m ∧ φ i = some l ∧ l.blk = b)

/-- What a step leaves alone. -/
structure Fr (φ : Emb) (h : H) (w : World) (φ' : Emb) (h' : H) (w' : World) : Prop where
  os : w'.os = w.os
  tape : w'.tape = w.tape
  output : w'.output = w.output
  size : w.heap.size ≤ w'.heap.size
  kept : ∀ b, b < w.heap.size → ¬ Owns φ h b → w'.heap[b]? = w.heap[b]?
  ext : φ.le φ'
  late : ∀ i l, φ i = none → φ' i = some l → h.next ≤ i ∧ i < h'.next
  next : h.next ≤ h'.next
  owned : ∀ b, Owns φ' h' b → Owns φ h b ∨ w.heap.size ≤ b

theorem Fr.refl (φ : Emb) (h : H) (w : World) : Fr φ h w φ h w :=
  ⟨rfl, rfl, rfl, Nat.le_refl _, fun _ _ _ => rfl, .refl φ, fun i l h1 h2 => by simp [h1] at h2, Nat.le_refl _, fun _ h => .inl h⟩

theorem Fr.trans {φ φ' φ'' : Emb} {h h' h'' : H} {w w' w'' : World} (a : Fr φ h w φ' h' w') (b : Fr φ' h' w' φ'' h'' w'') : Fr φ h w φ'' h'' w'' where
  os := b.os.trans a.os
  tape := b.tape.trans a.tape
  output := b.output.trans a.output
  size := Nat.le_trans a.size b.size
  kept := fun x hx hn => by
    rw [b.kept x (by have := a.size; omega) (fun ho => ?_), a.kept x hx hn]
    rcases a.owned x ho with h1 | h1
    · exact hn h1
    · omega
  ext := a.ext.trans b.ext
  late := fun i l h1 h2 => by
    have hn := b.next
    cases e : φ' i with
    | none => have := b.late i l e h2; have := a.next; omega
    | some l' => have := a.late i l' h1 e; omega
  next := Nat.le_trans a.next b.next
  owned := fun x hx => by
    rcases b.owned x hx with h1 | h1
    · exact a.owned x h1
    · exact .inr (Nat.le_trans a.size h1)

/-- No block bears a number from the next one on. -/
def Fresh (φ : Emb) (h : H) : Prop := ∀ i, h.next ≤ i → φ i = none
theorem Fr.fresh {φ φ' : Emb} {h h' : H} {w w' : World} (F : Fr φ h w φ' h' w') (hf : Fresh φ h) : Fresh φ' h' := by
  intro i hi
  cases e : φ' i with
  | none => rfl
  | some l =>
    have h1 := hf i (Nat.le_trans F.next hi)
    have := F.late i l h1 e
    omega

/-- Loads. -/
def H.ld (h : H) (i off : Nat) : Option Value := (h.get i).bind fun k => k.cells[off]?
def H.lds (h : H) (i off n : Nat) : Option (List Value) :=
  (h.get i).bind fun k => if off + n ≤ k.cells.length then some ((k.cells.drop off).take n) else none
/-- Stores. -/
def put : List Value → Nat → List Value → List Value
  | cs, _, [] => cs
  | cs, off, v :: vs => put (cs.set off v) (off + 1) vs
def H.sts (h : H) (i off : Nat) (vs : List Value) : Option H :=
  (h.get i).bind fun k => if k.ro = false ∧ off + vs.length ≤ k.cells.length ∧ vs.all Value.oneCell' = true then some (h.set i (some { k with cells := put k.cells off vs })) else none

theorem VR.one {φ : Emb} {v v' : Value} (h : VR φ v v') (ho : v.oneCell' = true) : v'.oneCell' = true := by
  cases h <;> first | rfl | (simp [Value.oneCell'] at ho)

theorem cell?_of_heap {w : World} {b : Nat} {c : Array Value} {e : TypeId} {fz : Nat × Nat} (h : w.heap[b]? = some (.cells c e fz)) (o : Nat) :
    w.cell? ⟨b, o, none⟩ = c[o]? := by simp [World.cell?, h]
theorem frozen?_of_heap {w : World} {b : Nat} {c : Array Value} {e : TypeId} {fz : Nat × Nat} (h : w.heap[b]? = some (.cells c e fz)) (o : Nat) :
    w.frozen? ⟨b, o, none⟩ = decide (fz.1 ≤ o ∧ o < fz.2) := by
  obtain ⟨lo, hi⟩ := fz
  simp [World.frozen?, h]
theorem setCell_heap {w : World} {b : Nat} {c : Array Value} {e : TypeId} {fz : Nat × Nat} (h : w.heap[b]? = some (.cells c e fz)) (o : Nat) (v : Value) (b' : Nat) :
    (w.setCell ⟨b, o, none⟩ v).heap[b']? = if b' = b then some (.cells (c.setIfInBounds o v) e fz) else w.heap[b']? := by
  simp only [World.setCell, Array.getElem?_modify]
  by_cases hb : b' = b
  · subst hb; simp [h]
  · rw [if_neg (Ne.symm hb), if_neg hb]

section
variable {φ : Emb} {h : H} {w : World} (S : Sim φ h w)
include S

theorem Sim.ld {i off : Nat} {v : Value} (e : h.ld i off = some v) {l : Loc} (hl : φ i = some l) :
    ∃ v', w.cell? ⟨l.blk, l.base + off, none⟩ = some v' ∧ VR φ v v' := by
  unfold H.ld at e
  cases hk : h.get i with
  | none => simp [hk] at e
  | some k =>
    simp only [hk, Option.bind_some] at e
    obtain ⟨l', hl', c, ty, fz, hc, hs, hb, hz, hv⟩ := S.bears i k hk
    rw [hl] at hl'; cases hl'
    obtain ⟨v', h1, h2⟩ := hv off v e
    exact ⟨v', by rw [cell?_of_heap hc]; exact h1, h2⟩

theorem Sim.lds {i off n : Nat} {vs : List Value} (e : h.lds i off n = some vs) {l : Loc} (hl : φ i = some l) :
    ∃ vs', vs'.length = n ∧ (∀ j, j < n → w.cell? ⟨l.blk, l.base + off + j, none⟩ = vs'[j]?) ∧ VRs φ vs vs' := by
  unfold H.lds at e
  cases hk : h.get i with
  | none => simp [hk] at e
  | some k =>
    simp only [hk, Option.bind_some] at e
    split at e
    · rename_i hn
      cases e
      obtain ⟨l', hl', c, ty, fz, hc, hs, hb, hz, hv⟩ := S.bears i k hk
      rw [hl] at hl'; cases hl'
      refine ⟨(c.toList.drop (l.base + off)).take n, ?_, ?_, ?_, ?_⟩
      · simp; omega
      · intro j hj
        rw [Nat.add_assoc, cell?_of_heap hc, List.getElem?_take, if_pos hj, List.getElem?_drop, Array.getElem?_toList]
        congr 1; omega
      · simp; omega
      · intro j x y hx hy
        rw [List.getElem?_take] at hx hy
        split at hx
        · rename_i hj
          rw [if_pos hj] at hy
          rw [List.getElem?_drop] at hx hy
          obtain ⟨v', h1, h2⟩ := hv _ x hx
          rw [Array.getElem?_toList] at hy
          rw [show l.base + off + j = l.base + (off + j) by omega, h1] at hy
          cases hy; exact h2
        · simp at hx
    · cases e
end

end Go.Ae
