/-
  Circuits on the heap; may a circuit be (norm.May)?
-/
import Derived.Test.YtmmpnmekiplhfaaGreatAeData
import Derived.Test.YtmmpnmekiplhfaaGreatPdrBase
import Derived.Test.YtmmpnmekiplhfaaGreatIrCert
import Derived.Test.YtmmpnmekiplhfaaGreatIrLb
namespace Go.Proofs.YtmmpnmekiplhfaaGreat
open Go Go.Ae
set_option linter.unusedSimpArgs false

/-- A circuit: what it says, and its slices. -/
structure Cir where
  inputs : Int
  lats : List (Int × Int)
  gats : List (Int × Int)
  outs : List Int
  bads : List Int
  cons : List Int
  lv : Value
  gv : Value
  ov : Value
  bv : Value
  kv : Value
def Cir.cells (c : Cir) : List Value := [int c.inputs, c.lv, c.gv, c.ov, c.bv, c.kv]

def U32 (x : Int) : Prop := 0 ≤ x ∧ x < 4294967296
structure CirOk (n : Nat) (h : H) (c : Cir) : Prop where
  rl : RdP h c.lv .u32 .u8 c.lats
  rg : RdP h c.gv .u32 .u32 c.gats
  ro : Rd h c.ov (u32s c.outs)
  rb : Rd h c.bv (u32s c.bads)
  rk : Rd h c.kv (u32s c.cons)
  ol : Old n c.lv
  og : Old n c.gv
  oo : Old n c.ov
  ob : Old n c.bv
  ok : Old n c.kv
  wl : ∀ p ∈ c.lats, U32 p.1 ∧ 0 ≤ p.2 ∧ p.2 < 256
  wg : ∀ p ∈ c.gats, U32 p.1 ∧ U32 p.2
  wo : ∀ x ∈ c.outs, U32 x
  wb : ∀ x ∈ c.bads, U32 x
  wk : ∀ x ∈ c.cons, U32 x
  bl : c.lats.length ≤ 9223372036854775807
  bg : c.gats.length ≤ 9223372036854775807
  bo : c.outs.length ≤ 9223372036854775807
  bb : c.bads.length ≤ 9223372036854775807
  bk : c.cons.length ≤ 9223372036854775807
theorem CirOk.ext {n : Nat} {h h' : H} {c : Cir} (k : CirOk n h c) (e : Ext n h h') : CirOk n h' c :=
  { k with rl := k.rl.ext k.ol e, rg := k.rg.ext k.og e, ro := k.ro.ext k.oo e, rb := k.rb.ext k.ob e, rk := k.rk.ext k.ok e }
theorem CirOk.mono {n m : Nat} {h : H} {c : Cir} (k : CirOk n h c) (e : n ≤ m) : CirOk m h c :=
  { k with ol := k.ol.mono e, og := k.og.mono e, oo := k.oo.mono e, ob := k.ob.mono e, ok := k.ok.mono e }
theorem CirOk.to {n : Nat} {h h' : H} {c : Cir} (k : CirOk n h c) (hn : n ≤ h.next) (e : Ext n h h') : CirOk h'.next h' c := (k.ext e).mono (Nat.le_trans hn e.1)

/-- The slices as they are. -/
theorem CirOk.sl {n : Nat} {h : H} {c : Cir} (k : CirOk n h c) : (∃ a m, c.lv = .slice a c.lats.length m) ∧ (∃ a m, c.gv = .slice a c.gats.length m) ∧ (∃ a m, c.ov = .slice a c.outs.length m) ∧ (∃ a m, c.bv = .slice a c.bads.length m) ∧ ∃ a m, c.kv = .slice a c.cons.length m := by
  obtain ⟨a1, m1, e1⟩ := k.rl.len
  obtain ⟨a2, m2, e2⟩ := k.rg.len
  obtain ⟨a3, m3, e3⟩ := k.ro.len
  obtain ⟨a4, m4, e4⟩ := k.rb.len
  obtain ⟨a5, m5, e5⟩ := k.rk.len
  rw [List.length_map] at e3 e4 e5
  exact ⟨⟨_, _, e1⟩, ⟨_, _, e2⟩, ⟨_, _, e3⟩, ⟨_, _, e4⟩, ⟨_, _, e5⟩⟩

def varsI (c : Cir) : Int := IntKind.i64.wrap (IntKind.i64.wrap (c.inputs + c.lats.length) + c.gats.length)
def varsP (c : Cir) : Int := c.inputs + c.lats.length + c.gats.length

theorem at0 (c : Cir) : c.cells[0]? = some (int c.inputs) := rfl
theorem at1 (c : Cir) : c.cells[1]? = some c.lv := rfl
theorem at2 (c : Cir) : c.cells[2]? = some c.gv := rfl
theorem at3 (c : Cir) : c.cells[3]? = some c.ov := rfl
theorem at4 (c : Cir) : c.cells[4]? = some c.bv := rfl
theorem at5 (c : Cir) : c.cells[5]? = some c.kv := rfl
theorem len6 (c : Cir) : c.cells.length = 6 := rfl
theorem ld6 {h : H} {p : Nat} {c : Cir} (e : h.get p = some ⟨c.cells, false⟩) : h.lds p 0 6 = some c.cells := lds_blk e rfl

theorem vars_ok {n : Nat} {c : Cir} {h : H} (k : CirOk n h c) : AF E 144 [.agg c.cells.toArray] h fun v h' => v = int (varsI c) ∧ Ext h.next h h' := by
  refine AF.walk (E_fn comp144) (E_spec (by decide) _ _) ?_
  obtain ⟨⟨a1, m1, e1⟩, ⟨a2, m2, e2⟩, _⟩ := k.sl
  have hx : Ext h.next h (h.new ⟨c.cells, false⟩) := Ext.new _
  have hb : (h.new ⟨c.cells, false⟩).get h.next = some ⟨c.cells, false⟩ := by rw [H.get_new, if_pos rfl]
  simp only [stp2,go_sem,Nat.reduceEqDiff,Nat.reduceAdd,reduceIte,reduceCtorEq,Nat.reduceLeDiff,Int.reduceBEq,Int.reduceBNe,Int.reduceEq,Int.reduceLT,Int.reduceLE,Int.reduceNeg,List.nil_append,List.cons_append,List.append_nil,List.toList_toArray,Option.map_none, c144, c144_0, cells_agg]
  generalize h.new ⟨c.cells, false⟩ = h1 at hx hb
  simp only [stp2,go_sem,Nat.reduceEqDiff,Nat.reduceAdd,reduceIte,reduceCtorEq,Nat.reduceLeDiff,Int.reduceBEq,Int.reduceBNe,Int.reduceEq,Int.reduceLT,Int.reduceLE,Int.reduceNeg,List.nil_append,List.cons_append,List.append_nil,List.toList_toArray,Option.map_none, c144_1, ld_blk hb, at0, at1, at2, e1, e2]
  exact ⟨rfl, hx⟩

def FirstAt (p : Int → Bool) (ls : List Int) (r : Int) : Prop := (∃ i : Nat, ∃ hi : i < ls.length, r = i ∧ p ls[i] = true ∧ ∀ x ∈ ls.take i, p x = false) ∨ (r = -1 ∧ ∀ x ∈ ls, p x = false)
theorem take_succ {α : Type} {l : List α} {i : Nat} (hi : i < l.length) : l.take (i + 1) = l.take i ++ [l[i]] := by
  rw [List.take_add_one, List.getElem?_eq_getElem hi]; rfl

theorem index32_ok {u : Value} {f : FuncId} {cap : Array Value} {ls : List Int} {p : Int → Bool} {h : H} (hr : Rd h u (u32s ls)) (ho : Old h.next u) (hlen : ls.length < 9223372036854775807)
    (hf : ∀ x ∈ ls, ∀ h', Ext h.next h h' → AF E f (.int .u32 x :: cap.toList) h' fun v h'' => v = .bool (p x) ∧ Ext h'.next h' h'') :
    AF E 171 [u, .func (.func f) #[] cap] h fun v h' => (∃ r, v = int r ∧ FirstAt p ls r) ∧ Ext h.next h h' := by
  refine AF.walk (E_fn comp171) (E_spec (by decide) _ _) ?_
  obtain ⟨base, cp, hu⟩ := hr.len
  rw [List.length_map] at hu
  simp only [stp2,go_sem,Nat.reduceEqDiff,Nat.reduceAdd,reduceIte,reduceCtorEq,Nat.reduceLeDiff,Int.reduceBEq,Int.reduceBNe,Int.reduceEq,Int.reduceLT,Int.reduceLE,Int.reduceNeg,List.nil_append,List.cons_append,List.append_nil,List.toList_toArray,Option.map_none, c171, c171_0, c171_1, hu]
  rw [← hu]
  refine At.loop (fun k T h1 => Ext h.next h h1 ∧ ∃ i : Nat, i ≤ ls.length ∧ k = ls.length - i ∧ g T 0 = u ∧ g T 1 = .func (.func f) #[] cap ∧ g T 8 = .int .i64 i ∧ g T 7 = .int .i64 ls.length ∧ ∀ x ∈ ls.take i, p x = false) ?_ ls.length ?_
  · rintro k T h1 ⟨hx, i, hi, rfl, g0, g1, g8, g7, hno⟩
    have gs := g0.trans hu
    simp only [stp2,go_sem,Nat.reduceEqDiff,Nat.reduceAdd,reduceIte,reduceCtorEq,Nat.reduceLeDiff,Int.reduceBEq,Int.reduceBNe,Int.reduceEq,Int.reduceLT,Int.reduceLE,Int.reduceNeg,List.nil_append,List.cons_append,List.append_nil,List.toList_toArray,Option.map_none, c171_2, g8, g7]
    by_cases hlt : i < ls.length
    · have hk : i < (u32s ls).length := by simpa using hlt
      obtain ⟨b, o, s, cap', hb, hld⟩ := (hr.ext ho hx).at hk
      rw [hu, List.length_map] at hb; cases hb
      rw [List.getElem_map] at hld
      simp only [stp2,go_sem,Nat.reduceEqDiff,Nat.reduceAdd,reduceIte,reduceCtorEq,Nat.reduceLeDiff,Int.reduceBEq,Int.reduceBNe,Int.reduceEq,Int.reduceLT,Int.reduceLE,Int.reduceNeg,List.nil_append,List.cons_append,List.append_nil,List.toList_toArray,Option.map_none, c171_3, c171_4, gs, g1, g8, Int.ofNat_lt, hlt, natOf_int (Int.natCast_nonneg i), Int.toNat_natCast, hld]
      refine callV.of (hf _ (List.getElem_mem hlt) _ hx) fun v h' hv => ?_
      obtain ⟨rfl, hx2⟩ := hv
      have hx' : Ext h.next h h' := hx.trans (hx2.le hx.1)
      cases hp : p ls[i]
      · simp only [stp2,go_sem,Nat.reduceEqDiff,Nat.reduceAdd,reduceIte,reduceCtorEq,Nat.reduceLeDiff,Int.reduceBEq,Int.reduceBNe,Int.reduceEq,Int.reduceLT,Int.reduceLE,Int.reduceNeg,List.nil_append,List.cons_append,List.append_nil,List.toList_toArray,Option.map_none, c171_6, g0, g1, g8, g7, wrap_id (show -9223372036854775808 ≤ (i : Int) + 1 by omega) (by omega)]
        refine ⟨_, by omega, hx', i + 1, by omega, rfl, by simp, fun x hx => ?_⟩
        rw [take_succ hlt, List.mem_append, List.mem_singleton] at hx
        rcases hx with hx | rfl
        · exact hno x hx
        · exact hp
      · simp only [stp2,go_sem,Nat.reduceEqDiff,Nat.reduceAdd,reduceIte,reduceCtorEq,Nat.reduceLeDiff,Int.reduceBEq,Int.reduceBNe,Int.reduceEq,Int.reduceLT,Int.reduceLE,Int.reduceNeg,List.nil_append,List.cons_append,List.append_nil,List.toList_toArray,Option.map_none, c171_5]
        exact ⟨⟨i, rfl, .inl ⟨i, hlt, rfl, hp, hno⟩⟩, hx'⟩
    · have : i = ls.length := by omega
      subst this
      rw [List.take_length] at hno
      simp only [stp2,go_sem,Nat.reduceEqDiff,Nat.reduceAdd,reduceIte,reduceCtorEq,Nat.reduceLeDiff,Int.reduceBEq,Int.reduceBNe,Int.reduceEq,Int.reduceLT,Int.reduceLE,Int.reduceNeg,List.nil_append,List.cons_append,List.append_nil,List.toList_toArray,Option.map_none, Int.lt_irrefl, c171_7]
      exact ⟨⟨-1, rfl, .inr ⟨rfl, hno⟩⟩, hx⟩
  · refine ⟨Ext.refl _ _, 0, Nat.zero_le _, rfl, ?_⟩
    simp only [stp2,go_sem,Nat.reduceEqDiff,Nat.reduceAdd,reduceIte,reduceCtorEq,Nat.reduceLeDiff,Int.reduceBEq,Int.reduceBNe,Int.reduceEq,Int.reduceLT,Int.reduceLE,Int.reduceNeg,List.nil_append,List.cons_append,List.append_nil,List.toList_toArray,Option.map_none]
    simp

theorem contains32_ok {u : Value} {f : FuncId} {cap : Array Value} {ls : List Int} {p : Int → Bool} {h : H} (hr : Rd h u (u32s ls)) (ho : Old h.next u) (hlen : ls.length < 9223372036854775807)
    (hf : ∀ x ∈ ls, ∀ h', Ext h.next h h' → AF E f (.int .u32 x :: cap.toList) h' fun v h'' => v = .bool (p x) ∧ Ext h'.next h' h'') :
    AF E 132 [u, .func (.func f) #[] cap] h fun v h' => v = .bool (ls.any p) ∧ Ext h.next h h' := by
  refine AF.walk (E_fn comp132) (E_spec (by decide) _ _) ?_
  simp only [stp2,go_sem,Nat.reduceEqDiff,Nat.reduceAdd,reduceIte,reduceCtorEq,Nat.reduceLeDiff,Int.reduceBEq,Int.reduceBNe,Int.reduceEq,Int.reduceLT,Int.reduceLE,Int.reduceNeg,List.nil_append,List.cons_append,List.append_nil,List.toList_toArray,Option.map_none, c132, c132_0, c132_1]
  refine callV.of (index32_ok hr ho hlen hf) fun v h' hv => ?_
  obtain ⟨⟨r, rfl, hfi⟩, hx⟩ := hv
  simp only [stp2,go_sem,Nat.reduceEqDiff,Nat.reduceAdd,reduceIte,reduceCtorEq,Nat.reduceLeDiff,Int.reduceBEq,Int.reduceBNe,Int.reduceEq,Int.reduceLT,Int.reduceLE,Int.reduceNeg,List.nil_append,List.cons_append,List.append_nil,List.toList_toArray,Option.map_none]
  refine ⟨?_, hx⟩
  congr 1
  unfold FirstAt at hfi
  rcases hfi with ⟨i, hi, hri, hp, hno⟩ | ⟨hri, hno⟩ <;> subst hri
  · simp only [Int.natCast_nonneg, decide_true]
    exact (List.any_eq_true.2 ⟨_, List.getElem_mem hi, hp⟩).symm
  · have : ls.any p = false := by rw [List.any_eq_false]; intro x hx; simp [hno x hx]
    rw [this]; rfl

/-- Is a literal of a variable beyond the last? -/
def beyond (c : Cir) (x : Int) : Bool := decide (varsI c < x / 2)
theorem beyond_ok {n p : Nat} {c : Cir} {h : H} {x : Int} (k : CirOk n h c) (hb : h.get p = some ⟨c.cells, false⟩) (hx : U32 x) : AF E 145 [.int .u32 x, .pointer (some ⟨p, 0, none⟩)] h fun v h' => v = .bool (beyond c x) ∧ Ext h.next h h' := by
  refine AF.walk (E_fn comp145) (E_spec (by decide) _ _) ?_
  have hw : IntKind.i64.wrap (x / 2) = x / 2 := by unfold U32 at hx; rw [wrap_id (by omega) (by omega)]
  simp only [stp2,go_sem,Nat.reduceEqDiff,Nat.reduceAdd,reduceIte,reduceCtorEq,Nat.reduceLeDiff,Int.reduceBEq,Int.reduceBNe,Int.reduceEq,Int.reduceLT,Int.reduceLE,Int.reduceNeg,List.nil_append,List.cons_append,List.append_nil,List.toList_toArray,Option.map_none, c145, c145_0, c145_1, shf, show ¬ ((1 : Int) < 0) by decide, shr_one, hw, ld6 hb]
  refine callV.of (vars_ok k) fun v h' hv => ?_
  obtain ⟨rfl, hx'⟩ := hv
  simp only [stp2,go_sem,Nat.reduceEqDiff,Nat.reduceAdd,reduceIte,reduceCtorEq,Nat.reduceLeDiff,Int.reduceBEq,Int.reduceBNe,Int.reduceEq,Int.reduceLT,Int.reduceLE,Int.reduceNeg,List.nil_append,List.cons_append,List.append_nil,List.toList_toArray,Option.map_none]
  exact ⟨rfl, hx'⟩
end Go.Proofs.YtmmpnmekiplhfaaGreat
