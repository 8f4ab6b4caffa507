/-
  More steps: calls of function values, and loads that must find behind a call what they found ahead of it.
-/
import Derived.Test.YtmmpnmekiplhfaaGreatAeStep
namespace Go.Ae
open Go

def callvV (E : Env) (x : Value) (xs : List Value) (d : Option Nat) (os : List O) (T : Tm) (h : H) (fs : List Fm) (Q : Ex → Tm → H → Prop) : Prop :=
  ∃ f a b, x = .func (.func f) a b ∧ callV E f (a.toList ++ xs ++ b.toList) d os T h fs Q

def dcallvV (E : Env) (b m : Nat) (x : Value) (xs : List Value) (d : Option Nat) (cs : List (Option Nat × Operand × Nat × Option (Nat × Bool))) (os : List DO) (T : Tm) (h : H) (fs : List Fm) (Q : Ex → Tm → H → Prop) : Prop :=
  ∃ f a c, x = .func (.func f) a c ∧ dcallV E b m f (a.toList ++ xs ++ c.toList) d cs os T h fs Q

section
variable {E : Env} {T : Tm} {h : H} {fs : List Fm} {Q : Ex → Tm → H → Prop} {b m : Nat}

theorem Dps.callvV {ix : Nat} {d : Option Nat} {x : Operand} {xs : List Operand} {cs : List (Option Nat × Operand × Nat × Option (Nat × Bool))} {os : List DO} :
    Dps E b m (⟨ix, ⟨d, none, .callv x xs⟩, none, cs⟩ :: os) T h fs Q = Ae.dcallvV E b m (rho T x) (xs.map (rho T)) d cs os T h fs Q := by
  apply propext; constructor
  · rintro ⟨t, ht, _, w⟩; cases ht
    obtain ⟨f, a, c, hx, w⟩ := (w rfl).2
    exact ⟨f, a, c, hx, w⟩
  · rintro ⟨f, a, c, hx, w⟩; exact ⟨true, rfl, fun e => (by cases e), fun _ => ⟨fun n a e => (by cases e), ⟨f, a, c, hx, w⟩⟩⟩
theorem dcallvV.mk {f : FuncId} {a c : Array Value} {xs : List Value} {d : Option Nat} {cs : List (Option Nat × Operand × Nat × Option (Nat × Bool))} {os : List DO} : Ae.dcallvV E b m (.func (.func f) a c) xs d cs os T h fs Q = dcallV E b m f (a.toList ++ xs ++ c.toList) d cs os T h fs Q := by
  apply propext; constructor
  · rintro ⟨f', a', b', e, w⟩; cases e; exact w
  · intro w; exact ⟨f, a, c, rfl, w⟩
/-- An operation behind which loads must find what they found. -/
theorem dopV.chks {v : Value} {h' : H} {d : Option Nat} {cs : List (Option Nat × Operand × Nat × Option (Nat × Bool))} {os : List DO} :
    dopV E b m none (some (v, h')) d cs os T fs Q = (cs.all (Ae.chk (T.set d v) h') = true ∧ Dps E b m os (T.set d v) h' fs Q) := by
  apply propext; constructor
  · rintro ⟨v', h1, e, hc, w⟩; cases e; exact ⟨hc, w⟩
  · rintro ⟨hc, w⟩; exact ⟨v, h', rfl, hc, w⟩

theorem Ops.callvV {d : Option Nat} {x : Operand} {xs : List Operand} {os : List O} : Ops E (⟨d, none, .callv x xs⟩ :: os) T h fs Q = callvV E (rho T x) (xs.map (rho T)) d os T h fs Q := by
  apply propext; constructor
  · rintro ⟨b, hb, _, w⟩; cases hb
    obtain ⟨f, a, b, hx, w⟩ := w rfl
    exact ⟨f, a, b, hx, w⟩
  · rintro ⟨f, a, b, hx, w⟩; exact ⟨true, rfl, fun e => (by cases e), fun _ => ⟨f, a, b, hx, w⟩⟩
theorem callvV.mk {f : FuncId} {a b : Array Value} {xs : List Value} {d : Option Nat} {os : List O} : Ae.callvV E (.func (.func f) a b) xs d os T h fs Q = callV E f (a.toList ++ xs ++ b.toList) d os T h fs Q := by
  apply propext; constructor
  · rintro ⟨f', a', b', e, w⟩; cases e; exact w
  · intro w; exact ⟨f, a, b, rfl, w⟩

theorem dcallV.chk {f : FuncId} {xs : List Value} {d : Option Nat} {cs : List (Option Nat × Operand × Nat × Option (Nat × Bool))} {os : List DO} {R : Value → H → Prop} (a : AF E f xs h R) (k : ∀ v h', R v h' → cs.all (Ae.chk (T.set d v) h') = true ∧ Dps E b m os (T.set d v) h' fs Q) :
    dcallV E b m f xs d cs os T h fs Q := AF.mono a k

theorem chk_ld {a r b o : Nat} {u : Value} (ha : g T a = .pointer (some ⟨b, o, none⟩)) (hl : h.ld b o = some u) (hr : g T r = u) (hv : veqa u u = true) : Ae.chk T h (none, .tmp a, r, none) = true := by
  simp only [Ae.chk, Ae.dec, rho, ha, adr, ldv, hl, hr, hv]
end

/-- Numbers of blocks kept for what a drawn region makes. -/
def H.up (h : H) (m : Nat) : H := { h with next := h.next + m }
theorem H.up_zero (h : H) : h.up 0 = h := rfl
theorem H.get_up (h : H) (m i : Nat) : (h.up m).get i = h.get i := rfl
theorem H.ld_up (h : H) (m i o : Nat) : (h.up m).ld i o = h.ld i o := rfl
theorem H.next_up (h : H) (m : Nat) : (h.up m).next = h.next + m := rfl
theorem At.regDu {E : Env} {T : Tm} {h : H} {fs : List Fm} {Q : Ex → Tm → H → Prop} {m : Nat} {ops : List DO} : At E (.regD m ops) T h fs Q = Dps E h.next m ops T (h.up m) fs Q := propext Iff.rfl
theorem Dps.newSl {E : Env} {T : Tm} {h : H} {fs : List Fm} {Q : Ex → Tm → H → Prop} {b m ix q : Nat} {d : Option Nat} {zs : List Value} {len : Nat} {ps : List (Nat × Nat × Operand)} {os : List DO} :
    Dps E b m (⟨ix, ⟨d, none, .op (.mkSl zs len ps)⟩, some q, []⟩ :: os) T h fs Q = ∃ cs, fill' zs (parts' (rho T) ps) = some cs ∧ Dps E b m os (T.set d (.slice (some ⟨b + q, 0, none⟩) len len)) (h.set (b + q) (some ⟨cs, false⟩)) fs Q := by
  rw [Dps.new]
  apply propext; constructor
  · rintro ⟨v, h', e, _, w⟩
    simp only [evI, Option.map_eq_some_iff] at e
    obtain ⟨cs, hc, e⟩ := e
    cases e
    exact ⟨cs, hc, w⟩
  · rintro ⟨cs, hc, w⟩
    exact ⟨_, _, by simp only [evI, hc]; rfl, rfl, w⟩

theorem Dps.newB {E : Env} {T : Tm} {h : H} {fs : List Fm} {Q : Ex → Tm → H → Prop} {b m ix q : Nat} {d : Option Nat} {zs : List Value} {os : List DO} :
    Dps E b m (⟨ix, ⟨d, none, .op (.new zs)⟩, some q, []⟩ :: os) T h fs Q = Dps E b m os (T.set d (.pointer (some ⟨b + q, 0, none⟩))) (h.set (b + q) (some ⟨zs, false⟩)) fs Q := by
  rw [Dps.new]
  apply propext; constructor
  · rintro ⟨v, h', e, _, w⟩
    simp only [evI, Option.some.injEq, Prod.mk.injEq] at e
    obtain ⟨rfl, rfl⟩ := e
    exact w
  · intro w
    exact ⟨_, _, rfl, rfl, w⟩
theorem Dps.boxB {E : Env} {T : Tm} {h : H} {fs : List Fm} {Q : Ex → Tm → H → Prop} {b m ix q : Nat} {d : Option Nat} {x : Operand} {os : List DO} :
    Dps E b m (⟨ix, ⟨d, none, .op (.box x)⟩, some q, []⟩ :: os) T h fs Q = (isTuple (rho T x) = false ∧ Dps E b m os (T.set d (.pointer (some ⟨b + q, 0, none⟩))) (h.set (b + q) (some ⟨(rho T x).cells.toList, false⟩)) fs Q) := by
  rw [Dps.new]
  apply propext; constructor
  · rintro ⟨v, h', e, _, w⟩
    simp only [evI] at e
    split at e
    · cases e
    · rename_i hn
      simp only [Option.some.injEq, Prod.mk.injEq] at e
      obtain ⟨rfl, rfl⟩ := e
      exact ⟨by simpa using hn, w⟩
  · rintro ⟨hn, w⟩
    exact ⟨_, _, by simp only [evI, hn, Bool.false_eq_true, if_false]; rfl, rfl, w⟩

theorem app_blk {h h' : H} {sz bytes : Nat} {x y v' : Value} (e : Ae.app h sz bytes x y = some (v', h')) {i : Nat} (hi : blkOf v' = some i) : blkOf x = some i ∨ h.next ≤ i := by
  unfold Ae.app at e
  split at e
  · rename_i base len cap n _
    split at e
    · split at e
      · cases e; exact .inl hi
      · cases e
    · rw [Option.bind_eq_some_iff] at e
      obtain ⟨new, _, e⟩ := e
      split at e
      · split at e
        · rw [Option.map_eq_some_iff] at e
          obtain ⟨_, _, e⟩ := e
          cases e; exact .inl hi
        · cases e
      · split at e
        · rw [Option.bind_eq_some_iff] at e
          obtain ⟨old, _, e⟩ := e
          split at e
          · rw [Option.bind_eq_some_iff] at e
            obtain ⟨k, _, e⟩ := e
            split at e
            · cases e; cases hi; exact .inr (Nat.le_refl _)
            · cases e
          · cases e; cases hi; exact .inr (Nat.le_refl _)
        · cases e
  · cases e

theorem gateV.und {E : Env} {T : Tm} {h : H} {fs : List Fm} {Q : Ex → Tm → H → Prop} {d : Option Nat} {want : Bool} {k : K} {os : List O} : gateV E undef want d k os T h fs Q = Ops E os (T.set d undef) h fs Q := gateV.un
theorem dgateV.und {E : Env} {T : Tm} {h : H} {fs : List Fm} {Q : Ex → Tm → H → Prop} {b m : Nat} {want : Bool} {x : DO} {os : List DO} : dgateV E b m undef want x os T h fs Q = (x.chks.all (chk (T.set x.o.dst undef) h) = true ∧ Dps E b m os (T.set x.o.dst undef) h fs Q) := dgateV.un

theorem veqa_int (n : Int) : veqa (int n) (int n) = true := by simp [veqa, veq]
theorem veqa_slice (a : Option Addr) (n c : Nat) : veqa (.slice a n c) (.slice a n c) = true := by simp [veqa, veq]

theorem optNat_n : optNat none = some none := rfl
theorem optNat_s (v : Value) : optNat (some v) = (natOf v).map some := rfl
theorem put_eq : ∀ (vs cs : List Value) (o : Nat), o + vs.length ≤ cs.length → put cs o vs = cs.take o ++ (vs ++ cs.drop (o + vs.length))
  | [], cs, o, _ => by simp [put]
  | v :: vs, cs, o, h => by
    simp only [List.length_cons] at h
    rw [put, put_eq vs (cs.set o v) (o + 1) (by simp; omega), List.take_succ_eq_append_getElem (by simp; omega), List.getElem_set_self, List.drop_set_of_lt (by omega), List.take_set, List.set_eq_of_length_le (by simp; omega)]
    simp only [List.append_assoc, List.cons_append, List.nil_append, List.length_cons]
    rw [Nat.add_assoc, Nat.add_comm 1]

/-- A slice of a slice, both ends given, and the end of the room. -/
theorem Rd.slc3 {h : H} {v : Value} {vs : List Value} (r : Rd h v vs) (hs : ∀ a n c, v = .slice (some a) n c → a.spot = none ∨ a.spot = some 1) {k : Nat} (h0 : 0 < vs.length) (hk : k ≤ vs.length) :
    ∃ u, slc 1 v none (some k) (some k) = some u ∧ Rd h u (vs.take k) ∧ (blkOf u = blkOf v) ∧ ∀ a n c, u = .slice (some a) n c → a.spot = none ∨ a.spot = some 1 := by
  obtain ⟨base, cap, rfl, hc, h1⟩ := r
  rcases h1 with rfl | ⟨b, o, s, rfl, hl⟩
  · simp at h0
  · have hrd : ∀ o' : Nat, (k = 0 ∨ o' = o) → (vs.take k = [] ∨ ∃ b' o'' s', (some (⟨b, o', none⟩ : Addr)) = some ⟨b', o'', s'⟩ ∧ h.lds b' o'' (vs.take k).length = some (vs.take k)) := by
      intro o' ho
      rcases ho with rfl | rfl
      · exact .inl rfl
      · refine .inr ⟨b, o', none, rfl, ?_⟩
        have hh := ld_of_lds hl
        by_cases h3 : vs.take k = []
        · rw [h3]
          unfold H.lds at hl ⊢
          cases hg : h.get b with
          | none => simp [hg] at hl
          | some kk => simp only [hg, Option.bind_some] at hl ⊢; split at hl
                       · rw [if_pos (by simp; omega)]; simp
                       · cases hl
        · exact lds_of_ld h3 fun j hj => by
            rw [hh.2 j (by simp at hj; omega)]; simp
    have hlen : (vs.take k).length = k := by simp; omega
    rcases s with _ | s
    · refine ⟨.slice (some ⟨b, if k = 0 then o else o + 0 * 1, none⟩) k k, by simp [slc]; omega, ⟨_, k, by rw [hlen], by omega, ?_⟩, rfl, fun a n c e => by cases e; exact .inl rfl⟩
      exact hrd _ (by by_cases hz : k = 0; exact .inl hz; right; simp [hz])
    · have hs1 : s = 1 := by simpa using hs _ _ _ rfl
      subst hs1
      refine ⟨.slice (some ⟨b, if k = 0 then o else o + 0 * 1, none⟩) k k, by simp [slc]; omega, ⟨_, k, by rw [hlen], by omega, ?_⟩, rfl, fun a n c e => by cases e; exact .inl rfl⟩
      exact hrd _ (by by_cases hz : k = 0; exact .inl hz; right; simp [hz])

/-- What is left of a slice behind its first ones. -/
theorem Rd.slcFrom {h : H} {v : Value} {vs : List Value} (r : Rd h v vs) (hs : ∀ a n c, v = .slice (some a) n c → a.spot = none ∨ a.spot = some 1) {k : Nat} (hk : k < vs.length) :
    ∃ u, slc 1 v (some k) none none = some u ∧ Rd h u (vs.drop k) ∧ (blkOf u = blkOf v) ∧ ∀ a n c, u = .slice (some a) n c → a.spot = none ∨ a.spot = some 1 := by
  obtain ⟨base, cap, rfl, hc, h1⟩ := r
  rcases h1 with rfl | ⟨b, o, s, rfl, hl⟩
  · simp at hk
  · have hh := ld_of_lds hl
    have hlen : (vs.drop k).length = vs.length - k := by simp
    have h3 : vs.drop k ≠ [] := by intro e; have := congrArg List.length e; simp at this; omega
    have hl3 : h.lds b (o + k) (vs.drop k).length = some (vs.drop k) := lds_of_ld h3 fun j hj => by
      rw [Nat.add_assoc, hh.2 (k + j) (by simp at hj; omega)]; simp
    rcases s with _ | s
    · refine ⟨.slice (some ⟨b, if cap = k then o else o + k * 1, none⟩) (vs.length - k) (cap - k), by simp [slc]; omega, ⟨_, cap - k, by rw [hlen], by omega, .inr ⟨b, o + k, none, ?_, hl3⟩⟩, rfl, fun a n c e => by cases e; exact .inl rfl⟩
      rw [if_neg (by omega), Nat.mul_one]
    · have hs1 : s = 1 := by simpa using hs _ _ _ rfl
      subst hs1
      exact ⟨.slice (some ⟨b, o + k * 1, some 1⟩) (vs.length - k) (cap - k), by simp [slc]; omega, ⟨_, cap - k, by rw [hlen], by omega, .inr ⟨b, o + k, some 1, by rw [Nat.mul_one], hl3⟩⟩, rfl, fun a n c e => by cases e; exact .inr rfl⟩

theorem stp2 : type_of% (And.intro @At.regDu (And.intro @Dps.newSl (And.intro @Dps.newB (And.intro @Dps.boxB (And.intro @Ops.callvV (And.intro @callvV.mk (And.intro @optNat_n (And.intro @optNat_s (And.intro @H.up_zero (And.intro @gateV.und (And.intro @dgateV.und (And.intro @Dps.callvV (@dcallvV.mk))))))))))))) := And.intro @At.regDu (And.intro @Dps.newSl (And.intro @Dps.newB (And.intro @Dps.boxB (And.intro @Ops.callvV (And.intro @callvV.mk (And.intro @optNat_n (And.intro @optNat_s (And.intro @H.up_zero (And.intro @gateV.und (And.intro @dgateV.und (And.intro @Dps.callvV (@dcallvV.mk))))))))))))
end Go.Ae
