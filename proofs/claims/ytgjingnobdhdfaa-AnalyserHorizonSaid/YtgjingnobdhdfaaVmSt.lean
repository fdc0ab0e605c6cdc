/- How a state of the frame goes on when memory is written. -/
import Derived.Test.YtgjingnobdhdfaaVmRel
set_option linter.unusedVariables false
set_option linter.unusedSimpArgs false
namespace Go.Vm

theorem upd_same {α : Type} (f : Nat → α) (k : Nat) (v : α) : upd f k v k = v := by simp [upd]
theorem upd_ne {α : Type} (f : Nat → α) {k j : Nat} (v : α) (h : j ≠ k) : upd f k v j = f j := by
  have : Nat.beq j k = false := by cases hb : Nat.beq j k with | false => rfl | true => exact absurd (Nat.eq_of_beq_eq_true hb) h
  simp [upd, this]

@[simp] theorem put_bx (fr : Fr) (d : Option Tmp) (v : V) : (fr.put d v).bx = fr.bx := by cases d <;> rfl
@[simp] theorem put_tk (fr : Fr) (d : Option Tmp) (v : V) : (fr.put d v).tk = fr.tk := by cases d <;> rfl

/-- What cells mean hangs on boxes and tokens alone. -/
theorem RC'_congr {fr fr' : Fr} (hb : fr'.bx = fr.bx) (ht : fr'.tk = fr.tk) (w : World) (A : As) (c : C) (v : Value) : RC' fr' w A c v = RC' fr w A c v := by
  cases c <;> simp only [RC', hb, ht]
theorem RC_congr {fr fr' : Fr} (hb : fr'.bx = fr.bx) (ht : fr'.tk = fr.tk) (w : World) (A : As) (c : C) (v : Value) : RC fr' w A c v = RC fr w A c v := by
  unfold RC; rw [RC'_congr hb ht]
theorem RV.congr {fr fr' : Fr} (hb : fr'.bx = fr.bx) (ht : fr'.tk = fr.tk) {w : World} {A : As} {x : V} {v : Value} (h : RV fr w A x v) : RV fr' w A x v :=
  h.map fun c v h => by rw [RC_congr hb ht]; exact h

section
variable {nt : Nat} {w0 : World} {S : Sp} {w : World} {A : As} {fr : Fr} {tmps : Array Value}

theorem getD_put (a : Act) (d : Option Tmp) (v : Value) (t : Nat) : (a.put d v).tmps.getD t Go.undef = (match d with | some e => if e = t then (if t < a.tmps.size then v else Go.undef) else a.tmps.getD t Go.undef | none => a.tmps.getD t Go.undef) := by
  cases d with
  | none => rfl
  | some e =>
    simp only [Act.put]
    by_cases h : e = t
    · subst h
      simp only [if_true, Array.getD_eq_getD_getElem?]
      by_cases hs : e < a.tmps.size
      · simp [hs]
      · simp [hs]
    · simp [Array.getD_eq_getD_getElem?, Array.getElem?_setIfInBounds_ne h, h]

/-- A temporary is written. -/
theorem St.put {a : Act} (h : St nt w0 S w A fr a.tmps) (d : Option Tmp) (x : V) (v : Value) (hd : ∀ e, d = some e → e < nt) (hv : RV fr w A x v) : St nt w0 S w A (fr.put d x) (a.put d v).tmps where
  ntm := by cases d <;> simpa [Act.put] using h.ntm
  keep := h.keep
  tm := fun t => by
    rw [getD_put]
    cases d with
    | none => exact (h.tm t).congr rfl rfl
    | some e =>
      have hlt := hd e rfl
      have hn : nt ≤ a.tmps.size := h.ntm
      by_cases ht : e = t
      · subst ht
        simp only [if_true]
        rw [if_pos (Nat.lt_of_lt_of_le hlt hn)]
        have : (fr.put (some e) x).tm e = x := by simp [Fr.put, upd_same]
        rw [this]
        exact RV.congr (fr := fr) (by simp) (by simp) hv
      · simp only [ht, if_false]
        have : (fr.put (some e) x).tm t = fr.tm t := by simp [Fr.put, upd_ne _ _ (Ne.symm ht)]
        rw [this]
        exact RV.congr (fr := fr) (by simp) (by simp) (h.tm t)
  bx := fun s b hb => by
    have := h.bx s b (by simpa using hb)
    exact ⟨fun j c hc => by obtain ⟨v, h1, h2⟩ := this.cell j c hc; exact ⟨v, h1, by rw [RC_congr (fr := fr) (by simp) (by simp)]; exact h2⟩, this.free, this.own, this.may, this.whole⟩
  tk := fun t k hk => h.tk t k (by simpa using hk)
  im := fun k o hi => by
    have := h.im k o hi
    exact ⟨this.cell, this.nob, fun t x h1 h2 => this.tok t x h1 (by simpa using h2)⟩
  ime := h.ime
  eim := h.eim
  pin := fun s a ha => by simpa using h.pin s a ha

/-- A temporary whose value is known better. -/
theorem St.know (h : St nt w0 S w A fr tmps) (t : Nat) (x : V) (hv : RV fr w A x (tmps.getD t Go.undef)) : St nt w0 S w A { fr with tm := upd fr.tm t x } tmps where
  ntm := h.ntm
  keep := h.keep
  tm := fun e => by
    by_cases he : e = t
    · subst he
      simp only [upd_same]
      refine RV.congr (fr := fr) ?_ ?_ hv <;> rfl
    · simp only [upd_ne _ _ he]
      refine RV.congr (fr := fr) ?_ ?_ (h.tm e) <;> rfl
  bx := fun s b hb => by
    have := h.bx s b hb
    exact ⟨fun j c hc => by obtain ⟨v, h1, h2⟩ := this.cell j c hc; exact ⟨v, h1, h2⟩, this.free, this.own, this.may, this.whole⟩
  tk := fun t k hk => h.tk t k hk
  im := fun k o hi => by
    have := h.im k o hi
    exact ⟨this.cell, this.nob, this.tok⟩
  ime := h.ime
  eim := h.eim
  pin := h.pin

/-- One step of memory and frame: what is written (T) are places of the call's own. -/
structure Upd (w0 : World) (S : Sp) (w : World) (A : As) (fr : Fr) (w' : World) (A' : As) (fr' : Fr) (T : Pl) : Prop where
  keep : Keep T w w'
  mayT : ∀ k o, T k o → w0.heap.size ≤ k ∨ S.S k o
  imT : ∀ k o, A.Im k o → ¬ T k o
  tm : fr'.tm = fr.tm
  im : ∀ k o, A.Im k o → A'.Im k o
  own : ∀ k o, k < w.heap.size → (A.own k o ≠ .none ∨ A.Im k o) → A'.own k o = A.own k o
  bx : ∀ s b, fr.bx s = some b → ∃ b', fr'.bx s = some b' ∧ (b.e < b'.e ∨ (b'.e = b.e ∧ A'.β s = A.β s))
  tk : ∀ t k, fr.tk t = some k → ∃ k', fr'.tk t = some k' ∧ (k.e < k'.e ∨ (k'.e = k.e ∧ A'.τ t = A.τ t ∧ A'.ω t = A.ω t ∧ k'.rows.length = k.rows.length ∧ k'.esz = k.esz))

variable {w' : World} {A' : As} {fr' : Fr} {T : Pl}
theorem Upd.imw (u : Upd w0 S w A fr w' A' fr' T) (h : St nt w0 S w A fr tmps) : ∀ k o, A.Im k o → w'.cell? (at_ k o) = w.cell? (at_ k o) := fun k o hi => by
  obtain ⟨v, hv⟩ := (h.im k o hi).cell
  exact u.keep.cell (cell_lt hv) (u.imT k o hi)
theorem Upd.rc (u : Upd w0 S w A fr w' A' fr' T) (h : St nt w0 S w A fr tmps) {c : C} {v : Value} (hc : RC fr w A c v) : RC fr' w' A' c v :=
  hc.step u.bx u.tk u.im (u.imw h)
theorem Upd.rv (u : Upd w0 S w A fr w' A' fr' T) (h : St nt w0 S w A fr tmps) {x : V} {v : Value} (hc : RV fr w A x v) : RV fr' w' A' x v := hc.map fun _ _ => u.rc h
theorem Upd.rd (u : Upd w0 S w A fr w' A' fr' T) (h : St nt w0 S w A fr tmps) {x : D} {v : Value} (hc : Rd w A.Im x v) : Rd w' A'.Im x v := hc.step u.im (u.imw h)

theorem St.of_upd (h : St nt w0 S w A fr tmps) (u : Upd w0 S w A fr w' A' fr' T)
    (hbx : ∀ s b, fr'.bx s = some b → (fr.bx s = some b ∧ A'.β s = A.β s ∧ ∀ j, j < b.cs.length → ¬ T (A.β s).block ((A.β s).off + j)) ∨ BoxOk w0 S fr' w' A' s b)
    (htk : ∀ t k, fr'.tk t = some k → ((∃ z, fr.tk t = some z ∧ z.rows = k.rows ∧ z.esz = k.esz ∧ z.et = k.et) ∧ A'.τ t = A.τ t ∧ A'.ω t = A.ω t ∧ ∀ g, A.ω t = some g → ∀ o, ¬ T g o) ∨ TokOk w0 w' A' t k)
    (him : ∀ k o, A'.Im k o → (∃ v, w'.cell? (at_ k o) = some v) ∧ (∀ s, A'.own k o ≠ .b s) ∧ ∀ t x, A'.own k o = .t t → fr'.tk t = some x → A'.ω t = some k → x.fz = true ∧ o < x.rows.length * x.esz) (hie : ∀ k o, A'.Im k o → A.Im k o ∨ w0.heap.size ≤ k) :
    St nt w0 S w' A' fr' tmps where
  ntm := h.ntm
  keep := h.keep.trans u.keep fun i o hi ht => (u.mayT i o ht).resolve_left (by omega)
  tm := fun t => by rw [u.tm]; exact u.rv h (h.tm t)
  bx := fun s b hb => by
    rcases hbx s b hb with ⟨h1, h2, h3⟩ | hh
    · have hk := h.bx s b h1
      refine ⟨fun j c hc => ?_, fun j hj => ?_, fun j hj => ?_, fun j hj => ?_, fun hp => ?_⟩
      · have hj := (List.getElem?_eq_some_iff.1 hc).1
        obtain ⟨v, hv, hr⟩ := hk.cell j c hc
        rw [h2]
        exact ⟨v, u.keep.cell_some hv (h3 j hj), u.rc h hr⟩
      · rw [h2]
        obtain ⟨v, hv, hr⟩ := hk.cell j b.cs[j] (List.getElem?_eq_getElem hj)
        rw [u.keep.frozen (cell_lt hv)]
        exact hk.free j hj
      · rw [h2]
        obtain ⟨v, hv, hr⟩ := hk.cell j b.cs[j] (List.getElem?_eq_getElem hj)
        rw [u.own _ _ (cell_lt hv) (.inl (by rw [hk.own j hj]; simp))]
        exact hk.own j hj
      · rw [h2]; exact hk.may j hj
      · obtain ⟨q1, q2, q3, q4⟩ := hk.whole hp
        rw [h2]
        exact ⟨q1, q2, Nat.lt_of_lt_of_le q3 u.keep.size, fun o => by rw [u.own _ o q3 (.inl (by rw [q4 o]; simp))]; exact q4 o⟩
    · exact hh
  tk := fun t k hk => by
    rcases htk t k hk with ⟨⟨z, h1, hz1, hz2, hz3⟩, h2, h3, h4⟩ | hh
    · have hk := h.tk t z h1
      refine ⟨?_, fun g hg o => ?_⟩
      · have := hk.rel
        rw [h2, h3]
        cases hω : A.ω t with
        | none => rw [hω] at this; exact ⟨hz1 ▸ this.1, this.2⟩
        | some g =>
          rw [hω] at this
          obtain ⟨h5, h6, h7, cap, cur, h8, h9, h10, h11, h12, h13⟩ := this
          rw [hz1, hz2, hz3] at *
          refine ⟨h5, h6, h7, cap, cur, h8, ?_, h10, h11, h12, fun i row hi j d hj => ?_⟩
          · have hlt : g < w.heap.size := (Array.getElem?_eq_some_iff.1 h9).1
            rcases u.keep.blk g hlt with he | ⟨c, c', ty, fz, he1, he2, he3, he4⟩
            · rw [he]; exact h9
            · rw [h9] at he1
              injection he1 with he1; injection he1 with q1 q2 q3
              subst q1 q2 q3
              rw [he2]
              have : c' = cur := Array.ext_getElem? fun i => he4 i (h4 g hω i)
              rw [this]
          · obtain ⟨x, hx1, hx2⟩ := h13 i row hi j d hj
            exact ⟨x, hx1, u.rd h hx2⟩
      · rw [h3] at hg
        have hrel := hk.rel
        rw [hg] at hrel
        obtain ⟨_, _, _, cap, cur, _, h9, _⟩ := hrel
        rw [u.own g o (Array.getElem?_eq_some_iff.1 h9).1 (.inl (by rw [hk.own g hg o]; simp))]
        exact hk.own g hg o
    · exact hh
  im := fun k o hi => ⟨(him k o hi).1, (him k o hi).2.1, (him k o hi).2.2⟩
  ime := fun k o hi hk => h.ime k o ((hie k o hi).resolve_right (by omega)) hk
  eim := fun k o hh => u.im k o (h.eim k o hh)
  pin := fun s a ha => by
    obtain ⟨b, hb, he⟩ := h.pin s a ha
    obtain ⟨b', hb', hh⟩ := u.bx s b hb
    refine ⟨b', hb', fun h0 => ?_⟩
    rcases hh with hh | ⟨hh, hβ⟩
    · omega
    · rw [hβ]; exact he (by omega)

/-- Immutable places stay so while tokens' rows do not shrink and no frozen one thaws. -/
theorem St.im_old (h : St nt w0 S w A fr tmps) (u : Upd w0 S w A fr w' A' fr' T)
    (htk : ∀ t x', fr'.tk t = some x' → ∀ g, A'.ω t = some g → g < w.heap.size → ∃ x, fr.tk t = some x ∧ A.ω t = some g ∧ (x.fz = true → x'.fz = true) ∧ x.rows.length * x.esz ≤ x'.rows.length * x'.esz) :
    ∀ k o, A.Im k o → (∃ v, w'.cell? (at_ k o) = some v) ∧ (∀ s, A'.own k o ≠ .b s) ∧ ∀ t x, A'.own k o = .t t → fr'.tk t = some x → A'.ω t = some k → x.fz = true ∧ o < x.rows.length * x.esz := by
  intro k o hi
  have hh := h.im k o hi
  obtain ⟨v, hv⟩ := hh.cell
  have hlt := cell_lt hv
  refine ⟨⟨v, u.keep.cell_some hv (u.imT k o hi)⟩, fun s => ?_, fun t x h1 h2 h3 => ?_⟩
  · rw [u.own k o hlt (.inr hi)]; exact hh.nob s
  · rw [u.own k o hlt (.inr hi)] at h1
    obtain ⟨y, hy, hω, hf, hl⟩ := htk t x h2 k h3 hlt
    obtain ⟨q1, q2⟩ := hh.tok t y h1 hy hω
    exact ⟨hf q1, by omega⟩

theorem drew_cell (w : World) (k o : Nat) : w.drew.cell? (at_ k o) = w.cell? (at_ k o) := rfl
/-- Nothing but the count of draws. -/
theorem St.drew (h : St nt w0 S w A fr tmps) : St nt w0 S w.drew A fr tmps := by
  have u : Upd w0 S w A fr w.drew A fr (fun _ _ => False) := ⟨Keep.drew _ _, fun _ _ h => h.elim, fun _ _ _ h => h, rfl, fun _ _ h => h, fun _ _ _ _ => rfl, fun s b hb => ⟨b, hb, .inr ⟨rfl, rfl⟩⟩, fun t k hk => ⟨k, hk, .inr ⟨rfl, rfl, rfl, rfl, rfl⟩⟩⟩
  exact h.of_upd u (fun s b hb => .inl ⟨hb, rfl, fun _ _ h => h⟩) (fun t k hk => .inl ⟨⟨k, hk, rfl, rfl, rfl⟩, rfl, rfl, fun _ _ _ h => h⟩)
    (h.im_old u fun t x hx g hg _ => ⟨x, hx, hg, fun h => h, Nat.le_refl _⟩) fun _ _ h => .inl h

end
end Go.Vm
