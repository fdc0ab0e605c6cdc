/- What the evaluator's values mean in memory, and that they go on meaning it while memory grows and other places are written. -/
import Derived.Test.YtgjingnobdhdfaaVmDef
import Derived.Laws.World
import Derived.Laws.Cells
import Derived.Laws.OwnMore
import Derived.Maps.AppendAt
import Derived.Below
set_option linter.unusedVariables false
set_option linter.unusedSimpArgs false
namespace Go.Vm

abbrev Pl := Nat → Nat → Prop
abbrev at_ (k o : Nat) : Addr := ⟨k, o, none⟩
theorem at_add (k o n : Nat) : (at_ k o).add n = at_ k (o + n) := by unfold Addr.add; split <;> simp_all

theorem oneC_eq (v : Value) : oneC v = v.oneCell' := by cases v <;> rfl

/-! ### What stays as it was -/
def KeepObj (S : Nat → Prop) (o o' : Option Obj) : Prop :=
  o' = o ∨ ∃ c c' t fz, o = some (.cells c t fz) ∧ o' = some (.cells c' t fz) ∧ c'.size = c.size ∧ ∀ j, ¬ S j → c'[j]? = c[j]?
structure Keep (S : Pl) (w w' : World) : Prop where
  os : w'.os = w.os
  tape : w'.tape = w.tape
  output : w'.output = w.output
  size : w.heap.size ≤ w'.heap.size
  blk : ∀ k, k < w.heap.size → KeepObj (S k) w.heap[k]? w'.heap[k]?

theorem Keep.refl (S : Pl) (w : World) : Keep S w w := ⟨rfl, rfl, rfl, Nat.le_refl _, fun _ _ => .inl rfl⟩
theorem KeepObj.trans {S : Nat → Prop} {a b c : Option Obj} (h : KeepObj S a b) (k : KeepObj S b c) : KeepObj S a c := by
  rcases h with rfl | ⟨x, y, t, fz, rfl, rfl, h1, h2⟩
  · exact k
  · rcases k with rfl | ⟨x', y', t', fz', he, rfl, k1, k2⟩
    · exact .inr ⟨x, y, t, fz, rfl, rfl, h1, h2⟩
    · injection he with he; injection he with he1 he2 he3
      subst he1 he2 he3
      exact .inr ⟨x, y', t, fz, rfl, rfl, k1.trans h1, fun j hj => (k2 j hj).trans (h2 j hj)⟩
theorem KeepObj.mono {S S' : Nat → Prop} {a b : Option Obj} (h : KeepObj S a b) (hs : ∀ j, S j → S' j) : KeepObj S' a b := by
  rcases h with h | ⟨x, y, t, fz, h1, h2, h3, h4⟩
  · exact .inl h
  · exact .inr ⟨x, y, t, fz, h1, h2, h3, fun j hj => h4 j fun hh => hj (hs j hh)⟩
/-- Two steps; what the second one writes lies in new blocks or where writing is allowed. -/
theorem Keep.trans {S T : Pl} {a b c : World} (h : Keep S a b) (k : Keep T b c) (hT : ∀ i o, i < a.heap.size → T i o → S i o) : Keep S a c :=
  ⟨k.os.trans h.os, k.tape.trans h.tape, k.output.trans h.output, Nat.le_trans h.size k.size, fun i hi => (h.blk i hi).trans ((k.blk i (Nat.lt_of_lt_of_le hi h.size)).mono fun o ho => hT i o hi ho)⟩
theorem Keep.mono {S T : Pl} {a b : World} (h : Keep S a b) (hS : ∀ i o, i < a.heap.size → S i o → T i o) : Keep T a b := ⟨h.os, h.tape, h.output, h.size, fun i hi => (h.blk i hi).mono fun o => hS i o hi⟩
theorem KeepObj.cell {S : Nat → Prop} {w w' : World} {k o : Nat} (h : KeepObj S w.heap[k]? w'.heap[k]?) (ho : ¬ S o) : w'.cell? (at_ k o) = w.cell? (at_ k o) := by
  unfold World.cell?
  rcases h with h | ⟨c, c', t, fz, h1, h2, h3, h4⟩
  · simp only [h]
  · simp only [h1, h2]
    simp [h4 o ho]
theorem Keep.cell {S : Pl} {w w' : World} (h : Keep S w w') {k o : Nat} (hk : k < w.heap.size) (ho : ¬ S k o) : w'.cell? (at_ k o) = w.cell? (at_ k o) := (h.blk k hk).cell ho
theorem cell_lt {w : World} {k o : Nat} {v : Value} (h : w.cell? (at_ k o) = some v) : k < w.heap.size := World.block_lt_of_cell? w (at_ k o) h
theorem Keep.cell_some {S : Pl} {w w' : World} (h : Keep S w w') {k o : Nat} {v : Value} (hc : w.cell? (at_ k o) = some v) (ho : ¬ S k o) : w'.cell? (at_ k o) = some v := (h.cell (cell_lt hc) ho).trans hc
theorem Keep.frozen {S : Pl} {w w' : World} (h : Keep S w w') {k o : Nat} (hk : k < w.heap.size) : w'.frozen? (at_ k o) = w.frozen? (at_ k o) := by
  unfold World.frozen?
  rcases h.blk k hk with h | ⟨c, c', t, fz, h1, h2, _⟩
  · simp only [h]
  · simp only [h1, h2]
theorem Keep.alloc (S : Pl) (w : World) (o : Obj) : Keep S w (w.alloc o) := ⟨rfl, rfl, rfl, by simp, fun k hk => .inl (RowKit.Below.heap_alloc w o k hk)⟩
theorem Keep.drew (S : Pl) (w : World) : Keep S w w.drew := ⟨rfl, rfl, rfl, Nat.le_refl _, fun _ _ => .inl rfl⟩
theorem Keep.grown {S : Pl} {w w' : World} {row : Option Nat} (h : w.grownBy w' row) (hr : ∀ k, row = some k → w.heap.size ≤ k) : Keep S w w' :=
  ⟨h.os, h.tape, h.output, h.size, fun k hk => .inl (h.block k hk fun e => by have := hr k e.symm; omega)⟩

/-! ### Data -/
inductive Rd (w : World) (Im : Pl) : D → Value → Prop
  | bool (b : Bool) : Rd w Im (.bool b) (.bool b)
  | int (k : IntKind) (n : Int) : Rd w Im (.int k n) (.int k n)
  | str (s : ByteArray) : Rd w Im (.str s) (.string s)
  | fn (f : FuncId) : Rd w Im (.fn f) (.func (.func f) #[] #[])
  | nilp : Rd w Im .nilp (.pointer none)
  | list (esz : Nat) (rows : List (List D)) (A : Option Addr) (c : Nat) (vals : Nat → Value) (hc : rows.length ≤ c)
      (hl : ∀ row ∈ rows, row.length = esz)
      (ha : rows ≠ [] → ∃ g o, A = some (at_ g o) ∧ ∀ j, j < rows.length * esz → Im g (o + j) ∧ w.cell? (at_ g (o + j)) = some (vals j))
      (hr : ∀ i row, rows[i]? = some row → ∀ j d, row[j]? = some d → Rd w Im d (vals (i * esz + j))) : Rd w Im (.list esz rows) (.slice A rows.length c)

theorem Rd.one {w : World} {Im : Pl} {d : D} {v : Value} (h : Rd w Im d v) : oneC v = true := by cases h <;> rfl
theorem row_in {rows : List (List D)} {esz i j : Nat} {row : List D} {d : D} (hl : ∀ row ∈ rows, row.length = esz) (hi : rows[i]? = some row) (hj : row[j]? = some d) : i < rows.length ∧ j < esz ∧ i * esz + j < rows.length * esz := by
  have h1 := (List.getElem?_eq_some_iff.1 hi).1
  have h2 := (List.getElem?_eq_some_iff.1 hj).1
  have h3 := hl row (List.mem_of_getElem? hi)
  refine ⟨h1, by omega, ?_⟩
  have : i * esz + esz ≤ rows.length * esz := by rw [← Nat.succ_mul]; exact Nat.mul_le_mul_right _ h1
  omega
theorem Rd.step {w w' : World} {Im Im' : Pl} {d : D} {v : Value} (h : Rd w Im d v) (hI : ∀ k o, Im k o → Im' k o) (hw : ∀ k o, Im k o → w'.cell? (at_ k o) = w.cell? (at_ k o)) : Rd w' Im' d v := by
  induction h with
  | bool b => exact .bool b
  | int k n => exact .int k n
  | str s => exact .str s
  | fn f => exact .fn f
  | nilp => exact .nilp
  | list esz rows A c vals hc hl ha hr ih =>
    refine .list esz rows A c vals hc hl (fun hn => ?_) fun i row hi j d hj => ih i row hi j d hj
    obtain ⟨g, o, rfl, h⟩ := ha hn
    exact ⟨g, o, rfl, fun j hj => ⟨hI _ _ (h j hj).1, (hw _ _ (h j hj).1).trans (h j hj).2⟩⟩

/-! ### Frames -/
inductive Own where
  | none
  | b (s : Nat)
  | t (k : Nat)
/-- Where boxes lie, which slice a token stands for, which block it owns; whose a place is; which places are written no more. -/
structure As where
  Im : Pl
  β : Nat → Addr
  τ : Nat → Value
  ω : Nat → Option Nat
  own : Nat → Nat → Own

def RC' (fr : Fr) (w : World) (A : As) : C → Value → Prop
  | .d x, v => Rd w A.Im x v
  | .own t e, v => ∃ k, fr.tk t = some k ∧ e ≤ k.e ∧ (e = k.e → v = A.τ t)
  | .sub t e off len, v => ∃ k, fr.tk t = some k ∧ e ≤ k.e ∧ (e = k.e → off + len ≤ k.rows.length ∧ ∃ a c, v = .slice a len c ∧ len ≤ c ∧ (0 < len → ∃ g, A.ω t = some g ∧ a = some (at_ g (off * k.esz))))
  | .nil0, v => ∃ a, v = .slice a 0 0
  | .ptr s e off, v => (∃ g o, v = .pointer (some (at_ g o))) ∧ ∃ b, fr.bx s = some b ∧ e ≤ b.e ∧ (e = b.e → v = .pointer (some (at_ (A.β s).block ((A.β s).off + off))))
  | .tptr t e i off, v => (∃ g o, v = .pointer (some (at_ g o))) ∧ ∃ k, fr.tk t = some k ∧ e ≤ k.e ∧ (e = k.e → i < k.rows.length ∧ ∃ g, A.ω t = some g ∧ v = .pointer (some (at_ g (i * k.esz + off))))
  | .rptr esz row off, v => row.length = esz ∧ ∃ g o, v = .pointer (some (at_ g (o + off))) ∧ ∀ j d, row[j]? = some d → ∃ u, A.Im g (o + j) ∧ w.cell? (at_ g (o + j)) = some u ∧ Rd w A.Im d u
  | .fn _ _, _ => False
  | .undef, _ => True
def RC (fr : Fr) (w : World) (A : As) (c : C) (v : Value) : Prop := oneC v = true ∧ RC' fr w A c v
def RCs (fr : Fr) (w : World) (A : As) (cs : List C) (vs : List Value) : Prop := vs.length = cs.length ∧ ∀ (j : Nat) (c : C) (v : Value), cs[j]? = some c → vs[j]? = some v → RC fr w A c v
inductive RV (fr : Fr) (w : World) (A : As) : V → Value → Prop
  | one (c : C) (v : Value) (h : RC fr w A c v) : RV fr w A (.one c) v
  | agg (cs : List C) (vs : Array Value) (h : RCs fr w A cs vs.toList) : RV fr w A (.agg cs) (.agg vs)
  | tup (xs : List V) (vs : Array Value) (hl : vs.size = xs.length) (h : ∀ (j : Nat) (x : V) (v : Value), xs[j]? = some x → vs[j]? = some v → RV fr w A x v) : RV fr w A (.tup xs) (.tuple vs)
  | skip : RV fr w A .skip Go.undef
  | any (v : Value) : RV fr w A .any v

def TokRel (w : World) (Im : Pl) (B : Nat) (k : Tk) (v : Value) : Option Nat → Prop
  | none => k.rows = [] ∧ ∃ a, v = .slice a 0 0
  | some g => 0 < k.esz ∧ B ≤ g ∧ (∀ row ∈ k.rows, row.length = k.esz) ∧ ∃ cap cur, v = .slice (some (at_ g 0)) k.rows.length cap ∧ w.heap[g]? = some (.cells cur k.et (0, 0)) ∧ k.rows.length ≤ cap ∧ cap ≤ maxLen ∧
      cur.size = cap * k.esz ∧ ∀ i row, k.rows[i]? = some row → ∀ j d, row[j]? = some d → ∃ u, cur[i * k.esz + j]? = some u ∧ Rd w Im d u

/-- What a call may write of what was there, and what of it is written no more. -/
structure Sp where
  S : Pl
  E : Pl
  pin : Nat → Option Addr
/-- Box 's' as the frame has it. -/
structure BoxOk (w0 : World) (S : Sp) (fr : Fr) (w : World) (A : As) (s : Nat) (b : Bx) : Prop where
  cell : ∀ (j : Nat) (c : C), b.cs[j]? = some c → ∃ v, w.cell? (at_ (A.β s).block ((A.β s).off + j)) = some v ∧ RC fr w A c v
  free : ∀ j, j < b.cs.length → w.frozen? (at_ (A.β s).block ((A.β s).off + j)) = false
  own : ∀ j, j < b.cs.length → A.own (A.β s).block ((A.β s).off + j) = .b s
  may : ∀ j, j < b.cs.length → w0.heap.size ≤ (A.β s).block ∨ S.S (A.β s).block ((A.β s).off + j)
  whole : S.pin s = none → (A.β s).off = 0 ∧ w0.heap.size ≤ (A.β s).block ∧ (A.β s).block < w.heap.size ∧ ∀ o, A.own (A.β s).block o = .b s
structure TokOk (w0 : World) (w : World) (A : As) (t : Nat) (k : Tk) : Prop where
  rel : TokRel w A.Im w0.heap.size k (A.τ t) (A.ω t)
  own : ∀ g, A.ω t = some g → ∀ o, A.own g o = .t t
structure ImOk (fr : Fr) (w : World) (A : As) (k o : Nat) : Prop where
  cell : ∃ v, w.cell? (at_ k o) = some v
  nob : ∀ s, A.own k o ≠ .b s
  tok : ∀ t x, A.own k o = .t t → fr.tk t = some x → A.ω t = some k → x.fz = true ∧ o < x.rows.length * x.esz
structure St (nt : Nat) (w0 : World) (S : Sp) (w : World) (A : As) (fr : Fr) (tmps : Array Value) : Prop where
  ntm : nt ≤ tmps.size
  keep : Keep S.S w0 w
  tm : ∀ t, RV fr w A (fr.tm t) (tmps.getD t Go.undef)
  bx : ∀ s b, fr.bx s = some b → BoxOk w0 S fr w A s b
  tk : ∀ t k, fr.tk t = some k → TokOk w0 w A t k
  im : ∀ k o, A.Im k o → ImOk fr w A k o
  ime : ∀ k o, A.Im k o → k < w0.heap.size → S.E k o
  eim : ∀ k o, S.E k o → A.Im k o
  pin : ∀ s a, S.pin s = some a → ∃ b, fr.bx s = some b ∧ (b.e = 0 → A.β s = a)

theorem RC.step {fr fr' : Fr} {w w' : World} {A A' : As} {c : C} {v : Value} (h : RC fr w A c v)
    (hB : ∀ s b, fr.bx s = some b → ∃ b', fr'.bx s = some b' ∧ (b.e < b'.e ∨ (b'.e = b.e ∧ A'.β s = A.β s)))
    (hT : ∀ t k, fr.tk t = some k → ∃ k', fr'.tk t = some k' ∧ (k.e < k'.e ∨ (k'.e = k.e ∧ A'.τ t = A.τ t ∧ A'.ω t = A.ω t ∧ k'.rows.length = k.rows.length ∧ k'.esz = k.esz)))
    (hI : ∀ k o, A.Im k o → A'.Im k o) (hw : ∀ k o, A.Im k o → w'.cell? (at_ k o) = w.cell? (at_ k o)) : RC fr' w' A' c v := by
  obtain ⟨h1, h⟩ := h
  refine ⟨h1, ?_⟩
  cases c with
  | d x => exact Rd.step h hI hw
  | own t e =>
    obtain ⟨k, hk, he, hv⟩ := h
    obtain ⟨k', hk', hh⟩ := hT t k hk
    refine ⟨k', hk', ?_, fun e1 => ?_⟩
    · rcases hh with hh | ⟨hh, _⟩ <;> omega
    · rcases hh with hh | ⟨hh, hτ, _⟩
      · omega
      · rw [hτ]; exact hv (by omega)
  | sub t e off len =>
    obtain ⟨k, hk, he, hv⟩ := h
    obtain ⟨k', hk', hh⟩ := hT t k hk
    refine ⟨k', hk', ?_, fun e1 => ?_⟩
    · rcases hh with hh | ⟨hh, _⟩ <;> omega
    · rcases hh with hh | ⟨hh, hτ, hω, hl, hz⟩
      · omega
      · rw [hω, hl, hz]; exact hv (by omega)
  | nil0 => exact h
  | ptr s e off =>
    obtain ⟨hp, b, hb, he, hv⟩ := h
    obtain ⟨b', hb', hh⟩ := hB s b hb
    refine ⟨hp, b', hb', ?_, fun e1 => ?_⟩
    · rcases hh with hh | ⟨hh, _⟩ <;> omega
    · rcases hh with hh | ⟨hh, hβ⟩
      · omega
      · rw [hβ]; exact hv (by omega)
  | tptr t e i off =>
    obtain ⟨hp, k, hk, he, hv⟩ := h
    obtain ⟨k', hk', hh⟩ := hT t k hk
    refine ⟨hp, k', hk', ?_, fun e1 => ?_⟩
    · rcases hh with hh | ⟨hh, _⟩ <;> omega
    · rcases hh with hh | ⟨hh, hτ, hω, hl, hz⟩
      · omega
      · rw [hω, hl, hz]; exact hv (by omega)
  | rptr esz row off =>
    obtain ⟨hl, g, o, rfl, hr⟩ := h
    refine ⟨hl, g, o, rfl, fun j d hj => ?_⟩
    obtain ⟨u, h2, h3, h4⟩ := hr j d hj
    exact ⟨u, hI _ _ h2, (hw _ _ h2).trans h3, Rd.step h4 hI hw⟩
  | fn f cs => exact h
  | undef => exact h

theorem RV.map {fr fr' : Fr} {w w' : World} {A A' : As} {x : V} {v : Value} (h : RV fr w A x v) (hc : ∀ c v, RC fr w A c v → RC fr' w' A' c v) : RV fr' w' A' x v := by
  induction h with
  | one c v h => exact .one c v (hc c v h)
  | agg cs vs h => exact .agg cs vs ⟨h.1, fun j c v h1 h2 => hc c v (h.2 j c v h1 h2)⟩
  | tup xs vs hl h ih => exact .tup xs vs hl ih
  | skip => exact .skip
  | any v => exact .any v

end Go.Vm
