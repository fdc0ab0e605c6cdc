/- The plain law: which facts matter. -/
import Derived.Test.Ytgjingnobdhdfaaa1Eq
set_option linter.unusedVariables false
set_option linter.unusedSimpArgs false
namespace Go.Vm
open Go.Proofs

noncomputable def Cf (f : FuncId) (xs : List Arg) : Option (List D) := callL Try.prog HH f xs
noncomputable def Kf (f : FuncId) (p : Nat) (l : Lv) : Option (List D) := kontL Try.prog HH f p l
theorem Cf_eq (f : FuncId) (xs : List Arg) : Cf f xs = body (X f Cf (Kf f)) xs := callL_eq f xs
theorem Kf_eq (f : FuncId) (p : Nat) (l : Lv) : Kf f p l = bodyAt (X f Cf (Kf f)) p l := kontL_eq f p l

theorem br_ite {α : Type} (b : Bool) (x y : Option α) : br b x y = if b = true then x else y := by cases b <;> rfl

/-! ### Valid -/
def glA (c2 c3 c4 c5 c6 c7 : Int) : Arg := .v [.int .i64 c2, .int .i64 c3, .int .i64 c4, .int .i64 c5, .int .u64 c6, .int .i64 c7]
def faA (a0 a1 a2 a3 : Int) : Arg := .v [.int .i64 a0, .int .i64 a1, .int .i64 a2, .int .u64 a3]
theorem valid_same (c2 c3 c4 c5 c6 c7 : Int) : Cf 21 [glA c2 c3 c4 c5 c6 c7] = Cf 20 [glA c2 c3 c4 c5 c6 c7] := by
  rw [Cf_eq, Cf_eq]
  unfold glA
  rw [f20_eq, f21_eq]
def IsB (e : Option (List D)) (φ : Bool → Prop) : Prop := ∃ b, e = some [.bool b] ∧ φ b
def IsB2 (e e' : Option (List D)) (φ : Bool → Prop) : Prop := ∃ b, e = some [.bool b] ∧ e' = some [.bool b] ∧ φ b
theorem valid_ok (c2 c3 c4 c5 c6 c7 : Int) : IsB (Cf 20 [glA c2 c3 c4 c5 c6 c7]) fun b => b = true → (c2 = 1 ∨ c2 = 2 ∨ c2 = 3 ∨ c2 = 4) ∧ 0 ≤ c3 ∧ c3 ≤ 1099511627776 ∧ 1 ≤ c4 ∧ c4 ≤ 4096 := by
  rw [Cf_eq]
  unfold glA
  rw [f20_eq]
  simp only [br_ite, decide_eq_true_eq, beq_iff_eq]
  repeat' split
  all_goals first
    | exact ⟨false, rfl, fun h => by cases h⟩
    | exact ⟨_, rfl, fun _ => ⟨by omega, by omega, by omega, by omega, by omega⟩⟩

/-! ### Relevant -/
theorem rel_ok (a0 a1 a2 a3 c2 c3 c4 c5 c6 c7 : Int) : IsB2 (Cf 18 [faA a0 a1 a2 a3, glA c2 c3 c4 c5 c6 c7]) (Cf 10 [faA a0 a1 a2 a3, glA c2 c3 c4 c5 c6 c7]) fun b => b = true → Cf 20 [glA c2 c3 c4 c5 c6 c7] = some [.bool true] := by
  obtain ⟨v, hv, hk⟩ := valid_ok c2 c3 c4 c5 c6 c7
  have hv1 := valid_same c2 c3 c4 c5 c6 c7
  rw [hv] at hv1 ⊢
  rw [Cf_eq 18, Cf_eq 10]
  unfold faA glA at *
  rw [f18_eq, f10_eq, hv, hv1]
  simp only [obind, List.getD_cons_zero, takeB, br_ite]
  cases v with
  | false => exact ⟨false, rfl, rfl, fun h => by cases h⟩
  | true =>
    have hk := (hk rfl).1
    simp only [Bool.not_true, Bool.false_eq_true, if_false, beq_iff_eq, Bool.not_eq_true', beq_eq_false_iff_ne]
    rcases hk with rfl | rfl | rfl | rfl <;> simp only [Int.reduceEq, Int.reduceNe, if_true, if_false, ne_eq, not_true_eq_false, not_false_eq_true]
    all_goals repeat' split
    all_goals first
      | exact ⟨_, rfl, rfl, fun _ => trivial⟩
      | (exfalso; omega)
end Go.Vm
