/- The plain law: the facts drawn from the cards. -/
import Derived.Test.Ytgjingnobdhdfaaa1Law4
set_option linter.unusedVariables false
set_option linter.unusedSimpArgs false
namespace Go.Vm
open Go.Proofs

noncomputable def K7 (l : List (List D)) (p n : Int) (r : List (List D)) : Option (List D) :=
  Kf 7 464 { tm := [V.one (C.ptr 0 0 0), V.one (C.own 3072 0), V.one (C.d (.int .i64 n))], bx := [[C.d (.list 1 l), C.d (.int .i64 p)]], tk := [{ e := 0, fz := false, et := 36, esz := 4, rows := r }] }
noncomputable def K7i (l : List (List D)) (p n i : Int) (a0 a1 a2 a3 : Int) (r : List (List D)) : Option (List D) :=
  Kf 7 119392 { tm := [V.one (C.ptr 0 0 0), V.one (C.own 3072 0), V.one (C.d (.int .i64 n)), V.one (C.ptr 5120 0 0), V.one (C.d (D.int IntKind.i64 i))], bx := [[C.d (.list 1 l), C.d (.int .i64 p)], [C.d (.int .i64 a0), C.d (.int .i64 a1), C.d (.int .i64 a2), C.d (.int .u64 a3)]], tk := [{ e := 0, fz := false, et := 36, esz := 4, rows := r }] }

def IsFacts (l : List (List D)) (e : Option (List D)) : Prop := ∃ r p', FaOk r ∧ r.length ≤ 1000 ∧ e = some [.list 4 r, .list 1 l, .int .i64 p'] ∧ 0 ≤ p' ∧ p' ≤ 9223372036854775807

theorem insert_loop {l : List (List D)} {p n a0 a1 a2 a3 : Int} {r : List (List D)} (hr : FaOk r) (hrl : r.length ≤ 999) (hn0 : 0 < n) (hn1 : n ≤ 1000) (hnext : ∀ r', FaOk r' → r'.length = r.length + 1 → IsFacts l (K7 l p (n - 1) r')) : ∀ (m : Nat), m ≤ r.length → IsFacts l (K7i l p n m a0 a1 a2 a3 r) := by
  have hw : IntKind.i64.wrap (n - 1) = n - 1 := wrap64 (by omega) (by omega)
  have put : ∀ (i : Nat), i ≤ r.length → IsFacts l (K7 l p (n - 1) ([] ++ List.take ((i : Int).toNat - 0) (List.drop 0 r) ++ [[.int .i64 a0, .int .i64 a1, .int .i64 a2, .int .u64 a3]] ++ List.take (r.length - (i : Int).toNat) (List.drop (i : Int).toNat r))) := fun i hi => by
    refine hnext _ (fun row hrow => ?_) ?_
    · simp only [List.nil_append, List.drop_zero, Nat.sub_zero, List.mem_append, List.mem_singleton] at hrow
      rcases hrow with (h | h) | h
      · exact hr row (List.mem_of_mem_take h)
      · exact ⟨_, _, _, _, h⟩
      · exact hr row (List.mem_of_mem_drop (List.mem_of_mem_take h))
    · simp only [List.nil_append, List.drop_zero, Nat.sub_zero, List.length_append, List.length_take, List.length_drop, List.length_cons, List.length_nil]
      omega
  have fin : ∀ (i : Nat), i ≤ r.length → decide (0 ≤ (i : Int) ∧ (i : Int) ≤ (r.length : Int)) = true ∧ decide ((0 + (List.take ((i : Int).toNat - 0) (List.drop 0 r)).length) * 32 ≤ 140737488355328) = true ∧ decide ((([] ++ List.take ((i : Int).toNat - 0) (List.drop 0 r)).length + 1) * 32 ≤ 140737488355328) = true ∧
      decide ((([] ++ List.take ((i : Int).toNat - 0) (List.drop 0 r) ++ [[D.int .i64 a0, .int .i64 a1, .int .i64 a2, .int .u64 a3]]).length + (List.take (r.length - (i : Int).toNat) (List.drop (i : Int).toNat r)).length) * 32 ≤ 140737488355328) = true := fun i hi => by
    refine ⟨decide_eq_true (by omega), decide_eq_true ?_, decide_eq_true ?_, decide_eq_true ?_⟩
    all_goals simp only [List.nil_append, List.drop_zero, Nat.sub_zero, List.length_append, List.length_take, List.length_drop, List.length_cons, List.length_nil]; omega
  intro m
  induction m with
  | zero =>
    intro hm
    obtain ⟨f1, f2, f3, f4⟩ := fin 0 hm
    have := put 0 hm
    unfold K7i K7 at *
    rw [Kf_eq, f7_k119392]
    rw [show (decide (((0 : Nat) : Int) > 0)) = false from rfl]
    simp only [br, f1, f2, f3, f4, takeI, if_true, hw]
    exact this
  | succ m ih =>
    intro hm
    have ih := ih (by omega)
    obtain ⟨f1, f2, f3, f4⟩ := fin (m + 1) hm
    have := put (m + 1) hm
    have hi : IntKind.i64.wrap (((m + 1 : Nat) : Int) - 1) = (m : Int) := by rw [wrap64 (by omega) (by omega)]; omega
    obtain ⟨d0, d1, d2, d3, hrow⟩ := hr _ (getD_mem (l := r) (i := (m : Int)) (by omega) (by omega))
    unfold K7i K7 at *
    rw [Kf_eq, f7_k119392, show (decide (((m + 1 : Nat) : Int) > 0)) = true from decide_eq_true (by omega), hi, inB_true (by omega) (by omega), hrow]
    simp only [br, List.getD_cons_zero, List.getD_cons_succ, takeI, if_true]
    cases decide (d1 > a1) with
    | true => exact ih
    | false =>
      simp only [f1, f2, f3, f4, hw]
      exact this

theorem draw_loop {l : List (List D)} (hl : InOk l) (hlen : (l.length : Int) ≤ 9223372036854775807) : ∀ (n : Nat) (p : Int) (r : List (List D)), 0 ≤ p → p ≤ 9223372036854775807 → FaOk r → r.length + n ≤ 900 → IsFacts l (K7 l p n r) := by
  intro n
  induction n with
  | zero =>
    intro p r hp hp' hr hrl
    unfold K7
    rw [Kf_eq, f7_k464]
    exact ⟨r, p, hr, by omega, rfl, hp, hp'⟩
  | succ n ih =>
    intro p r hp hp' hr hrl
    obtain ⟨a0, a1, a2, a3, p1, h1, h2, h3⟩ := fact_ok hl hlen hp hp'
    have hnn : (((n + 1 : Nat) : Int) - 1) = (n : Int) := by omega
    have := insert_loop (l := l) (p := p1) (n := ((n + 1 : Nat) : Int)) (a0 := a0) (a1 := a1) (a2 := a2) (a3 := a3) hr (by omega) (by omega) (by omega) (fun r' hr' hrl' => by rw [hnn]; exact ih p1 r' h2 h3 hr' (by omega)) r.length (Nat.le_refl _)
    unfold Deck at h1
    unfold K7
    unfold K7i at this
    rw [Kf_eq, f7_k464]
    simp only [takeI, if_true]
    rw [show (decide (((n + 1 : Nat) : Int) > 0)) = true from decide_eq_true (by omega), h1]
    simp only [br, obind, List.getD_cons_zero, List.getD_cons_succ]
    exact this

theorem facts_ok {l : List (List D)} (hl : InOk l) (hlen : (l.length : Int) ≤ 9223372036854775807) {p : Int} (hp : 0 ≤ p) (hp' : p ≤ 9223372036854775807) : IsFacts l (Cf 7 [Deck l p]) := by
  obtain ⟨r, p1, h1, h2, h3, h4, h5⟩ := next_ok hl hlen (n := 10) hp hp' (by omega) (by omega)
  rw [Cf_eq]
  unfold Deck at *
  rw [f7_eq, h1]
  simp only [obind, List.getD_cons_zero, List.getD_cons_succ]
  have := draw_loop hl hlen r.toNat p1 [] h2 h3 (fun row h => by cases h) (by simp; omega)
  rw [show ((r.toNat : Nat) : Int) = r by omega] at this
  exact this
end Go.Vm
