/- AnalyserExplains: the row. -/
import Derived.Test.Ytgjingnobdhdfaaa1Law7
import Derived.Test.YtgjingnobdhdfaaRows
set_option linter.unusedVariables false
set_option linter.unusedSimpArgs false
namespace Go.Vm
open Go.Proofs

theorem ty_int {P : Program} {n : Nat} {t : TypeId} {k : IntKind} {ds : List D} (hu : P.underlying t = some (.int k)) (h : TyD P (n + 1) t ds) : ∃ i, ds = [.int k i] ∧ (Lit.int k i).wf = true := by
  simp only [TyD, hu] at h
  exact h
theorem ty_slice {P : Program} {n : Nat} {t e : TypeId} {ds : List D} (hu : P.underlying t = some (.slice e)) (h : TyD P (n + 1) t ds) : ∃ rows, ds = [.list (sz P e) rows] ∧ rows.length ≤ maxLen ∧ ∀ row ∈ rows, TyD P n e row := by
  simp only [TyD, hu] at h
  exact h
theorem noNum : NoNum Try.prog := by
  intro f fn hf hb
  have h : (Try.prog.funcs.toList.all fun fn => !(fn.name == "runtime.NumGoroutine")) = true := by kernel_rfl
  have := List.all_eq_true.1 h fn (List.mem_of_getElem? (by simpa using hf))
  simpa using this
theorem mixed : Try.prog.follows .mixedOrders = true := by kernel_rfl

theorem ty_struct {P : Program} {n : Nat} {t : TypeId} {fs : Array Field} {ds : List D} (hu : P.underlying t = some (.struct fs)) (h : TyD P (n + 1) t ds) : ds.length = sz P t ∧ ∀ f ∈ fs.toList, TyD P n f.type ((ds.drop f.offset).take (sz P f.type)) := by
  simp only [TyD, hu] at h
  exact h
theorem ty_fact {n : Nat} {row : List D} (h : TyD Try.prog (n + 2) 36 row) : ∃ a0 a1 a2 a3, row = [.int .i64 a0, .int .i64 a1, .int .i64 a2, .int .u64 a3] := by
  obtain ⟨hl, hf⟩ := ty_struct Try.underlying36 h
  have hz : sz Try.prog 36 = 4 := by kernel_rfl
  rw [hz] at hl
  match row, hl with
  | [x0, x1, x2, x3], _ =>
    have f0 := hf _ (List.mem_cons_self)
    have f1 := hf _ (List.mem_cons_of_mem _ List.mem_cons_self)
    have f2 := hf _ (List.mem_cons_of_mem _ (List.mem_cons_of_mem _ List.mem_cons_self))
    have f3 := hf _ (List.mem_cons_of_mem _ (List.mem_cons_of_mem _ (List.mem_cons_of_mem _ List.mem_cons_self)))
    have one : ∀ {t : TypeId} {k : IntKind} {x : D} {m : Nat}, sz Try.prog t = 1 → Try.prog.underlying t = some (.int k) → TyD Try.prog (m + 1) t [x] → ∃ i, x = .int k i := fun {t k x m} _ hu h => by
      obtain ⟨i, hi, _⟩ := ty_int hu h
      injection hi with hi
      exact ⟨i, hi⟩
    have z3 : sz Try.prog 3 = 1 := by kernel_rfl
    have z2 : sz Try.prog 2 = 1 := by kernel_rfl
    have z28 : sz Try.prog 28 = 1 := by kernel_rfl
    simp only [z3, z2, z28, List.drop_zero, List.drop_succ_cons, List.take_succ_cons, List.take_zero] at f0 f1 f2 f3
    obtain ⟨a0, rfl⟩ := one z3 Try.underlying3 f0
    obtain ⟨a1, rfl⟩ := one z2 Try.underlying2 f1
    obtain ⟨a2, rfl⟩ := one z3 Try.underlying3 f2
    obtain ⟨a3, rfl⟩ := one z28 Try.underlying28 f3
    exact ⟨a0, a1, a2, a3, rfl⟩

theorem ty_glitch {n : Nat} {row : List D} (h : TyD Try.prog (n + 2) 30 row) : ∃ c2 c3 c4 c5 c6 c7, row = [.int .i64 c2, .int .i64 c3, .int .i64 c4, .int .i64 c5, .int .u64 c6, .int .i64 c7] := by
  obtain ⟨hl, hf⟩ := ty_struct Try.underlying30 h
  have hz : sz Try.prog 30 = 6 := by kernel_rfl
  rw [hz] at hl
  match row, hl with
  | [x0, x1, x2, x3, x4, x5], _ =>
    have f0 := hf _ (List.mem_cons_self)
    have f1 := hf _ (List.mem_cons_of_mem _ List.mem_cons_self)
    have f2 := hf _ (List.mem_cons_of_mem _ (List.mem_cons_of_mem _ List.mem_cons_self))
    have f3 := hf _ (List.mem_cons_of_mem _ (List.mem_cons_of_mem _ (List.mem_cons_of_mem _ List.mem_cons_self)))
    have f4 := hf _ (List.mem_cons_of_mem _ (List.mem_cons_of_mem _ (List.mem_cons_of_mem _ (List.mem_cons_of_mem _ List.mem_cons_self))))
    have f5 := hf _ (List.mem_cons_of_mem _ (List.mem_cons_of_mem _ (List.mem_cons_of_mem _ (List.mem_cons_of_mem _ (List.mem_cons_of_mem _ List.mem_cons_self)))))
    have one : ∀ {t : TypeId} {k : IntKind} {x : D} {m : Nat}, sz Try.prog t = 1 → Try.prog.underlying t = some (.int k) → TyD Try.prog (m + 1) t [x] → ∃ i, x = .int k i := fun {t k x m} _ hu h => by
      obtain ⟨i, hi, _⟩ := ty_int hu h
      injection hi with hi
      exact ⟨i, hi⟩
    have z3 : sz Try.prog 3 = 1 := by kernel_rfl
    have z2 : sz Try.prog 2 = 1 := by kernel_rfl
    have z28 : sz Try.prog 28 = 1 := by kernel_rfl
    simp only [z3, z2, z28, List.drop_zero, List.drop_succ_cons, List.take_succ_cons, List.take_zero] at f0 f1 f2 f3 f4 f5
    obtain ⟨a0, rfl⟩ := one z3 Try.underlying3 f0
    obtain ⟨a1, rfl⟩ := one z2 Try.underlying2 f1
    obtain ⟨a2, rfl⟩ := one z3 Try.underlying3 f2
    obtain ⟨a3, rfl⟩ := one z3 Try.underlying3 f3
    obtain ⟨a4, rfl⟩ := one z28 Try.underlying28 f4
    obtain ⟨a5, rfl⟩ := one z3 Try.underlying3 f5
    exact ⟨a0, a1, a2, a3, a4, a5, rfl⟩
theorem ty_deck {n : Nat} {ds : List D} (h : TyD Try.prog (n + 3) 22 ds) : ∃ l, ds = [.list 1 l] ∧ (l.length : Int) ≤ 9223372036854775807 ∧ InOk l := by
  obtain ⟨rows, rfl, hl, hr⟩ := ty_slice Try.underlying22 h
  have z3 : sz Try.prog 3 = 1 := by kernel_rfl
  refine ⟨rows, by rw [z3], by simp only [maxLen] at hl; omega, fun row hrow => ?_⟩
  obtain ⟨i, hi, _⟩ := ty_int Try.underlying3 (hr row hrow)
  exact ⟨i, hi⟩
theorem ty_facts {n : Nat} {ds : List D} (h : TyD Try.prog (n + 3) 26 ds) : ∃ l, ds = [.list 4 l] ∧ (l.length : Int) ≤ 9223372036854775807 ∧ FaOk l := by
  obtain ⟨rows, rfl, hl, hr⟩ := ty_slice Try.underlying26 h
  have z3 : sz Try.prog 36 = 4 := by kernel_rfl
  exact ⟨rows, by rw [z3], by simp only [maxLen] at hl; omega, fun row hrow => ty_fact (hr row hrow)⟩
theorem ty_glitches {n : Nat} {ds : List D} (h : TyD Try.prog (n + 3) 40 ds) : ∃ l, ds = [.list 6 l] ∧ (l.length : Int) ≤ 9223372036854775807 ∧ GlOk l := by
  obtain ⟨rows, rfl, hl, hr⟩ := ty_slice Try.underlying40 h
  have z3 : sz Try.prog 30 = 6 := by kernel_rfl
  exact ⟨rows, by rw [z3], by simp only [maxLen] at hl; omega, fun row hrow => ty_glitch (hr row hrow)⟩
theorem explains_all (xs : List (List D)) (h : TyAll Try.prog Try.f4.params.toList xs) : callL Try.prog HH 4 (xs.map .v) = some [.bool true] := by
  have hp : Try.f4.params.toList = [22, 26, 40, 2] := by rw [Try.params4]
  rw [hp] at h
  rcases xs with _ | ⟨x0, _ | ⟨x1, _ | ⟨x2, _ | ⟨x3, _ | ⟨x4, xs⟩⟩⟩⟩⟩
  · exact h.elim
  · exact h.2.elim
  · exact h.2.2.elim
  · exact h.2.2.2.elim
  · obtain ⟨h0, h1, h2, h3, _⟩ := h
    obtain ⟨l0, rfl, q0, r0⟩ := ty_deck h0
    obtain ⟨l1, rfl, q1, r1⟩ := ty_facts h1
    obtain ⟨l2, rfl, q2, r2⟩ := ty_glitches h2
    obtain ⟨d, rfl, _⟩ := ty_int Try.underlying2 h3
    exact explains_ok r0 q0 r1 r2
  · exact h.2.2.2.2.elim
end Go.Vm
