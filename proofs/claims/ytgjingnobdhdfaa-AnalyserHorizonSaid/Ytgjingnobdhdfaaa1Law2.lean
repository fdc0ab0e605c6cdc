/- The plain law: which fact explains. -/
import Derived.Test.Ytgjingnobdhdfaaa1Law1
set_option linter.unusedVariables false
set_option linter.unusedSimpArgs false
namespace Go.Vm
open Go.Proofs

def FaOk (l : List (List D)) : Prop := ∀ row ∈ l, ∃ a0 a1 a2 a3, row = [.int .i64 a0, .int .i64 a1, .int .i64 a2, .int .u64 a3]
theorem getD_mem {l : List (List D)} {i : Int} (h0 : 0 ≤ i) (h1 : i < (l.length : Int)) : l.getD i.toNat [] ∈ l := by
  have : i.toNat < l.length := by omega
  simp [List.getD, List.getElem?_eq_getElem this]
theorem inB_true {i : Int} {n : Nat} (h0 : 0 ≤ i) (h1 : i < (n : Int)) : inB i n = true := by simp [inB, h0, h1]
theorem wrap64 {i : Int} (h0 : -9223372036854775808 ≤ i) (h1 : i ≤ 9223372036854775807) : IntKind.i64.wrap i = i := by
  have e1 : (2 : Int) ^ 64 = 18446744073709551616 := by decide
  have e2 : (2 : Int) ^ (64 - 1) = 9223372036854775808 := by decide
  simp only [IntKind.wrap, IntKind.bits, IntKind.signed, Bool.true_and, decide_eq_true_eq, e1, e2]
  split <;> omega

noncomputable def K9 (l : List (List D)) (b1 c2 c3 c4 c5 c6 c7 i best : Int) : Option (List D) :=
  Kf 9 488 { tm := [V.one (C.d (D.list 4 l)), V.one (C.d (D.int IntKind.i64 b1)), V.one (C.ptr 5120 0 0), V.one (C.ptr 6144 0 0), V.one (C.ptr 7168 0 0), V.one (C.d (D.list 4 l)), V.one (C.d (D.int IntKind.i64 (l.length : Int))), V.one (C.d (D.int IntKind.i64 i))], bx := [[C.d (D.int IntKind.i64 c2), C.d (D.int IntKind.i64 c3), C.d (D.int IntKind.i64 c4), C.d (D.int IntKind.i64 c5), C.d (D.int IntKind.u64 c6), C.d (D.int IntKind.i64 c7)], [C.d (D.int IntKind.i64 0), C.d (D.bool false)], [C.d (D.int IntKind.i64 best), C.d (D.bool (decide (best < 0)))]], tk := [] }
noncomputable def K24 (l : List (List D)) (b1 c2 c3 c4 c5 c6 c7 i best : Int) : Option (List D) :=
  Kf 24 464 { tm := [V.one (C.d (D.list 4 l)), V.one (C.d (D.int IntKind.i64 b1)), V.one (C.ptr 5120 0 0), V.one (C.ptr 6144 0 0), V.one (C.d (D.int IntKind.i64 best)), V.one (C.d (D.int IntKind.i64 i))], bx := [[C.d (D.int IntKind.i64 c2), C.d (D.int IntKind.i64 c3), C.d (D.int IntKind.i64 c4), C.d (D.int IntKind.i64 c5), C.d (D.int IntKind.u64 c6), C.d (D.int IntKind.i64 c7)], [C.d (D.int IntKind.i64 0), C.d (D.bool false)]], tk := [] }

def exA (r : Int) : List D := [.int .i64 r, .bool (decide (r < 0))]
def IsEx (n : Int) (e e' : Option (List D)) : Prop := ∃ r, (r = -1 ∨ 0 ≤ r ∧ r < n) ∧ e = some (exA r) ∧ e' = some (exA r)

theorem ex_loop {l : List (List D)} (hl : FaOk l) (hlen : (l.length : Int) ≤ 9223372036854775807) {b1 c2 c3 c4 c5 c6 c7 : Int} (hb0 : 0 ≤ b1) (hb1 : b1 ≤ 1099511627776) : ∀ (m : Nat) (i best : Int), 0 ≤ i → i ≤ l.length → ((l.length : Int) - i).toNat = m → (best = -1 ∨ 0 ≤ best ∧ best < i) →
    IsEx l.length (K9 l b1 c2 c3 c4 c5 c6 c7 i best) (K24 l b1 c2 c3 c4 c5 c6 c7 i best) := by
  intro m
  induction m with
  | zero =>
    intro i best h0 h1 hm hbest
    have hi : ¬ i < (l.length : Int) := by omega
    unfold K9 K24
    rw [Kf_eq, Kf_eq, f9_k488, f24_k464]
    simp only [br_ite, decide_eq_true_eq, if_neg hi]
    exact ⟨best, by omega, rfl, rfl⟩
  | succ m ih =>
    intro i best h0 h1 hm hbest
    have hi : i < (l.length : Int) := by omega
    obtain ⟨a0, a1, a2, a3, hrow⟩ := hl _ (getD_mem h0 hi)
    obtain ⟨q, hq1, hq2, hq3⟩ := rel_ok a0 a1 a2 a3 c2 c3 c4 c5 c6 c7
    unfold faA glA at hq1 hq2
    have hw : IntKind.i64.wrap (i + 1) = i + 1 := wrap64 (by omega) (by omega)
    have skip := ih (i + 1) best (by omega) (by omega) (by omega) (by omega)
    have take := ih (i + 1) i (by omega) (by omega) (by omega) (by omega)
    have hif : decide (i < 0) = false := decide_eq_false (by omega)
    unfold K9 K24 at skip take ⊢
    rw [hif] at take
    rw [Kf_eq, Kf_eq, f9_k488, f24_k464]
    have hb0' : b1 ≥ 0 := hb0
    simp only [hrow, List.getD_cons_zero, List.getD_cons_succ, takeI, if_true, hq1, hq2, obind, takeB, br_ite, decide_eq_true_eq, if_pos hi, inB_true h0 hi, hw, if_pos hb0', if_pos hb1]
    by_cases hA : a1 < IntKind.i64.wrap (c3 - b1)
    · simp only [if_pos hA]
      cases q <;> simpa using skip
    · simp only [if_neg hA]
      by_cases hB : a1 > IntKind.i64.wrap (IntKind.i64.wrap (c3 + c4) - 1)
      · simp only [if_pos hB]
        cases q <;> simpa using skip
      · simp only [if_neg hB]
        cases q with
        | false => simpa using skip
        | true =>
          simp only [Bool.not_true, Bool.false_eq_true, if_false]
          by_cases hC : best < 0
          · simp only [if_pos hC]; exact take
          · simp only [if_neg hC]
            have hbest' : 0 ≤ best ∧ best < (l.length : Int) := by omega
            obtain ⟨d0, d1, d2, d3, hrow2⟩ := hl _ (getD_mem hbest'.1 hbest'.2)
            simp only [inB_true hbest'.1 hbest'.2, if_true, hrow2, List.getD_cons_zero, List.getD_cons_succ, takeI, br_ite, decide_eq_true_eq]
            by_cases hD : a1 < d1
            · simp only [if_pos hD]; exact take
            · simp only [if_neg hD]; exact skip

theorem ex_none {l : List (List D)} (hl : FaOk l) (hlen : (l.length : Int) ≤ 9223372036854775807) {b1 c2 c3 c4 c5 c6 c7 : Int} (hv : Cf 20 [glA c2 c3 c4 c5 c6 c7] = some [.bool false]) : ∀ (m : Nat) (i : Int), 0 ≤ i → i ≤ l.length → ((l.length : Int) - i).toNat = m →
    K24 l b1 c2 c3 c4 c5 c6 c7 i (-1) = some (exA (-1)) := by
  intro m
  induction m with
  | zero =>
    intro i h0 h1 hm
    have hi : ¬ i < (l.length : Int) := by omega
    unfold K24
    rw [Kf_eq, f24_k464]
    simp only [br_ite, decide_eq_true_eq, if_neg hi]
    rfl
  | succ m ih =>
    intro i h0 h1 hm
    have hi : i < (l.length : Int) := by omega
    obtain ⟨a0, a1, a2, a3, hrow⟩ := hl _ (getD_mem h0 hi)
    obtain ⟨q, hq1, hq2, hq3⟩ := rel_ok a0 a1 a2 a3 c2 c3 c4 c5 c6 c7
    have hq : q = false := by
      cases q with
      | false => rfl
      | true => have := hq3 rfl; rw [hv] at this; simp at this
    subst hq
    unfold faA glA at hq2
    have hw : IntKind.i64.wrap (i + 1) = i + 1 := wrap64 (by omega) (by omega)
    have skip := ih (i + 1) (by omega) (by omega) (by omega)
    unfold K24 at skip ⊢
    rw [Kf_eq, f24_k464, decide_eq_true hi]
    by_cases h2 : b1 ≥ 0
    · rw [decide_eq_true h2]
      by_cases h3 : b1 ≤ 1099511627776
      · rw [decide_eq_true h3, inB_true h0 hi, hrow]
        simp only [List.getD_cons_zero, List.getD_cons_succ]
        rw [hq2, hw]
        exact skip
      · rw [decide_eq_false h3]; rfl
    · rw [decide_eq_false h2]; rfl

theorem explain_ok {l : List (List D)} (hl : FaOk l) (hlen : (l.length : Int) ≤ 9223372036854775807) (b1 c2 c3 c4 c5 c6 c7 : Int) : IsEx l.length (Cf 9 [.v [.list 4 l], .v [.int .i64 b1], glA c2 c3 c4 c5 c6 c7]) (Cf 24 [.v [.list 4 l], .v [.int .i64 b1], glA c2 c3 c4 c5 c6 c7]) := by
  obtain ⟨v, hv, hk⟩ := valid_ok c2 c3 c4 c5 c6 c7
  have e24 : Cf 24 [.v [.list 4 l], .v [.int .i64 b1], glA c2 c3 c4 c5 c6 c7] = K24 l b1 c2 c3 c4 c5 c6 c7 0 (-1) := by
    rw [Cf_eq]; unfold glA; rw [f24_eq]; rfl
  rw [e24, Cf_eq]
  unfold glA
  rw [f9_eq]
  have hv' := hv
  unfold glA at hv'
  rw [hv']
  simp only [obind, List.getD_cons_zero, takeB, br_ite, decide_eq_true_eq]
  cases v with
  | false => exact ⟨-1, .inl rfl, rfl, ex_none hl hlen hv _ 0 (by omega) (by omega) rfl⟩
  | true =>
    simp only [Bool.not_true, Bool.false_eq_true, if_false]
    have out : ¬ (0 ≤ b1 ∧ b1 ≤ 1099511627776) → K24 l b1 c2 c3 c4 c5 c6 c7 0 (-1) = some (exA (-1)) := fun hh => by
      unfold K24
      rw [Kf_eq, f24_k464]
      by_cases h1 : (0 : Int) < (l.length : Int)
      · rw [decide_eq_true h1]
        by_cases h2 : b1 ≥ 0
        · rw [decide_eq_true h2]
          by_cases h3 : b1 ≤ 1099511627776
          · exact absurd ⟨h2, h3⟩ hh
          · rw [decide_eq_false h3]; rfl
        · rw [decide_eq_false h2]; rfl
      · rw [decide_eq_false h1]; rfl
    by_cases h1 : b1 < 0
    · rw [if_pos h1]; exact ⟨-1, .inl rfl, rfl, out (by omega)⟩
    · rw [if_neg h1]
      by_cases h2 : b1 > 1099511627776
      · rw [if_pos h2]; exact ⟨-1, .inl rfl, rfl, out (by omega)⟩
      · rw [if_neg h2]
        exact ex_loop hl hlen (by omega) (by omega) _ 0 (-1) (by omega) (by omega) rfl (.inl rfl)
end Go.Vm
