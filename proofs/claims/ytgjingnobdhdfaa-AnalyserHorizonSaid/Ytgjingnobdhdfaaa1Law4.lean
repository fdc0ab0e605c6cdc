/- The plain law: the same list twice; how many lie inside; the cards. -/
import Derived.Test.Ytgjingnobdhdfaaa1Law3
set_option linter.unusedVariables false
set_option linter.unusedSimpArgs false
namespace Go.Vm
open Go.Proofs

def ExRows (r : List (List D)) : Prop := ∀ row ∈ r, ∃ q, row = exA q
theorem ExOk.rows {l l2 r : List (List D)} {b1 : Int} (h : ExOk l b1 l2 r) : ExRows r := fun row hr => by
  obtain ⟨j, hj⟩ := List.getElem?_of_mem hr
  obtain ⟨q, hq, _⟩ := h j row hj
  exact ⟨q, hq⟩

theorem same_loop {r : List (List D)} (hr : ExRows r) (hlen : (r.length : Int) ≤ 9223372036854775807) : ∀ (m : Nat) (i : Int), 0 ≤ i → i ≤ r.length → ((r.length : Int) - i).toNat = m →
    Kf 15 232 { tm := [V.one (C.d (D.list 2 r)), V.one (C.d (D.list 2 r)), V.one (C.d (D.int IntKind.i64 (r.length : Int))), V.one (C.d (D.int IntKind.i64 i))], bx := [], tk := [] } = some [.bool true] := by
  intro m
  induction m with
  | zero =>
    intro i h0 h1 hm
    have hi : ¬ i < (r.length : Int) := by omega
    rw [Kf_eq, f15_k232, decide_eq_false hi]
    rfl
  | succ m ih =>
    intro i h0 h1 hm
    have hi : i < (r.length : Int) := by omega
    obtain ⟨q, hrow⟩ := hr _ (getD_mem h0 hi)
    have hw : IntKind.i64.wrap (i + 1) = i + 1 := wrap64 (by omega) (by omega)
    have next := ih (i + 1) (by omega) (by omega) (by omega)
    rw [Kf_eq, f15_k232, decide_eq_true hi, inB_true h0 hi, hrow, hw]
    simp only [exA, List.getD_cons_zero, List.getD_cons_succ, takeI, takeB, if_true, br, beq_self_eq_true, Bool.and_true, Bool.not_true]
    exact next
theorem same_ok {r : List (List D)} (hr : ExRows r) (hlen : (r.length : Int) ≤ 9223372036854775807) : Cf 15 [.v [.list 2 r], .v [.list 2 r]] = some [.bool true] := by
  rw [Cf_eq, f15_eq]
  simp only [bne_self_eq_false, br]
  exact same_loop hr hlen _ 0 (by omega) (by omega) rfl

theorem inside_loop {r : List (List D)} (hr : ExRows r) (hlen : (r.length : Int) ≤ 9223372036854775807) : ∀ (m : Nat) (i n : Int), 0 ≤ i → i ≤ r.length → ((r.length : Int) - i).toNat = m →
    ∃ k, Kf 16 232 { tm := [V.one (C.d (D.int IntKind.i64 n)), V.one (C.d (D.list 2 r)), V.one (C.d (D.int IntKind.i64 (r.length : Int))), V.one (C.d (D.int IntKind.i64 i))], bx := [], tk := [] } = some [.int .i64 k] ∧
      Kf 17 464 { tm := [V.one (C.d (D.list 2 r)), V.one (C.d (D.int IntKind.i64 n)), V.one (C.d (D.int IntKind.i64 i))], bx := [], tk := [] } = some [.int .i64 k] := by
  intro m
  induction m with
  | zero =>
    intro i n h0 h1 hm
    have hi : ¬ i < (r.length : Int) := by omega
    rw [Kf_eq, Kf_eq, f16_k232, f17_k464, decide_eq_false hi]
    exact ⟨n, rfl, rfl⟩
  | succ m ih =>
    intro i n h0 h1 hm
    have hi : i < (r.length : Int) := by omega
    obtain ⟨q, hrow⟩ := hr _ (getD_mem h0 hi)
    have hw : IntKind.i64.wrap (i + 1) = i + 1 := wrap64 (by omega) (by omega)
    have n1 := ih (i + 1) (IntKind.i64.wrap (n + 1)) (by omega) (by omega) (by omega)
    have n2 := ih (i + 1) n (by omega) (by omega) (by omega)
    rw [Kf_eq, Kf_eq, f16_k232, f17_k464, decide_eq_true hi, inB_true h0 hi, hrow, hw]
    simp only [exA, List.getD_cons_zero, List.getD_cons_succ, takeB]
    cases decide (q < 0)
    · exact n2
    · exact n1
theorem inside_ok {r : List (List D)} (hr : ExRows r) (hlen : (r.length : Int) ≤ 9223372036854775807) : ∃ k, Cf 16 [.v [.list 2 r]] = some [.int .i64 k] ∧ Cf 17 [.v [.list 2 r]] = some [.int .i64 k] := by
  rw [Cf_eq, Cf_eq, f16_eq, f17_eq]
  exact inside_loop hr hlen _ 0 0 (by omega) (by omega) rfl

/-! ### The cards -/
def InOk (l : List (List D)) : Prop := ∀ row ∈ l, ∃ a, row = [.int .i64 a]
/-- What a drawing from the deck answers, and how the deck is left. -/
def Deck (l : List (List D)) (p : Int) : Arg := .r [.list 1 l, .int .i64 p]
theorem mod_ok {v n : Int} (hn : 0 < n) (hn' : n ≤ 1000000) : ∃ r, Cf 23 [.v [.int .i64 v], .v [.int .i64 n]] = some [.int .i64 r] ∧ 0 ≤ r ∧ r < n := by
  have h1 : ¬ n = 0 := by omega
  have h2 := Int.tmod_lt_of_pos v hn
  have h3 : -n < v.tmod n := by
    have := Int.lt_tmod_of_pos v hn
    exact this
  rw [Cf_eq, f23_eq]
  simp only [br_ite, decide_eq_true_eq, if_neg h1]
  split
  · rw [wrap64 (by omega) (by omega)]
    exact ⟨_, rfl, by omega, by omega⟩
  · exact ⟨_, rfl, by omega, by omega⟩
theorem next_ok {l : List (List D)} (hl : InOk l) (hlen : (l.length : Int) ≤ 9223372036854775807) {p n : Int} (hp : 0 ≤ p) (hp' : p ≤ 9223372036854775807) (hn : 0 < n) (hn' : n ≤ 1000000) : ∃ r p', Cf 12 [Deck l p, .v [.int .i64 n]] = some [.int .i64 r, .list 1 l, .int .i64 p'] ∧ 0 ≤ p' ∧ p' ≤ 9223372036854775807 ∧ 0 ≤ r ∧ r < n := by
  have h22 : Cf 22 [Deck l p] = some [.bool (decide (p < (l.length : Int))), .list 1 l, .int .i64 p] := by
    rw [Cf_eq]; unfold Deck; rw [f22_eq]
  rw [Cf_eq]
  unfold Deck at *
  rw [f12_eq, h22]
  simp only [obind, List.getD_cons_zero, List.getD_cons_succ, takeB, takeI, takeL, if_true, true_or, br_ite]
  by_cases h : p < (l.length : Int)
  · obtain ⟨a, ha⟩ := hl _ (getD_mem hp h)
    obtain ⟨r, hr, hr0, hr1⟩ := mod_ok (v := a) hn hn'
    have h1 : IntKind.i64.wrap (p + 1) = p + 1 := wrap64 (by omega) (by omega)
    have h2 : IntKind.i64.wrap (p + 1 - 1) = p := by rw [Int.add_sub_cancel]; exact wrap64 (by omega) (by omega)
    simp only [decide_eq_true h, Bool.not_true, Bool.false_eq_true, if_false, h1, h2, inB_true hp h, if_true, ha, List.getD_cons_zero, hr, obind]
    exact ⟨r, p + 1, rfl, by omega, by omega, hr0, hr1⟩
  · simp only [decide_eq_false h, Bool.not_false, if_true]
    exact ⟨0, p, rfl, hp, hp', by omega, hn⟩

theorem range_ok {l : List (List D)} (hl : InOk l) (hlen : (l.length : Int) ≤ 9223372036854775807) {p lo hi : Int} (hp : 0 ≤ p) (hp' : p ≤ 9223372036854775807) (h0 : 0 ≤ lo) (h1 : lo ≤ hi) (h2 : hi ≤ 1000) :
    ∃ r p', Cf 19 [Deck l p, .v [.int .i64 lo], .v [.int .i64 hi]] = some [.int .i64 r, .list 1 l, .int .i64 p'] ∧ 0 ≤ p' ∧ p' ≤ 9223372036854775807 ∧ lo ≤ r ∧ r ≤ hi := by
  have e1 : IntKind.i64.wrap (IntKind.i64.wrap (hi - lo) + 1) = hi - lo + 1 := by rw [wrap64 (i := hi - lo) (by omega) (by omega), wrap64 (by omega) (by omega)]
  obtain ⟨r, p', h3, h4, h5, h6, h7⟩ := next_ok hl hlen (n := hi - lo + 1) hp hp' (by omega) (by omega)
  rw [Cf_eq]
  unfold Deck at *
  rw [f19_eq, e1, h3]
  simp only [obind, List.getD_cons_zero, List.getD_cons_succ, takeI, if_true]
  rw [wrap64 (by omega) (by omega)]
  exact ⟨lo + r, p', rfl, h4, h5, by omega, by omega⟩

theorem fact_ok {l : List (List D)} (hl : InOk l) (hlen : (l.length : Int) ≤ 9223372036854775807) {p : Int} (hp : 0 ≤ p) (hp' : p ≤ 9223372036854775807) :
    ∃ a0 a1 a2 a3 p', Cf 11 [Deck l p] = some [.int .i64 a0, .int .i64 a1, .int .i64 a2, .int .u64 a3, .list 1 l, .int .i64 p'] ∧ 0 ≤ p' ∧ p' ≤ 9223372036854775807 := by
  obtain ⟨a0, p1, q1, q2, q3, _, _⟩ := range_ok hl hlen (lo := 1) (hi := 8) hp hp' (by omega) (by omega) (by omega)
  obtain ⟨a1, p2, r1, r2, r3, _, _⟩ := next_ok hl hlen (n := 14) q2 q3 (by omega) (by omega)
  obtain ⟨a2, p3, s1, s2, s3, _, _⟩ := next_ok hl hlen (n := 4) r2 r3 (by omega) (by omega)
  obtain ⟨a3, p4, t1, t2, t3, _, _⟩ := next_ok hl hlen (n := 4) s2 s3 (by omega) (by omega)
  rw [Cf_eq]
  unfold Deck at *
  rw [f11_eq, q1]
  simp only [obind, List.getD_cons_zero, List.getD_cons_succ, r1, s1, t1, takeI, if_true]
  exact ⟨_, _, _, _, _, rfl, t2, t3⟩

theorem glitch_ok {l : List (List D)} (hl : InOk l) (hlen : (l.length : Int) ≤ 9223372036854775807) {p : Int} (hp : 0 ≤ p) (hp' : p ≤ 9223372036854775807) :
    ∃ c2 c3 c4 c5 c6 c7 p', Cf 8 [Deck l p] = some [.int .i64 c2, .int .i64 c3, .int .i64 c4, .int .i64 c5, .int .u64 c6, .int .i64 c7, .list 1 l, .int .i64 p'] ∧ 0 ≤ p' ∧ p' ≤ 9223372036854775807 := by
  obtain ⟨a0, p1, q1, q2, q3, _, _⟩ := range_ok hl hlen (lo := 1) (hi := 4) hp hp' (by omega) (by omega) (by omega)
  obtain ⟨a1, p2, r1, r2, r3, _, _⟩ := next_ok hl hlen (n := 12) q2 q3 (by omega) (by omega)
  obtain ⟨a2, p3, s1, s2, s3, _, _⟩ := range_ok hl hlen (lo := 1) (hi := 3) r2 r3 (by omega) (by omega) (by omega)
  obtain ⟨a3, p4, t1, t2, t3, _, _⟩ := range_ok hl hlen (lo := 1) (hi := 50) s2 s3 (by omega) (by omega) (by omega)
  obtain ⟨a4, p5, u1, u2, u3, _, _⟩ := range_ok hl hlen (lo := 1) (hi := 3) t2 t3 (by omega) (by omega) (by omega)
  rw [Cf_eq]
  unfold Deck at *
  rw [f8_eq, q1]
  simp only [obind, List.getD_cons_zero, List.getD_cons_succ, r1, s1, t1, u1, takeI, if_true, br_ite, decide_eq_true_eq]
  split
  · exact ⟨_, _, _, _, _, _, _, rfl, u2, u3⟩
  · exact ⟨_, _, _, _, _, _, _, rfl, u2, u3⟩
end Go.Vm
