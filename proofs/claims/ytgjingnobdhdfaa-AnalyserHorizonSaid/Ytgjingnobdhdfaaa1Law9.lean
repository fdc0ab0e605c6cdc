/- The plain law: AnalyserHorizon. -/
import Derived.Test.Ytgjingnobdhdfaaa1Law8
set_option linter.unusedVariables false
set_option linter.unusedSimpArgs false
namespace Go.Vm
open Go.Proofs

theorem fact_okB {l : List (List D)} (hl : InOk l) (hlen : (l.length : Int) ≤ 9223372036854775807) {p : Int} (hp : 0 ≤ p) (hp' : p ≤ 9223372036854775807) :
    ∃ a0 a1 a2 a3 p', Cf 11 [Deck l p] = some [.int .i64 a0, .int .i64 a1, .int .i64 a2, .int .u64 a3, .list 1 l, .int .i64 p'] ∧ 0 ≤ a1 ∧ a1 < 14 := by
  obtain ⟨a0, p1, q1, q2, q3, _, _⟩ := range_ok hl hlen (lo := 1) (hi := 8) hp hp' (by omega) (by omega) (by omega)
  obtain ⟨a1, p2, r1, r2, r3, r4, r5⟩ := next_ok hl hlen (n := 14) q2 q3 (by omega) (by omega)
  obtain ⟨a2, p3, s1, s2, s3, _, _⟩ := next_ok hl hlen (n := 4) r2 r3 (by omega) (by omega)
  obtain ⟨a3, p4, t1, t2, t3, _, _⟩ := next_ok hl hlen (n := 4) s2 s3 (by omega) (by omega)
  rw [Cf_eq]
  unfold Deck at *
  rw [f11_eq, q1]
  simp only [obind, List.getD_cons_zero, List.getD_cons_succ, r1, s1, t1, takeI, if_true]
  exact ⟨_, _, _, _, _, rfl, r4, r5⟩

theorem glitch_okB {l : List (List D)} (hl : InOk l) (hlen : (l.length : Int) ≤ 9223372036854775807) {p : Int} (hp : 0 ≤ p) (hp' : p ≤ 9223372036854775807) :
    ∃ c2 c3 c4 c5 c6 c7 p', Cf 8 [Deck l p] = some [.int .i64 c2, .int .i64 c3, .int .i64 c4, .int .i64 c5, .int .u64 c6, .int .i64 c7, .list 1 l, .int .i64 p'] ∧ 0 ≤ c3 ∧ c3 < 12 ∧ 1 ≤ c4 ∧ c4 ≤ 3 := by
  obtain ⟨a0, p1, q1, q2, q3, _, _⟩ := range_ok hl hlen (lo := 1) (hi := 4) hp hp' (by omega) (by omega) (by omega)
  obtain ⟨a1, p2, r1, r2, r3, b1, b2⟩ := next_ok hl hlen (n := 12) q2 q3 (by omega) (by omega)
  obtain ⟨a2, p3, s1, s2, s3, b3, b4⟩ := range_ok hl hlen (lo := 1) (hi := 3) r2 r3 (by omega) (by omega) (by omega)
  obtain ⟨a3, p4, t1, t2, t3, _, _⟩ := range_ok hl hlen (lo := 1) (hi := 50) s2 s3 (by omega) (by omega) (by omega)
  obtain ⟨a4, p5, u1, u2, u3, _, _⟩ := range_ok hl hlen (lo := 1) (hi := 3) t2 t3 (by omega) (by omega) (by omega)
  rw [Cf_eq]
  unfold Deck at *
  rw [f8_eq, q1]
  simp only [obind, List.getD_cons_zero, List.getD_cons_succ, r1, s1, t1, u1, takeI, if_true, br_ite, decide_eq_true_eq]
  split
  · exact ⟨_, _, _, _, _, _, _, rfl, b1, b2, b3, b4⟩
  · exact ⟨_, _, _, _, _, _, _, rfl, b1, b2, b3, b4⟩

/-- What explains, with the facts and with one more behind the glitch. -/
def Expl (l : List (List D)) (x : List D) (b1 c2 c3 c4 c5 c6 c7 : Int) (r : Int) : Prop :=
  Cf 9 [.v [.list 4 l], .v [.int .i64 b1], glA c2 c3 c4 c5 c6 c7] = some (exA r) ∧ Cf 9 [.v [.list 4 (l ++ [x])], .v [.int .i64 b1], glA c2 c3 c4 c5 c6 c7] = some (exA r) ∧
  (r = -1 ∨ 0 ≤ r ∧ r < l.length ∧ OkW b1 c2 c3 c4 c5 c6 c7 (l.getD r.toNat [])) ∧
  (∀ j : Int, 0 ≤ j → j < l.length → OkW b1 c2 c3 c4 c5 c6 c7 (l.getD j.toNat []) → 0 ≤ r ∧ atOf (l.getD r.toNat []) ≤ atOf (l.getD j.toNat []))
theorem f9_K9 {l : List (List D)} {b1 c2 c3 c4 c5 c6 c7 : Int} (hb0 : 0 ≤ b1) (hb1 : b1 ≤ 1000) {v : Bool} (hv : Cf 20 [glA c2 c3 c4 c5 c6 c7] = some [.bool v]) :
    Cf 9 [.v [.list 4 l], .v [.int .i64 b1], glA c2 c3 c4 c5 c6 c7] = if v = true then K9 l b1 c2 c3 c4 c5 c6 c7 0 (-1) else some (exA (-1)) := by
  rw [Cf_eq]
  unfold glA at *
  rw [f9_eq, hv, decide_eq_false (show ¬ b1 < 0 by omega), decide_eq_false (show ¬ b1 > 1099511627776 by omega)]
  cases v <;> rfl
theorem expl_ok {l : List (List D)} (hl : FaOk l) (hlen : l.length ≤ 10000) {b1 c2 c3 c4 c5 c6 c7 : Int} (hb0 : 0 ≤ b1) (hb1 : b1 ≤ 1000) (hc0 : 0 ≤ c3) (hc1 : c3 ≤ 1000) (hd0 : 0 ≤ c4) (hd1 : c4 ≤ 1000) {x : List D} (hx : ∃ x0 x1 x2 x3, x = rowF x0 x1 x2 x3 ∧ c3 + c4 ≤ x1) :
    ∃ r, Expl l x b1 c2 c3 c4 c5 c6 c7 r := by
  obtain ⟨v, hv, _⟩ := valid_ok c2 c3 c4 c5 c6 c7
  unfold Expl
  rw [f9_K9 hb0 hb1 hv, f9_K9 hb0 hb1 hv]
  cases v with
  | true =>
    obtain ⟨r, e1, e2, e3, e4, e5⟩ := ex_spec hl hlen hb0 hb1 hc0 hc1 hd0 hd1 (c2 := c2) (c5 := c5) (c6 := c6) (c7 := c7) hx _ 0 (-1) (by omega) (by omega) rfl (.inl rfl)
    exact ⟨r, e1, e2, e3, e4⟩
  | false =>
    refine ⟨-1, rfl, rfl, .inl rfl, fun j h0 h1 ⟨a0, a1, a2, a3, _, _, _, hr⟩ => ?_⟩
    obtain ⟨q, hq1, _, hq3⟩ := rel_ok a0 a1 a2 a3 c2 c3 c4 c5 c6 c7
    rw [hr] at hq1
    have : q = true := by simpa using hq1.symm
    have := hq3 this
    rw [hv] at this
    simp at this

theorem horizon_ok {a0 : List (List D)} {b1 c2 d3 : Int} (h0 : InOk a0) (h0l : (a0.length : Int) ≤ 9223372036854775807) (hb0 : 0 ≤ b1) (hb1 : b1 ≤ 255) (hc0 : 0 ≤ c2) (hc1 : c2 ≤ 255) : Cf 3 [.v [.list 1 a0], .v [.int .u8 b1], .v [.int .u8 c2], .v [.int .i64 d3]] = some [.bool true] := by
  have hs := sane_ok
  have h6 : Cf 6 [.v [.list 1 a0]] = some [.list 1 a0, .int .i64 0] := by rw [Cf_eq, f6_eq]
  obtain ⟨l, p1, q1, q2, q3, q4, q5⟩ := facts_ok h0 h0l (p := 0) (by omega) (by omega)
  obtain ⟨g2, g3, g4, g5, g6, g7, p2, s1, s2, s3, s4, s5⟩ := glitch_okB h0 h0l q4 q5
  have h6' : Cf 6 [.v [.list 1 [[.int .i64 d3], [.int .i64 (IntKind.i64.wrap (d3.tdiv 8))], [.int .i64 (IntKind.i64.wrap (d3.tdiv 64))]]]] = some [.list 1 [[.int .i64 d3], [.int .i64 (IntKind.i64.wrap (d3.tdiv 8))], [.int .i64 (IntKind.i64.wrap (d3.tdiv 64))]], .int .i64 0] := by rw [Cf_eq, f6_eq]
  obtain ⟨x0, x1, x2, x3, p3, t1, t2, t3⟩ := fact_okB (l := [[.int .i64 d3], [.int .i64 (IntKind.i64.wrap (d3.tdiv 8))], [.int .i64 (IntKind.i64.wrap (d3.tdiv 64))]]) (p := 0) (fun row hrow => by
    simp only [List.mem_cons, List.not_mem_nil, or_false] at hrow
    rcases hrow with rfl | rfl | rfl <;> exact ⟨_, rfl⟩) (by simp) (by omega) (by omega)
  have m1 : 0 ≤ b1.tmod 12 ∧ b1.tmod 12 < 12 := ⟨by have := Int.tmod_nonneg 12 hb0; omega, Int.tmod_lt_of_pos _ (by omega)⟩
  have w1 : IntKind.i64.wrap (b1.tmod 12) = b1.tmod 12 := wrap64 (by omega) (by omega)
  have w2 : IntKind.i64.wrap c2 = c2 := wrap64 (by omega) (by omega)
  have w3 : IntKind.i64.wrap (b1.tmod 12 + c2) = b1.tmod 12 + c2 := wrap64 (by omega) (by omega)
  have w4 : IntKind.i64.wrap (g3 + g4) = g3 + g4 := wrap64 (by omega) (by omega)
  have w5 : IntKind.i64.wrap (g3 + g4 + x1) = g3 + g4 + x1 := wrap64 (by omega) (by omega)
  have w6 : IntKind.i64.wrap (g3 - b1.tmod 12) = g3 - b1.tmod 12 := wrap64 (by omega) (by omega)
  obtain ⟨ra, A1, A2, A3, A4⟩ := expl_ok q1 (by omega) (b1 := b1.tmod 12) (c2 := g2) (c3 := g3) (c4 := g4) (c5 := g5) (c6 := g6) (c7 := g7) (by omega) (by omega) (by omega) (by omega) (by omega) (by omega) (x := rowF x0 (g3 + g4 + x1) x2 x3) ⟨_, _, _, _, rfl, by omega⟩
  obtain ⟨rb, B1, _, B3, B4⟩ := expl_ok q1 (by omega) (b1 := b1.tmod 12 + c2) (c2 := g2) (c3 := g3) (c4 := g4) (c5 := g5) (c6 := g6) (c7 := g7) (by omega) (by omega) (by omega) (by omega) (by omega) (by omega) (x := rowF x0 (g3 + g4 + x1) x2 x3) ⟨_, _, _, _, rfl, by omega⟩
  unfold Deck at q3 s1 t1
  unfold glA at A1 A2 B1
  unfold rowF at A2
  have r1 : decide ((0 + l.length) * 32 ≤ 140737488355328) = true := decide_eq_true (by omega)
  have r2 : decide ((([] ++ l).length + 1) * 32 ≤ 140737488355328) = true := decide_eq_true (by simp; omega)
  have hA : exA ra = [D.int IntKind.i64 ra, D.bool (decide (ra < 0))] := rfl
  have hB : exA rb = [D.int IntKind.i64 rb, D.bool (decide (rb < 0))] := rfl
  rw [hA] at A1 A2
  rw [hB] at B1
  rw [Cf_eq, f3_eq]
  simp only [hs, h6, h6', q3, s1, t1, obind, List.getD_cons_zero, List.getD_cons_succ, takeB, takeI, takeL, takeR, takeN, if_true, true_or, w1, w2, w3, w4, w5, w6, A1, B1, r1, r2, List.nil_append, A2, br_ite]
  rcases A3 with rfl | ⟨a1, a2, y0, y1, y2, y3, e, e1, e2, e3⟩
  · rcases B3 with rfl | ⟨c1, c2', z0, z1, z2, z3, f, f1, f2, f3⟩
    · simp [br, show ¬ ((l.length : Int) ≤ -1) by omega]
      omega
    · simp [br, show ¬ ((l.length : Int) ≤ -1) by omega, show ¬ ((l.length : Int) ≤ rb) by omega, show ¬ (rb < -1) by omega]
      omega
  · have hrow := e
    have key := B4 ra a1 a2 (by rw [hrow]; exact ⟨y0, y1, y2, y3, rfl, by omega, by omega, e3⟩)
    have b0 : 0 ≤ rb := key.1
    rcases B3 with rfl | ⟨c1, c2', z0, z1, z2, z3, f, f1, f2, f3⟩
    · omega
    · obtain ⟨q, hq1, hq2, _⟩ := rel_ok y0 y1 y2 y3 g2 g3 g4 g5 g6 g7
      rw [e3] at hq1
      rw [← hq1] at hq2
      unfold glA faA at hq2
      rw [hrow, f] at key
      rw [atOf_row, atOf_row] at key
      have k2 := key.2
      simp only [decide_eq_false (show ¬ ra < 0 by omega), decide_eq_false (show ¬ rb < 0 by omega), hrow, f, rowF, List.getD_cons_zero, List.getD_cons_succ, hq2, obind, takeB, takeI, if_true, inB_true a1 a2, inB_true c1 c2', decide_eq_true_eq]
      simp [show ¬ ra = -1 by omega, show ¬ ra < -1 by omega, show ¬ rb < -1 by omega, show ¬ ((l.length : Int) ≤ ra) by omega, show ¬ ((l.length : Int) ≤ rb) by omega, show ¬ (y1 < g3 - b1.tmod 12) by omega, show ¬ (g3 + g4 ≤ y1) by omega, show ¬ (y1 < z1) by omega, show ¬ ra < 0 by omega]
      omega
end Go.Vm
