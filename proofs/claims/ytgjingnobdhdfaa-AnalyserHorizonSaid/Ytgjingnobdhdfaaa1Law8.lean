/- The plain law: what explains, told without the reference. -/
import Derived.Test.Ytgjingnobdhdfaaa1Law6
set_option linter.unusedVariables false
set_option linter.unusedSimpArgs false
namespace Go.Vm
open Go.Proofs

def rowF (a0 a1 a2 a3 : Int) : List D := [.int .i64 a0, .int .i64 a1, .int .i64 a2, .int .u64 a3]
def atOf : List D → Int
  | [_, .int _ a, _, _] => a
  | _ => 0
section win
variable (b1 c2 c3 c4 c5 c6 c7 : Int)
/-- In time and relevant. -/
def OkW (row : List D) : Prop := ∃ a0 a1 a2 a3, row = rowF a0 a1 a2 a3 ∧ c3 - b1 ≤ a1 ∧ a1 ≤ c3 + c4 - 1 ∧ Cf 18 [faA a0 a1 a2 a3, glA c2 c3 c4 c5 c6 c7] = some [.bool true]
end win

theorem k9_step {l : List (List D)} {b1 c2 c3 c4 c5 c6 c7 i best a0 a1 a2 a3 : Int} {q : Bool} (h0 : 0 ≤ i) (h : i < (l.length : Int)) (hlen : l.length ≤ 100000) (hrow : l.getD i.toNat [] = rowF a0 a1 a2 a3)
    (hb0 : 0 ≤ b1) (hb1 : b1 ≤ 1000) (hc0 : 0 ≤ c3) (hc1 : c3 ≤ 1000) (hd0 : 0 ≤ c4) (hd1 : c4 ≤ 1000)
    (hr : Cf 18 [faA a0 a1 a2 a3, glA c2 c3 c4 c5 c6 c7] = some [.bool q]) (hbest : best = -1 ∨ 0 ≤ best ∧ best < (l.length : Int) ∧ ∃ d0 d1 d2 d3, l.getD best.toNat [] = rowF d0 d1 d2 d3) :
    K9 l b1 c2 c3 c4 c5 c6 c7 i best = K9 l b1 c2 c3 c4 c5 c6 c7 (i + 1) (if c3 - b1 ≤ a1 ∧ a1 ≤ c3 + c4 - 1 ∧ q = true then (if best < 0 then i else if a1 < atOf (l.getD best.toNat []) then i else best) else best) := by
  have hw : IntKind.i64.wrap (i + 1) = i + 1 := wrap64 (by omega) (by omega)
  have w1 : IntKind.i64.wrap (c3 - b1) = c3 - b1 := wrap64 (by omega) (by omega)
  have w2 : IntKind.i64.wrap (IntKind.i64.wrap (c3 + c4) - 1) = c3 + c4 - 1 := by rw [wrap64 (i := c3 + c4) (by omega) (by omega)]; exact wrap64 (by omega) (by omega)
  have hif : decide (i < 0) = false := decide_eq_false (by omega)
  unfold faA glA at hr
  unfold rowF at hrow hbest
  unfold K9
  rw [Kf_eq, f9_k488, decide_eq_true h, inB_true h0 h, hrow]
  simp only [br_ite, List.getD_cons_zero, List.getD_cons_succ, takeI, takeB, if_true, hw, w1, w2, hr, obind, decide_eq_true_eq]
  by_cases hA : a1 < c3 - b1
  · rw [if_pos hA, if_neg (by omega)]
  · rw [if_neg hA]
    by_cases hB : a1 > c3 + c4 - 1
    · rw [if_pos hB, if_neg (by omega)]
    · rw [if_neg hB]
      cases q with
      | false => simp
      | true =>
        rw [if_pos (show c3 - b1 ≤ a1 ∧ a1 ≤ c3 + c4 - 1 ∧ true = true from ⟨by omega, by omega, rfl⟩)]
        simp only [Bool.not_true, Bool.false_eq_true, if_false]
        rcases hbest with rfl | ⟨e0, e1, d0, d1, d2, d3, hd⟩
        · simp [hif]
        · have e2 : ¬ best < 0 := by omega
          simp only [if_neg e2, inB_true e0 e1, if_true, hd, List.getD_cons_zero, List.getD_cons_succ, takeI, atOf]
          by_cases hD : a1 < d1
          · simp only [if_pos hD, hif]
          · simp only [if_neg hD, decide_eq_false e2]

theorem atOf_row (a0 a1 a2 a3 : Int) : atOf (rowF a0 a1 a2 a3) = a1 := rfl

theorem ex_spec {l : List (List D)} (hl : FaOk l) (hlen : l.length ≤ 10000) {b1 c2 c3 c4 c5 c6 c7 : Int} (hb0 : 0 ≤ b1) (hb1 : b1 ≤ 1000) (hc0 : 0 ≤ c3) (hc1 : c3 ≤ 1000) (hd0 : 0 ≤ c4) (hd1 : c4 ≤ 1000) {x : List D} (hx : ∃ x0 x1 x2 x3, x = rowF x0 x1 x2 x3 ∧ c3 + c4 ≤ x1) :
    ∀ (m : Nat) (i best : Int), 0 ≤ i → i ≤ l.length → ((l.length : Int) - i).toNat = m → (best = -1 ∨ 0 ≤ best ∧ best < i ∧ OkW b1 c2 c3 c4 c5 c6 c7 (l.getD best.toNat [])) →
    ∃ r, K9 l b1 c2 c3 c4 c5 c6 c7 i best = some (exA r) ∧ K9 (l ++ [x]) b1 c2 c3 c4 c5 c6 c7 i best = some (exA r) ∧
      (r = -1 ∨ 0 ≤ r ∧ r < l.length ∧ OkW b1 c2 c3 c4 c5 c6 c7 (l.getD r.toNat [])) ∧
      (∀ j : Int, i ≤ j → j < l.length → OkW b1 c2 c3 c4 c5 c6 c7 (l.getD j.toNat []) → 0 ≤ r ∧ atOf (l.getD r.toNat []) ≤ atOf (l.getD j.toNat [])) ∧
      (0 ≤ best → 0 ≤ r ∧ atOf (l.getD r.toNat []) ≤ atOf (l.getD best.toNat [])) := by
  intro m
  induction m with
  | zero =>
    intro i best h0 h1 hm hbest
    have hi : i = (l.length : Int) := by omega
    refine ⟨best, k9_end (by omega), ?_, ?_, fun j h2 h3 => by omega, fun h => ⟨h, Int.le_refl _⟩⟩
    · obtain ⟨x0, x1, x2, x3, rfl, hx1⟩ := hx
      obtain ⟨q, hq1, _, _⟩ := rel_ok x0 x1 x2 x3 c2 c3 c4 c5 c6 c7
      have hrow : (l ++ [rowF x0 x1 x2 x3]).getD i.toNat [] = rowF x0 x1 x2 x3 := by
        rw [hi]; simp
      rw [k9_step h0 (by simp; omega) (by simp; omega) hrow hb0 hb1 hc0 hc1 hd0 hd1 hq1 ?_, if_neg (by omega), k9_end (by simp; omega)]
      rcases hbest with h | ⟨h, h', a0, a1, a2, a3, e, _⟩
      · exact .inl h
      · refine .inr ⟨h, by simp; omega, a0, a1, a2, a3, ?_⟩
        rw [← e, List.getD_eq_getElem?_getD, List.getD_eq_getElem?_getD, List.getElem?_append_left (by omega)]
    · rcases hbest with h | ⟨h, h', h''⟩
      · exact .inl h
      · exact .inr ⟨h, by omega, h''⟩
  | succ m ih =>
    intro i best h0 h1 hm hbest
    have hi : i < (l.length : Int) := by omega
    obtain ⟨a0, a1, a2, a3, hrow⟩ := hl _ (getD_mem h0 hi)
    obtain ⟨q, hq1, _, _⟩ := rel_ok a0 a1 a2 a3 c2 c3 c4 c5 c6 c7
    have hrow' : (l ++ [x]).getD i.toNat [] = rowF a0 a1 a2 a3 := by
      rw [List.getD_eq_getElem?_getD, List.getElem?_append_left (by omega), ← List.getD_eq_getElem?_getD]
      exact hrow
    have hb : best = -1 ∨ 0 ≤ best ∧ best < (l.length : Int) ∧ ∃ d0 d1 d2 d3, l.getD best.toNat [] = rowF d0 d1 d2 d3 := by
      rcases hbest with h | ⟨h, h', a0, a1, a2, a3, e, _⟩
      · exact .inl h
      · exact .inr ⟨h, by omega, a0, a1, a2, a3, e⟩
    have hbx : 0 ≤ best → (l ++ [x]).getD best.toNat [] = l.getD best.toNat [] := fun hh => by
      rcases hbest with h | ⟨h, h', _⟩
      · omega
      · rw [List.getD_eq_getElem?_getD, List.getD_eq_getElem?_getD, List.getElem?_append_left (by omega)]
    have hb' : best = -1 ∨ 0 ≤ best ∧ best < ((l ++ [x]).length : Int) ∧ ∃ d0 d1 d2 d3, (l ++ [x]).getD best.toNat [] = rowF d0 d1 d2 d3 := by
      rcases hb with h | ⟨h, h', hh⟩
      · exact .inl h
      · rw [hbx h]
        exact .inr ⟨h, by simp; omega, hh⟩
    rw [k9_step h0 hi (by omega) hrow hb0 hb1 hc0 hc1 hd0 hd1 hq1 hb, k9_step h0 (by simp; omega) (by simp; omega) hrow' hb0 hb1 hc0 hc1 hd0 hd1 hq1 hb']
    have hsame : (if best < 0 then i else if a1 < atOf ((l ++ [x]).getD best.toNat []) then i else best) = (if best < 0 then i else if a1 < atOf (l.getD best.toNat []) then i else best) := by
      by_cases h : best < 0
      · rw [if_pos h, if_pos h]
      · rw [if_neg h, if_neg h, hbx (by omega)]
    rw [hsame]
    have hat : atOf (l.getD i.toNat []) = a1 := by rw [hrow]; rfl
    by_cases hok : c3 - b1 ≤ a1 ∧ a1 ≤ c3 + c4 - 1 ∧ q = true
    · have hokr : OkW b1 c2 c3 c4 c5 c6 c7 (l.getD i.toNat []) := ⟨a0, a1, a2, a3, hrow, hok.1, hok.2.1, by rw [hq1, hok.2.2]⟩
      rw [if_pos hok]
      by_cases hneg : best < 0
      · rw [if_pos hneg]
        obtain ⟨r, e1, e2, e3, e4, e5⟩ := ih (i + 1) i (by omega) (by omega) (by omega) (.inr ⟨h0, by omega, hokr⟩)
        refine ⟨r, e1, e2, e3, fun j h2 h3 h4 => ?_, fun h => by omega⟩
        by_cases hj : j = i
        · subst hj; exact e5 h0
        · exact e4 j (by omega) h3 h4
      · rw [if_neg hneg]
        by_cases hlt : a1 < atOf (l.getD best.toNat [])
        · rw [if_pos hlt]
          obtain ⟨r, e1, e2, e3, e4, e5⟩ := ih (i + 1) i (by omega) (by omega) (by omega) (.inr ⟨h0, by omega, hokr⟩)
          have e6 := e5 h0
          rw [hat] at e6
          refine ⟨r, e1, e2, e3, fun j h2 h3 h4 => ?_, fun h => ⟨e6.1, by omega⟩⟩
          by_cases hj : j = i
          · subst hj; exact e5 h0
          · exact e4 j (by omega) h3 h4
        · rw [if_neg hlt]
          obtain ⟨r, e1, e2, e3, e4, e5⟩ := ih (i + 1) best (by omega) (by omega) (by omega) (by
            rcases hbest with h | ⟨h, h', hh⟩
            · exact .inl h
            · exact .inr ⟨h, by omega, hh⟩)
          have e6 := e5 (by omega)
          refine ⟨r, e1, e2, e3, fun j h2 h3 h4 => ?_, e5⟩
          by_cases hj : j = i
          · subst hj
            rw [hat]
            exact ⟨e6.1, by omega⟩
          · exact e4 j (by omega) h3 h4
    · rw [if_neg hok]
      obtain ⟨r, e1, e2, e3, e4, e5⟩ := ih (i + 1) best (by omega) (by omega) (by omega) (by
        rcases hbest with h | ⟨h, h', hh⟩
        · exact .inl h
        · exact .inr ⟨h, by omega, hh⟩)
      refine ⟨r, e1, e2, e3, fun j h2 h3 h4 => ?_, e5⟩
      by_cases hj : j = i
      · subst hj
        exfalso
        obtain ⟨b0, b1', b2, b3, e, g1, g2, g3⟩ := h4
        rw [hrow] at e
        simp only [rowF, List.cons.injEq, D.int.injEq, true_and, and_true] at e
        obtain ⟨rfl, rfl, rfl, rfl⟩ := e
        rw [hq1] at g3
        simp at g3
        exact hok ⟨g1, g2, g3⟩
      · exact e4 j (by omega) h3 h4
end Go.Vm
