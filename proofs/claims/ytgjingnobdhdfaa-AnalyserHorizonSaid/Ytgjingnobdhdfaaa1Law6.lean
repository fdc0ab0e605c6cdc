/- The plain law: what the law asks of itself first. -/
import Derived.Test.Ytgjingnobdhdfaaa1Law5
set_option linter.unusedVariables false
set_option linter.unusedSimpArgs false
namespace Go.Vm
open Go.Proofs

theorem f9n_eq (call : FuncId → List Arg → Option (List D)) (kont : Nat → Lv → Option (List D)) (b1 : Int) (c2 : Int) (c3 : Int) (c4 : Int) (c5 : Int) (c6 : Int) (c7 : Int) : body (X 9 call kont) [Arg.v [D.list 0 []], Arg.v [D.int IntKind.i64 b1], Arg.v [D.int IntKind.i64 c2, D.int IntKind.i64 c3, D.int IntKind.i64 c4, D.int IntKind.i64 c5, D.int IntKind.u64 c6, D.int IntKind.i64 c7]] = obind (call 20 [Arg.v [D.int IntKind.i64 c2, D.int IntKind.i64 c3, D.int IntKind.i64 c4, D.int IntKind.i64 c5, D.int IntKind.u64 c6, D.int IntKind.i64 c7]]) fun r1 => takeB (r1.getD 0 D.bad) fun b2 => br (!b2) (some [D.int IntKind.i64 (-1), D.bool true]) (br (decide (b1 < 0)) (some [D.int IntKind.i64 (-1), D.bool true]) (br (decide (b1 > 1099511627776)) (some [D.int IntKind.i64 (-1), D.bool true]) (kont 488 { tm := [V.one (C.d (D.list 0 [])), V.one (C.d (D.int IntKind.i64 b1)), V.one (C.ptr 5120 0 0), V.one (C.ptr 6144 0 0), V.one (C.ptr 7168 0 0), V.one (C.d (D.list 0 [])), V.one (C.d (D.int IntKind.i64 (↑0 : Int))), V.one (C.d (D.int IntKind.i64 0))], bx := [[C.d (D.int IntKind.i64 c2), C.d (D.int IntKind.i64 c3), C.d (D.int IntKind.i64 c4), C.d (D.int IntKind.i64 c5), C.d (D.int IntKind.u64 c6), C.d (D.int IntKind.i64 c7)], [C.d (D.int IntKind.i64 0), C.d (D.bool false)], [C.d (D.int IntKind.i64 (-1)), C.d (D.bool true)]], tk := [] }))) := by kernel_rfl
theorem f9n_end (n1 c2 c3 c4 c5 c6 c7 : Int) : Kf 9 488 { tm := [V.one (C.d (D.list 0 [])), V.one (C.d (D.int IntKind.i64 n1)), V.one (C.ptr 5120 0 0), V.one (C.ptr 6144 0 0), V.one (C.ptr 7168 0 0), V.one (C.d (D.list 0 [])), V.one (C.d (D.int IntKind.i64 0)), V.one (C.d (D.int IntKind.i64 0))], bx := [[C.d (D.int IntKind.i64 c2), C.d (D.int IntKind.i64 c3), C.d (D.int IntKind.i64 c4), C.d (D.int IntKind.i64 c5), C.d (D.int IntKind.u64 c6), C.d (D.int IntKind.i64 c7)], [C.d (D.int IntKind.i64 0), C.d (D.bool false)], [C.d (D.int IntKind.i64 (-1)), C.d (D.bool true)]], tk := [] } = some [.int .i64 (-1), .bool true] := by
  rw [Kf_eq]
  kernel_rfl
theorem valid_c : Cf 20 [glA 1 5 1 1 0 4] = some [.bool true] := by
  rw [Cf_eq]; unfold glA; rw [f20_eq]; rfl
theorem rel_c (a1 : Int) : Cf 18 [faA 1 a1 1 0, glA 1 5 1 1 0 4] = some [.bool true] := by
  have := valid_c
  rw [Cf_eq]; unfold faA glA at *; rw [f18_eq, this]; rfl

theorem k9_end {l : List (List D)} {b1 c2 c3 c4 c5 c6 c7 i best : Int} (h : ¬ i < (l.length : Int)) : K9 l b1 c2 c3 c4 c5 c6 c7 i best = some (exA best) := by
  unfold K9
  rw [Kf_eq, f9_k488, decide_eq_false h]
  rfl
theorem k9_low {l : List (List D)} {b1 c2 c3 c4 c5 c6 c7 i best a0 a1 a2 a3 : Int} (h0 : 0 ≤ i) (h : i < (l.length : Int)) (hw : i < 1000) (hrow : l.getD i.toNat [] = [.int .i64 a0, .int .i64 a1, .int .i64 a2, .int .u64 a3]) (hA : a1 < IntKind.i64.wrap (c3 - b1)) :
    K9 l b1 c2 c3 c4 c5 c6 c7 i best = K9 l b1 c2 c3 c4 c5 c6 c7 (i + 1) best := by
  have hw : IntKind.i64.wrap (i + 1) = i + 1 := wrap64 (by omega) (by omega)
  unfold K9
  rw [Kf_eq, f9_k488, decide_eq_true h, inB_true h0 h, hrow]
  simp only [br, List.getD_cons_zero, List.getD_cons_succ, takeI, if_true, decide_eq_true hA, hw]
theorem k9_in {l : List (List D)} {b1 c2 c3 c4 c5 c6 c7 i best a0 a1 a2 a3 : Int} (h0 : 0 ≤ i) (h : i < (l.length : Int)) (hw : i < 1000) (hrow : l.getD i.toNat [] = [.int .i64 a0, .int .i64 a1, .int .i64 a2, .int .u64 a3]) (hA : ¬ a1 < IntKind.i64.wrap (c3 - b1)) (hB : ¬ a1 > IntKind.i64.wrap (IntKind.i64.wrap (c3 + c4) - 1))
    (hr : Cf 18 [faA a0 a1 a2 a3, glA c2 c3 c4 c5 c6 c7] = some [.bool true]) (hbest : best < 0) :
    K9 l b1 c2 c3 c4 c5 c6 c7 i best = K9 l b1 c2 c3 c4 c5 c6 c7 (i + 1) i := by
  have hw : IntKind.i64.wrap (i + 1) = i + 1 := wrap64 (by omega) (by omega)
  unfold faA glA at hr
  unfold K9
  rw [Kf_eq, f9_k488, decide_eq_true h, inB_true h0 h, hrow]
  simp only [br, List.getD_cons_zero, List.getD_cons_succ, takeI, takeB, if_true, decide_eq_false hA, decide_eq_false hB, hw, hr, obind, Bool.not_true, decide_eq_true hbest, decide_eq_false (show ¬ i < 0 by omega)]
theorem k9_stay {l : List (List D)} {b1 c2 c3 c4 c5 c6 c7 i best a0 a1 a2 a3 d0 d1 d2 d3 : Int} (h0 : 0 ≤ i) (h : i < (l.length : Int)) (hw : i < 1000) (hrow : l.getD i.toNat [] = [.int .i64 a0, .int .i64 a1, .int .i64 a2, .int .u64 a3]) (hA : ¬ a1 < IntKind.i64.wrap (c3 - b1)) (hB : ¬ a1 > IntKind.i64.wrap (IntKind.i64.wrap (c3 + c4) - 1))
    (hr : Cf 18 [faA a0 a1 a2 a3, glA c2 c3 c4 c5 c6 c7] = some [.bool true]) (hbest : 0 ≤ best) (hbest' : best < (l.length : Int)) (hrow' : l.getD best.toNat [] = [.int .i64 d0, .int .i64 d1, .int .i64 d2, .int .u64 d3]) (hD : ¬ a1 < d1) :
    K9 l b1 c2 c3 c4 c5 c6 c7 i best = K9 l b1 c2 c3 c4 c5 c6 c7 (i + 1) best := by
  have hw : IntKind.i64.wrap (i + 1) = i + 1 := wrap64 (by omega) (by omega)
  unfold faA glA at hr
  unfold K9
  rw [Kf_eq, f9_k488, decide_eq_true h, inB_true h0 h, hrow]
  simp only [br, List.getD_cons_zero, List.getD_cons_succ, takeI, takeB, if_true, decide_eq_false hA, decide_eq_false hB, hw, hr, obind, Bool.not_true, decide_eq_false (show ¬ best < 0 by omega), inB_true hbest hbest', hrow', decide_eq_false hD]

def saneL : List (List D) := [[D.int IntKind.i64 1, D.int IntKind.i64 3, D.int IntKind.i64 1, D.int IntKind.u64 0], [D.int IntKind.i64 1, D.int IntKind.i64 5, D.int IntKind.i64 1, D.int IntKind.u64 0]]
theorem f9_c (b1 : Int) (h0 : 0 ≤ b1) (h1 : b1 ≤ 100) : Cf 9 [.v [.list 4 saneL], .v [.int .i64 b1], glA 1 5 1 1 0 4] = K9 saneL b1 1 5 1 1 0 4 0 (-1) := by
  have := valid_c
  rw [Cf_eq]
  unfold glA at *
  rw [f9_eq, this, decide_eq_false (show ¬ b1 < 0 by omega), decide_eq_false (show ¬ b1 > 1099511627776 by omega)]
  rfl
theorem sane_a : Cf 9 [.v [.list 4 saneL], .v [.int .i64 1], glA 1 5 1 1 0 4] = some (exA 1) := by
  rw [f9_c 1 (by omega) (by omega), k9_low (i := 0) (by omega) (by decide) (by omega) rfl (by decide), k9_in (i := 0 + 1) (by omega) (by decide) (by omega) rfl (by decide) (by decide) (rel_c 5) (by omega), k9_end (by decide)]
  rfl
theorem sane_b : Cf 9 [.v [.list 4 saneL], .v [.int .i64 2], glA 1 5 1 1 0 4] = some (exA 0) := by
  rw [f9_c 2 (by omega) (by omega), k9_in (i := 0) (by omega) (by decide) (by omega) rfl (by decide) (by decide) (rel_c 3) (by omega), k9_stay (i := 0 + 1) (by omega) (by decide) (by omega) rfl (by decide) (by decide) (rel_c 5) (by omega) (by decide) rfl (by decide), k9_end (by decide)]
theorem sane_c : Cf 9 [.v [.list 0 []], .v [.int .i64 2], glA 1 5 1 1 0 4] = some (exA (-1)) := by
  have := valid_c
  rw [Cf_eq]
  unfold glA at *
  rw [f9n_eq, this]
  exact f9n_end 2 1 5 1 1 0 4
theorem sane_ok : Cf 5 [] = some [.bool true] := by
  have ha := sane_a
  have hb := sane_b
  have hc := sane_c
  rw [Cf_eq]
  unfold glA saneL at *
  rw [f5_eq, ha, hb, hc]
  rfl
end Go.Vm
