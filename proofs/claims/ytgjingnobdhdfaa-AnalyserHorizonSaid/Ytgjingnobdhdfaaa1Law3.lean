/- The plain law: all explanations, and what is told of them. -/
import Derived.Test.Ytgjingnobdhdfaaa1Law2
set_option linter.unusedVariables false
set_option linter.unusedSimpArgs false
namespace Go.Vm
open Go.Proofs

def GlOk (l : List (List D)) : Prop := ∀ row ∈ l, ∃ c2 c3 c4 c5 c6 c7, row = [.int .i64 c2, .int .i64 c3, .int .i64 c4, .int .i64 c5, .int .u64 c6, .int .i64 c7]
noncomputable def K13 (l : List (List D)) (b1 : Int) (l2 : List (List D)) (i : Int) (r : List (List D)) : Option (List D) :=
  Kf 13 232 { tm := [V.one (C.d (D.list 4 l)), V.one (C.d (D.int IntKind.i64 b1)), V.one (C.own 7168 0), V.one (C.d (D.list 6 l2)), V.one (C.d (D.int IntKind.i64 (l2.length : Int))), V.one (C.d (D.int IntKind.i64 i))], bx := [], tk := [{ e := 0, fz := false, et := 33, esz := 2, rows := r }] }
noncomputable def K14 (l : List (List D)) (b1 : Int) (l2 : List (List D)) (i : Int) (r : List (List D)) : Option (List D) :=
  Kf 14 464 { tm := [V.one (C.d (D.list 4 l)), V.one (C.d (D.int IntKind.i64 b1)), V.one (C.d (D.list 6 l2)), V.one (C.own 7168 0), V.one (C.d (D.int IntKind.i64 i))], bx := [], tk := [{ e := 0, fz := false, et := 33, esz := 2, rows := r }] }
/-- Rows that explain, one by one. -/
def ExOk (l : List (List D)) (b1 : Int) (l2 r : List (List D)) : Prop := ∀ (j : Nat) row, r[j]? = some row → ∃ q, row = exA q ∧ (q = -1 ∨ 0 ≤ q ∧ q < l.length) ∧ Cf 9 [.v [.list 4 l], .v [.int .i64 b1], .v (l2.getD j [])] = some (exA q)
def IsAll (l : List (List D)) (b1 : Int) (l2 : List (List D)) (e e' : Option (List D)) : Prop := ∃ r, r.length = l2.length ∧ ExOk l b1 l2 r ∧ e = some [.list 2 r] ∧ e' = some [.list 2 r]

theorem all_loop {l l2 : List (List D)} (hl : FaOk l) (hlen : (l.length : Int) ≤ 9223372036854775807) (hl2 : GlOk l2) (hlen2 : l2.length ≤ 1000000) {b1 : Int} : ∀ (m : Nat) (i : Int) (r : List (List D)), i = r.length → i ≤ l2.length → l2.length - r.length = m → ExOk l b1 l2 r →
    IsAll l b1 l2 (K13 l b1 l2 i r) (K14 l b1 l2 i r) := by
  intro m
  induction m with
  | zero =>
    intro i r h0 h1 hm hr
    have hi : ¬ i < (l2.length : Int) := by omega
    unfold K13 K14
    rw [Kf_eq, Kf_eq, f13_k232, f14_k464, decide_eq_false hi]
    exact ⟨r, by omega, hr, rfl, rfl⟩
  | succ m ih =>
    intro i r h0 h1 hm hr
    have hi : i < (l2.length : Int) := by omega
    obtain ⟨c2, c3, c4, c5, c6, c7, hrow⟩ := hl2 _ (getD_mem (by omega) hi)
    obtain ⟨q, hq0, hq1, hq2⟩ := explain_ok hl hlen b1 c2 c3 c4 c5 c6 c7
    unfold glA at hq1 hq2
    have hw : IntKind.i64.wrap (i + 1) = i + 1 := wrap64 (by omega) (by omega)
    have hroom : decide ((r.length + 1) * 16 ≤ 140737488355328) = true := decide_eq_true (by omega)
    have next := ih (i + 1) (r ++ [exA q]) (by simp; omega) (by omega) (by simp; omega) fun j row hj => by
      by_cases hjl : j < r.length
      · rw [List.getElem?_append_left hjl] at hj; exact hr j row hj
      · have : j = r.length := by
          have := (List.getElem?_eq_some_iff.1 hj).1
          simp at this; omega
        subst this
        rw [List.getElem?_append_right (Nat.le_refl _), Nat.sub_self] at hj
        simp at hj
        subst hj
        refine ⟨q, rfl, hq0, ?_⟩
        rw [show r.length = i.toNat by omega, hrow]
        exact hq1
    unfold K13 K14 at next ⊢
    rw [Kf_eq, Kf_eq, f13_k232, f14_k464, decide_eq_true hi, inB_true (by omega) hi, hrow]
    simp only [List.getD_cons_zero, List.getD_cons_succ]
    rw [hq1, hq2, hroom, hw]
    exact next

theorem all_ok {l l2 : List (List D)} (hl : FaOk l) (hlen : (l.length : Int) ≤ 9223372036854775807) (hl2 : GlOk l2) (hlen2 : l2.length ≤ 1000000) (b1 : Int) : IsAll l b1 l2 (Cf 13 [.v [.list 4 l], .v [.int .i64 b1], .v [.list 6 l2]]) (Cf 14 [.v [.list 4 l], .v [.int .i64 b1], .v [.list 6 l2]]) := by
  rw [Cf_eq, Cf_eq, f13_eq, f14_eq]
  exact all_loop hl hlen hl2 hlen2 _ 0 [] rfl (by omega) rfl fun j row h => by simp at h
end Go.Vm
