/- AnalyserHorizon: proved. -/
import Derived.Test.Ytgjingnobdhdfaaa1Law9
import Derived.Test.Ytgjingnobdhdfaaa1Row1
import Derived.WalkKit
import Derived.ProofKit
import Derived.OpenShut
import Derived.ChangeOld
import Derived.Below
set_option linter.unusedVariables false
namespace Go.Vm
open Go.Proofs
theorem u8_bounds {b : Int} (h : (Lit.int IntKind.u8 b).wf = true) : 0 ≤ b ∧ b ≤ 255 := by
  simp only [Lit.wf, Bool.and_eq_true, decide_eq_true_eq] at h
  exact h
theorem horizon_all (xs : List (List D)) (h : TyAll Try.prog Try.f3.params.toList xs) : callL Try.prog HH 3 (xs.map .v) = some [.bool true] := by
  have hp : Try.f3.params.toList = [22, 5, 5, 3] := by rw [Try.params3]
  rw [hp] at h
  rcases xs with _ | ⟨x0, _ | ⟨x1, _ | ⟨x2, _ | ⟨x3, _ | ⟨x4, xs⟩⟩⟩⟩⟩
  · exact h.elim
  · exact h.2.elim
  · exact h.2.2.elim
  · exact h.2.2.2.elim
  · obtain ⟨h0, h1, h2, h3, _⟩ := h
    obtain ⟨l0, rfl, q0, r0⟩ := ty_deck h0
    obtain ⟨b, rfl, b0⟩ := ty_int Try.underlying5 h1
    obtain ⟨c, rfl, c0⟩ := ty_int Try.underlying5 h2
    obtain ⟨d, rfl, _⟩ := ty_int Try.underlying3 h3
    have b1 := u8_bounds b0
    have c1 := u8_bounds c0
    exact horizon_ok r0 q0 b1.1 b1.2 c1.1 c1.2
  · exact h.2.2.2.2.elim
end Go.Vm
namespace Go.Proofs.Ytgjingnobdhdfaa
open Go.ChangeShapes Go.WideShapes Go.ChangeAt Go.RowKit Go.Vm

theorem vown : ownKnob Try.prog.godebug = none := by kernel_rfl
theorem vlaid : laidOutB Try.prog = true := by kernel_rfl
set_option maxRecDepth 100000 in
theorem horizon_lifted (os : Os) (started : os.Started) (H : Type) (enc : TypeId × Value → H) :
    ReturnsInHanded {} Try.checked os 3 .any (Rows.analyserHorizonSpec.pre6 enc Try.prog Try.f3 Rows.analyserHorizonRow.domain false) (Rows.analyserHorizonSpec.post enc Try.prog Try.f3 false true false false) := by
  refine returnsInHanded_of_change (C := Try.checked) vown started (by kernel_rfl) Try.func3
    (ChangeSpec.witness6 (enc := enc) (C := Try.checked) false ⟨#[], #[.slice none 0 0, .int .u8 0, .int .u8 0, .int .i64 0], []⟩ 8 (by kernel_rfl) (by kernel_rfl) (by kernel_rfl) (by kernel_rfl)) ?_
  intro W base args ds gs before hval0 hW hcnd _
  have hval : ∀ (j : Nat) t v, Try.f3.params[j]? = some t → args[j]? = some v → Value.okWide Try.prog W .any base t v := hval0
  have hW' := hW
  obtain ⟨p, q, hA0, hV, rfl, hfz, hnd⟩ := hW
  have hA : DataW.TrodAll enc Try.prog W 0 (fun _ => true) true Try.f3.params.toList args.toList ds p := hA0
  obtain ⟨rfl, rfl⟩ := trodVars_none hV
  refine (law_call (Hh := HH) noNum mixed Try.func3 (by kernel_rfl) (show Try.f3.resultTypes = #[4] by kernel_rfl) Try.underlying4 (by kernel_rfl) horizon_all hval hA).mono fun e W' ⟨he, bel⟩ => ?_
  subst he
  have hB := args_again vlaid bel hA (by kernel_rfl)
  have hB' := hB
  rw [Try.params3] at hB
  obtain ⟨v0, vs0, d0, ds0, p0, q0, hargs, rfl, rfl, h0, r0⟩ := trodAll_cons hB
  obtain ⟨v1, vs1, d1, ds1, p1, q1, rfl, rfl, rfl, h1, r1⟩ := trodAll_cons r0
  obtain ⟨v2, vs2, d2, ds2, p2, q2, rfl, rfl, rfl, h2, r2⟩ := trodAll_cons r1
  obtain ⟨v3, vs3, d3, ds3, p3, q3, rfl, rfl, rfl, h3, r3⟩ := trodAll_cons r2
  obtain ⟨rfl, rfl, rfl⟩ := trodAll_nil r3
  exact ⟨_, rfl, _, _, _, [], _, [], hW', trodAll_mk1 (shut_bool Try.underlying4 _), hB', rfl, bel.frame _, fun h => by cases h⟩

theorem horizon_holds : Rows.AnalyserHorizonSaid :=
  OpenClaim.holds_of_wide 3 Try.f3 rfl rfl rfl rfl rfl rfl rfl ⟨rfl, rfl, rfl, rfl, rfl⟩ rfl rfl rfl rfl rfl (by kernel_rfl) Try.func3 (by kernel_rfl)
    (of_decide_eq_true (by kernel_rfl)) (by unfold Func.isWrapper; first | (rw [if_pos (by decide +kernel)]; kernel_rfl) | (rw [if_neg (by decide +kernel)]; exact ⟨rfl, rfl⟩))
    (fun os started H enc _ => horizon_lifted os started H enc)
#print axioms horizon_holds
end Go.Proofs.Ytgjingnobdhdfaa
