/- DevicePlain: proved, for every input. -/
import Derived.Test.YtadachfhgafdjaaGreatPlainP8
import Derived.Test.YtadachfhgafdjaaGreatRows
import Derived.WalkKit
import Derived.ProofKit
import Derived.OpenShut
import Derived.ChangeOld
import Derived.Below
set_option linter.unusedVariables false
namespace Go.Vm
open Go.Proofs
set_option maxRecDepth 100000 in
theorem plain_all (xs : List (List D)) (h : TyAll Tryz.prog Tryz.f3.params.toList xs) : callL Tryz.prog HH 3 (xs.map .v) = some [.bool true] := by
  have hp : Tryz.f3.params.toList = [22, 5, 5] := by rw [Tryz.params3]
  rw [hp] at h
  rcases xs with _ | ⟨x0, _ | ⟨x1, _ | ⟨x2, _ | ⟨x3, xs⟩⟩⟩⟩
  · exact h.elim
  · exact h.2.elim
  · exact h.2.2.elim
  · obtain ⟨h0, h1, h2, _⟩ := h
    obtain ⟨bs, rfl, hb⟩ := ty_bytes h0
    obtain ⟨q, rfl, hq⟩ := ty_u8 h1
    obtain ⟨s, rfl, hs⟩ := ty_u8 h2
    exact plain_law bs hb hq hs
  · exact h.2.2.2.elim
end Go.Vm
namespace Go.Proofs.YtadachfhgafdjaaGreat
open Go.ChangeShapes Go.WideShapes Go.ChangeAt Go.RowKit Go.Vm
set_option maxRecDepth 100000 in
theorem plain_lifted (os : Os) (started : os.Started) (H : Type) (enc : TypeId × Value → H) :
    ReturnsInHanded {} Tryz.checked os 3 .any (Rows.devicePlainSpec.pre6 enc Tryz.prog Tryz.f3 Rows.devicePlainRow.domain false) (Rows.devicePlainSpec.post enc Tryz.prog Tryz.f3 false true false false) := by
  refine returnsInHanded_of_change (C := Tryz.checked) vown started (by kernel_rfl) Tryz.func3
    (ChangeSpec.witness6 (enc := enc) (C := Tryz.checked) false ⟨#[], #[.slice none 0 0, .int .u8 0, .int .u8 0], []⟩ 8 (by kernel_rfl) (by kernel_rfl) (by kernel_rfl) (by kernel_rfl)) ?_
  intro W base args ds gs before hval0 hW hcnd _
  have hval : ∀ (j : Nat) t v, Tryz.f3.params[j]? = some t → args[j]? = some v → Value.okWide Tryz.prog W .any base t v := hval0
  have hW' := hW
  obtain ⟨p, q, hA0, hV, rfl, hfz, hnd⟩ := hW
  have hA : DataW.TrodAll enc Tryz.prog W 0 (fun _ => true) true Tryz.f3.params.toList args.toList ds p := hA0
  obtain ⟨rfl, rfl⟩ := trodVars_none hV
  refine (law_call (Hh := HH) orcs_ok noNum mixed Tryz.func3 ⟨by kernel_rfl, by kernel_rfl, by kernel_rfl⟩ (by kernel_rfl) (show Tryz.f3.resultTypes = #[4] by kernel_rfl) Tryz.underlying4 (by kernel_rfl) plain_all hval hA).mono fun e W' ⟨he, bel⟩ => ?_
  subst he
  have hB := args_again vlaid bel hA (by kernel_rfl)
  have hB' := hB
  rw [Tryz.params3] at hB
  obtain ⟨v0, vs0, d0, ds0, p0, q0, hargs, rfl, rfl, h0, r0⟩ := trodAll_cons hB
  obtain ⟨v1, vs1, d1, ds1, p1, q1, rfl, rfl, rfl, h1, r1⟩ := trodAll_cons r0
  obtain ⟨v2, vs2, d2, ds2, p2, q2, rfl, rfl, rfl, h2, r2⟩ := trodAll_cons r1
  obtain ⟨rfl, rfl, rfl⟩ := trodAll_nil r2
  exact ⟨_, rfl, _, _, _, [], _, [], hW', trodAll_mk1 (shut_bool Tryz.underlying4 _), hB', rfl, bel.frame _, fun h => by cases h⟩
set_option maxRecDepth 100000 in
theorem plain_holds : Rows.DevicePlainSaid :=
  OpenClaim.holds_of_wide 3 Tryz.f3 rfl rfl rfl rfl rfl rfl rfl ⟨rfl, rfl, rfl, rfl, rfl⟩ rfl rfl rfl rfl rfl (by kernel_rfl) Tryz.func3 (by kernel_rfl)
    (of_decide_eq_true (by kernel_rfl)) (by unfold Func.isWrapper; first | (rw [if_pos (by decide +kernel)]; kernel_rfl) | (rw [if_neg (by decide +kernel)]; exact ⟨rfl, rfl⟩))
    (fun os started H enc _ => plain_lifted os started H enc)
#print axioms plain_holds
end Go.Proofs.YtadachfhgafdjaaGreat
