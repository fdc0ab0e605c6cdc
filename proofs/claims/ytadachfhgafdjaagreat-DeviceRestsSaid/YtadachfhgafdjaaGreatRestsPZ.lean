/- DeviceRests: proved, for every input. -/
import Derived.Test.YtadachfhgafdjaaGreatRestsP8
import Derived.Test.YtadachfhgafdjaaGreatRows
import Derived.WalkKit
import Derived.ProofKit
import Derived.OpenShut
import Derived.ChangeOld
import Derived.Below
set_option linter.unusedVariables false
namespace Go.Vm
open Go.Proofs
set_option maxRecDepth 100000 in
theorem rests_all (xs : List (List D)) (h : TyAll Tryz.prog Tryz.f7.params.toList xs) : callL Tryz.prog HH 7 (xs.map .v) = some [.bool true] := by
  have hp : Tryz.f7.params.toList = [22, 5, 5, 5, 5] := by rw [Tryz.params7]
  rw [hp] at h
  rcases xs with _ | ⟨x0, _ | ⟨x1, _ | ⟨x2, _ | ⟨x3, _ | ⟨x4, _ | ⟨x5, xs⟩⟩⟩⟩⟩⟩
  · exact h.elim
  · exact h.2.elim
  · exact h.2.2.elim
  · exact h.2.2.2.elim
  · exact h.2.2.2.2.elim
  · obtain ⟨h0, h1, h2, h3, h4, _⟩ := h
    obtain ⟨bs, rfl, hb⟩ := ty_bytes h0
    obtain ⟨b, rfl, hq⟩ := ty_u8 h1
    obtain ⟨c, rfl, hc⟩ := ty_u8 h2
    obtain ⟨d, rfl, hd⟩ := ty_u8 h3
    obtain ⟨e, rfl, he⟩ := ty_u8 h4
    exact rests_law bs hb hq hc hd he
  · exact h.2.2.2.2.2.elim
end Go.Vm
namespace Go.Proofs.YtadachfhgafdjaaGreat
open Go.ChangeShapes Go.WideShapes Go.ChangeAt Go.RowKit Go.Vm
set_option maxRecDepth 100000 in
theorem rests_lifted (os : Os) (started : os.Started) (H : Type) (enc : TypeId × Value → H) :
    ReturnsInHanded {} Tryz.checked os 7 .any (Rows.deviceRestsSpec.pre6 enc Tryz.prog Tryz.f7 Rows.deviceRestsRow.domain false) (Rows.deviceRestsSpec.post enc Tryz.prog Tryz.f7 false true false false) := by
  refine returnsInHanded_of_change (C := Tryz.checked) vown started (by kernel_rfl) Tryz.func7
    (ChangeSpec.witness6 (enc := enc) (C := Tryz.checked) false ⟨#[], #[.slice none 0 0, .int .u8 0, .int .u8 0, .int .u8 0, .int .u8 0], []⟩ 8 (by kernel_rfl) (by kernel_rfl) (by kernel_rfl) (by kernel_rfl)) ?_
  intro W base args ds gs before hval0 hW hcnd _
  have hval : ∀ (j : Nat) t v, Tryz.f7.params[j]? = some t → args[j]? = some v → Value.okWide Tryz.prog W .any base t v := hval0
  have hW' := hW
  obtain ⟨p, q, hA0, hV, rfl, hfz, hnd⟩ := hW
  have hA : DataW.TrodAll enc Tryz.prog W 0 (fun _ => true) true Tryz.f7.params.toList args.toList ds p := hA0
  obtain ⟨rfl, rfl⟩ := trodVars_none hV
  refine (law_call (Hh := HH) orcs_ok noNum mixed Tryz.func7 ⟨by kernel_rfl, by kernel_rfl, by kernel_rfl⟩ (by kernel_rfl) (show Tryz.f7.resultTypes = #[4] by kernel_rfl) Tryz.underlying4 (by kernel_rfl) rests_all hval hA).mono fun e W' ⟨he, bel⟩ => ?_
  subst he
  have hB := args_again vlaid bel hA (by kernel_rfl)
  have hB' := hB
  rw [Tryz.params7] at hB
  obtain ⟨v0, vs0, d0, ds0, p0, q0, hargs, rfl, rfl, h0, r0⟩ := trodAll_cons hB
  obtain ⟨v1, vs1, d1, ds1, p1, q1, rfl, rfl, rfl, h1, r1⟩ := trodAll_cons r0
  obtain ⟨v2, vs2, d2, ds2, p2, q2, rfl, rfl, rfl, h2, r2⟩ := trodAll_cons r1
  obtain ⟨v3, vs3, d3, ds3, p3, q3, rfl, rfl, rfl, h3, r3⟩ := trodAll_cons r2
  obtain ⟨v4, vs4, d4, ds4, p4, q4, rfl, rfl, rfl, h4, r4⟩ := trodAll_cons r3
  obtain ⟨rfl, rfl, rfl⟩ := trodAll_nil r4
  exact ⟨_, rfl, _, _, _, [], _, [], hW', trodAll_mk1 (shut_bool Tryz.underlying4 _), hB', rfl, bel.frame _, fun h => by cases h⟩
set_option maxRecDepth 100000 in
theorem rests_named : Tryz.pinned.checked.prog.funcNamed Rows.deviceRestsRow.func = some 7 := by kernel_rfl
set_option maxRecDepth 100000 in
theorem rests_closed : joinedFacts Tryz.pinned.checked.prog 7 Tryz.f7 Rows.deviceRestsSpec Rows.deviceRestsRow = true := by kernel_rfl
set_option maxRecDepth 100000 in
theorem rests_inst : Tryz.f7.isInstance Tryz.pinned.checked.prog Rows.deviceRestsRow.origin Rows.deviceRestsRow.targs := of_decide_eq_true (by kernel_rfl)
set_option maxRecDepth 100000 in
theorem rests_wrap : Tryz.f7.isWrapper Tryz.pinned.checked.prog Rows.deviceRestsRow.wrapper Rows.deviceRestsRow.mainSum := by unfold Func.isWrapper; first | (rw [if_pos (by decide +kernel)]; kernel_rfl) | (rw [if_neg (by decide +kernel)]; exact ⟨rfl, rfl⟩)
set_option maxRecDepth 100000 in
theorem rests_holds : Rows.DeviceRestsSaid :=
  OpenClaim.holds_of_wide 7 Tryz.f7 rfl rfl rfl rfl rfl rfl rfl ⟨rfl, rfl, rfl, rfl, rfl⟩ rfl rfl rfl rfl rfl rests_named Tryz.func7 rests_closed rests_inst rests_wrap
    (fun os started H enc _ => rests_lifted os started H enc)
#print axioms rests_holds
end Go.Proofs.YtadachfhgafdjaaGreat
