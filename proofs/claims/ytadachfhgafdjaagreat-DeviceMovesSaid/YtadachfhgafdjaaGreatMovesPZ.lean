/- DeviceMoves: proved, for every input. -/
import Derived.Test.YtadachfhgafdjaaGreatMovesP11
import Derived.Test.YtadachfhgafdjaaGreatRows
import Derived.WalkKit
import Derived.ProofKit
import Derived.OpenShut
import Derived.ChangeOld
import Derived.Below
set_option linter.unusedVariables false
namespace Go.Vm
open Go.Proofs
set_option maxRecDepth 100000 in
theorem moves_all (xs : List (List D)) (h : TyAll Tryz.prog Tryz.f5.params.toList xs) : callL Tryz.prog HH 5 (xs.map .v) = some [.bool true] := by
  have hp : Tryz.f5.params.toList = [48, 54, 22, 3, 2, 2] := by rw [Tryz.params5]
  rw [hp] at h
  rcases xs with _ | ⟨x0, _ | ⟨x1, _ | ⟨x2, _ | ⟨x3, _ | ⟨x4, _ | ⟨x5, _ | ⟨x6, xs⟩⟩⟩⟩⟩⟩⟩
  · exact h.elim
  · exact h.2.elim
  · exact h.2.2.elim
  · exact h.2.2.2.elim
  · exact h.2.2.2.2.elim
  · exact h.2.2.2.2.2.elim
  · obtain ⟨h0, h1, h2, h3, h4, h5, _⟩ := h
    obtain ⟨v, l, m, ss, rest, rfl, hv⟩ := ty_device tys h0
    obtain ⟨c, tt, rfl⟩ := ty_block tys h1
    obtain ⟨bs, rfl, hb⟩ := ty_bytes h2
    obtain ⟨n, rfl, hn⟩ := ty_i3 tys h3
    obtain ⟨f, rfl, hf⟩ := ty_i2 tys h4
    obtain ⟨t, rfl, ht⟩ := ty_i2 tys h5
    exact moves_law hv c tt bs hb n f t
  · exact h.2.2.2.2.2.2.elim
end Go.Vm
namespace Go.Proofs.YtadachfhgafdjaaGreat
open Go.ChangeShapes Go.WideShapes Go.ChangeAt Go.RowKit Go.Vm
set_option maxRecDepth 100000 in
theorem moves_lifted (os : Os) (started : os.Started) (H : Type) (enc : TypeId × Value → H) :
    ReturnsInHanded {} Tryz.checked os 5 .any (Rows.deviceMovesSpec.pre6 enc Tryz.prog Tryz.f5 Rows.deviceMovesRow.domain false) (Rows.deviceMovesSpec.post enc Tryz.prog Tryz.f5 false true false false) := by
  refine returnsInHanded_of_change (C := Tryz.checked) vown started (by kernel_rfl) Tryz.func5
    (ChangeSpec.witness6 (enc := enc) (C := Tryz.checked) false ⟨#[], #[.agg #[.int .u64 0, .string (ByteArray.mk #[]), .int .i64 0, .int .i64 0, .int .i64 0, .int .i64 0, .int .i64 0, .slice none 0 0, .int .i64 0, .int .i64 0, .slice none 0 0, .int .i64 0, .int .i64 0, .int .i64 0, .slice none 0 0, .bool false, .int .i64 0, .int .i64 0, .int .i64 0, .int .i64 0, .int .i64 0, .int .i64 0, .int .i64 0, .int .i64 0, .int .i64 0, .int .i64 0, .int .i64 0, .int .i64 0, .slice none 0 0, .int .i64 0, .int .i64 0], .agg #[.int .i64 0, .slice none 0 0], .slice none 0 0, .int .i64 0, .int .i64 0, .int .i64 0], []⟩ 40 (by kernel_rfl) (by kernel_rfl) (by kernel_rfl) (by kernel_rfl)) ?_
  intro W base args ds gs before hval0 hW hcnd _
  have hval : ∀ (j : Nat) t v, Tryz.f5.params[j]? = some t → args[j]? = some v → Value.okWide Tryz.prog W .any base t v := hval0
  have hW' := hW
  obtain ⟨p, q, hA0, hV, rfl, hfz, hnd⟩ := hW
  have hA : DataW.TrodAll enc Tryz.prog W 0 (fun _ => true) true Tryz.f5.params.toList args.toList ds p := hA0
  obtain ⟨rfl, rfl⟩ := trodVars_none hV
  refine (law_call (Hh := HH) orcs_ok noNum mixed Tryz.func5 ⟨by kernel_rfl, by kernel_rfl, by kernel_rfl⟩ (by kernel_rfl) (show Tryz.f5.resultTypes = #[4] by kernel_rfl) Tryz.underlying4 (by kernel_rfl) moves_all hval hA).mono fun e W' ⟨he, bel⟩ => ?_
  subst he
  have hB := args_again vlaid bel hA (by kernel_rfl)
  have hB' := hB
  rw [Tryz.params5] at hB
  obtain ⟨v0, vs0, d0, ds0, p0, q0, hargs, rfl, rfl, h0, r0⟩ := trodAll_cons hB
  obtain ⟨v1, vs1, d1, ds1, p1, q1, rfl, rfl, rfl, h1, r1⟩ := trodAll_cons r0
  obtain ⟨v2, vs2, d2, ds2, p2, q2, rfl, rfl, rfl, h2, r2⟩ := trodAll_cons r1
  obtain ⟨v3, vs3, d3, ds3, p3, q3, rfl, rfl, rfl, h3, r3⟩ := trodAll_cons r2
  obtain ⟨v4, vs4, d4, ds4, p4, q4, rfl, rfl, rfl, h4, r4⟩ := trodAll_cons r3
  obtain ⟨v5, vs5, d5, ds5, p5, q5, rfl, rfl, rfl, h5, r5⟩ := trodAll_cons r4
  obtain ⟨rfl, rfl, rfl⟩ := trodAll_nil r5
  exact ⟨_, rfl, _, _, _, [], _, [], hW', trodAll_mk1 (shut_bool Tryz.underlying4 _), hB', rfl, bel.frame _, fun h => by cases h⟩
set_option maxRecDepth 100000 in
theorem moves_named : Tryz.pinned.checked.prog.funcNamed Rows.deviceMovesRow.func = some 5 := by kernel_rfl
set_option maxRecDepth 100000 in
theorem moves_inst : Tryz.f5.isInstance Tryz.pinned.checked.prog Rows.deviceMovesRow.origin Rows.deviceMovesRow.targs := of_decide_eq_true (by kernel_rfl)
set_option maxRecDepth 100000 in
theorem moves_wrap : Tryz.f5.isWrapper Tryz.pinned.checked.prog Rows.deviceMovesRow.wrapper Rows.deviceMovesRow.mainSum := by unfold Func.isWrapper; first | (rw [if_pos (by decide +kernel)]; kernel_rfl) | (rw [if_neg (by decide +kernel)]; exact ⟨rfl, rfl⟩)
set_option maxRecDepth 100000 in
theorem moves_holds : Rows.DeviceMovesSaid :=
  OpenClaim.holds_of_wide 5 Tryz.f5 rfl rfl rfl rfl rfl rfl rfl ⟨rfl, rfl, rfl, rfl, rfl⟩ rfl rfl rfl rfl rfl moves_named Tryz.func5 moves_closed moves_inst moves_wrap
    (fun os started H enc _ => moves_lifted os started H enc)
#print axioms moves_holds
end Go.Proofs.YtadachfhgafdjaaGreat
