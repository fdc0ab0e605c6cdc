/- DeviceOpens: proved, for every input. -/
import Derived.Test.YtadachfhgafdjaaGreatOpensP9
import Derived.Test.YtadachfhgafdjaaGreatRows
import Derived.WalkKit
import Derived.ProofKit
import Derived.OpenShut
import Derived.ChangeOld
import Derived.Below
set_option linter.unusedVariables false
namespace Go.Vm
open Go.Proofs
set_option maxRecDepth 100000 in
theorem opens_all (xs : List (List D)) (h : TyAll Tryz.prog Tryz.f8.params.toList xs) : callL Tryz.prog HH 8 (xs.map .v) = some [.bool true] := by
  have hp : Tryz.f8.params.toList = [48, 27, 32, 35, 22, 3, 3, 2] := by rw [Tryz.params8]
  rw [hp] at h
  rcases xs with _ | ⟨x0, _ | ⟨x1, _ | ⟨x2, _ | ⟨x3, _ | ⟨x4, _ | ⟨x5, _ | ⟨x6, _ | ⟨x7, _ | ⟨x8, xs⟩⟩⟩⟩⟩⟩⟩⟩⟩
  · exact h.elim
  · exact h.2.elim
  · exact h.2.2.elim
  · exact h.2.2.2.elim
  · exact h.2.2.2.2.elim
  · exact h.2.2.2.2.2.elim
  · exact h.2.2.2.2.2.2.elim
  · exact h.2.2.2.2.2.2.2.elim
  · obtain ⟨h0, h1, h2, h3, h4, h5, h6, h7, _⟩ := h
    obtain ⟨v, l, m, ss, rest, rfl, hv⟩ := ty_device tys h0
    obtain ⟨de, l2, rfl, hb2, hn2⟩ := ty_desc tys h1
    obtain ⟨c, m2, rfl, hm2, hr2⟩ := ty_choice tys h2
    obtain ⟨s2, rfl⟩ := ty_clock tys h3
    obtain ⟨bs, rfl, hb⟩ := ty_bytes h4
    obtain ⟨f, rfl, hf⟩ := ty_i3 tys h5
    obtain ⟨g, rfl, hg⟩ := ty_i3 tys h6
    obtain ⟨t, rfl, ht⟩ := ty_i2 tys h7
    exact opens_law hv hb2 hn2 hm2 hr2 s2 bs hb hf g t
  · exact h.2.2.2.2.2.2.2.2.elim
end Go.Vm
namespace Go.Proofs.YtadachfhgafdjaaGreat
open Go.ChangeShapes Go.WideShapes Go.ChangeAt Go.RowKit Go.Vm
set_option maxRecDepth 100000 in
theorem opens_lifted (os : Os) (started : os.Started) (H : Type) (enc : TypeId × Value → H) :
    ReturnsInHanded {} Tryz.checked os 8 .any (Rows.deviceOpensSpec.pre6 enc Tryz.prog Tryz.f8 Rows.deviceOpensRow.domain false) (Rows.deviceOpensSpec.post enc Tryz.prog Tryz.f8 false true false false) := by
  refine returnsInHanded_of_change (C := Tryz.checked) vown started (by kernel_rfl) Tryz.func8
    (ChangeSpec.witness6 (enc := enc) (C := Tryz.checked) false ⟨#[], #[.agg #[.int .u64 0, .string (ByteArray.mk #[]), .int .i64 0, .int .i64 0, .int .i64 0, .int .i64 0, .int .i64 0, .slice none 0 0, .int .i64 0, .int .i64 0, .slice none 0 0, .int .i64 0, .int .i64 0, .int .i64 0, .slice none 0 0, .bool false, .int .i64 0, .int .i64 0, .int .i64 0, .int .i64 0, .int .i64 0, .int .i64 0, .int .i64 0, .int .i64 0, .int .i64 0, .int .i64 0, .int .i64 0, .int .i64 0, .slice none 0 0, .int .i64 0, .int .i64 0], .agg #[.int .u64 0, .string (ByteArray.mk #[]), .int .i64 0, .int .i64 0, .int .i64 0, .int .i64 0, .int .i64 0, .slice none 0 0], .agg #[.int .i64 0, .int .i64 0, .slice none 0 0, .int .i64 0], .agg #[.slice none 0 0], .slice none 0 0, .int .i64 0, .int .i64 0, .int .i64 0], []⟩ 40 (by kernel_rfl) (by kernel_rfl) (by kernel_rfl) (by kernel_rfl)) ?_
  intro W base args ds gs before hval0 hW hcnd _
  have hval : ∀ (j : Nat) t v, Tryz.f8.params[j]? = some t → args[j]? = some v → Value.okWide Tryz.prog W .any base t v := hval0
  have hW' := hW
  obtain ⟨p, q, hA0, hV, rfl, hfz, hnd⟩ := hW
  have hA : DataW.TrodAll enc Tryz.prog W 0 (fun _ => true) true Tryz.f8.params.toList args.toList ds p := hA0
  obtain ⟨rfl, rfl⟩ := trodVars_none hV
  refine (law_call (Hh := HH) orcs_ok noNum mixed Tryz.func8 ⟨by kernel_rfl, by kernel_rfl, by kernel_rfl⟩ (by kernel_rfl) (show Tryz.f8.resultTypes = #[4] by kernel_rfl) Tryz.underlying4 (by kernel_rfl) opens_all hval hA).mono fun e W' ⟨he, bel⟩ => ?_
  subst he
  have hB := args_again vlaid bel hA (by kernel_rfl)
  have hB' := hB
  rw [Tryz.params8] at hB
  obtain ⟨v0, vs0, d0, ds0, p0, q0, hargs, rfl, rfl, h0, r0⟩ := trodAll_cons hB
  obtain ⟨v1, vs1, d1, ds1, p1, q1, rfl, rfl, rfl, h1, r1⟩ := trodAll_cons r0
  obtain ⟨v2, vs2, d2, ds2, p2, q2, rfl, rfl, rfl, h2, r2⟩ := trodAll_cons r1
  obtain ⟨v3, vs3, d3, ds3, p3, q3, rfl, rfl, rfl, h3, r3⟩ := trodAll_cons r2
  obtain ⟨v4, vs4, d4, ds4, p4, q4, rfl, rfl, rfl, h4, r4⟩ := trodAll_cons r3
  obtain ⟨v5, vs5, d5, ds5, p5, q5, rfl, rfl, rfl, h5, r5⟩ := trodAll_cons r4
  obtain ⟨v6, vs6, d6, ds6, p6, q6, rfl, rfl, rfl, h6, r6⟩ := trodAll_cons r5
  obtain ⟨v7, vs7, d7, ds7, p7, q7, rfl, rfl, rfl, h7, r7⟩ := trodAll_cons r6
  obtain ⟨rfl, rfl, rfl⟩ := trodAll_nil r7
  exact ⟨_, rfl, _, _, _, [], _, [], hW', trodAll_mk1 (shut_bool Tryz.underlying4 _), hB', rfl, bel.frame _, fun h => by cases h⟩
set_option maxRecDepth 100000 in
theorem opens_named : Tryz.pinned.checked.prog.funcNamed Rows.deviceOpensRow.func = some 8 := by kernel_rfl
set_option maxRecDepth 100000 in
theorem opens_inst : Tryz.f8.isInstance Tryz.pinned.checked.prog Rows.deviceOpensRow.origin Rows.deviceOpensRow.targs := of_decide_eq_true (by kernel_rfl)
set_option maxRecDepth 100000 in
theorem opens_wrap : Tryz.f8.isWrapper Tryz.pinned.checked.prog Rows.deviceOpensRow.wrapper Rows.deviceOpensRow.mainSum := by unfold Func.isWrapper; first | (rw [if_pos (by decide +kernel)]; kernel_rfl) | (rw [if_neg (by decide +kernel)]; exact ⟨rfl, rfl⟩)
set_option maxRecDepth 100000 in
theorem opens_holds : Rows.DeviceOpensSaid :=
  OpenClaim.holds_of_wide 8 Tryz.f8 rfl rfl rfl rfl rfl rfl rfl ⟨rfl, rfl, rfl, rfl, rfl⟩ rfl rfl rfl rfl rfl opens_named Tryz.func8 opens_closed opens_inst opens_wrap
    (fun os started H enc _ => opens_lifted os started H enc)
#print axioms opens_holds
end Go.Proofs.YtadachfhgafdjaaGreat
