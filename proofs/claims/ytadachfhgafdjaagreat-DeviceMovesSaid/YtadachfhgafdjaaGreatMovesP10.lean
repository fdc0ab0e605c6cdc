/- MovesP: part 10 of the texts that the proof of moves_holds needs: an evaluator of the program on data, its soundness, the equations of the functions, the plain laws. Conditions: none. -/
import Derived.Test.YtadachfhgafdjaaGreatMovesP9
set_option linter.unusedVariables false
set_option linter.unusedSimpArgs false
namespace Go.Vm
open Go.Proofs
structure DevIn (d : Y.Device) (l : List TBox) (m : List Int) (ss : List Y.Segment) (rest : List Int) : Prop where
  ty : DevTy d l m ss rest
  ml : m.length ≤ 20
  rl : rest.length ≤ 1000000
theorem MadeD.inp {dir : Int} {d : Y.Device} {l : List TBox} {m : List Int} {ss : List Y.Segment} {rest : List Int} (h : MadeD dir d l m ss rest) : DevIn d l m ss rest := by
  obtain ⟨ht, hc⟩ := h.ty
  rcases h with ⟨rfl, rfl, rfl, rfl, rfl⟩ | ⟨z, hz, ho, hr, hd⟩
  · exact ⟨ht, by simp, by simp⟩
  · obtain ⟨_, _, _, hf, hm, hp⟩ := opn_fit hz.ty ⟨by rw [hz.s0]; omega, by rw [hz.s0]; omega⟩ ho
    obtain ⟨_, h2⟩ := nb_dev hz.ty hf hm hp
    exact ⟨ht, hz.ml, by rw [hr]; omega⟩
structure RawTy (d : Y.Device) (l : List TBox) (m : List Int) (ss : List Y.Segment) (rest : List Int) : Prop where
  hb : d.Descriptor.Boxes = boxesD l
  hn : d.Descriptor.Name.size ≤ 9223372036854775807
  hm : d.Choice.Format.Map = mpD m
  hs : d.Clock.Segments = ss.map Y.Segment.enc
  hr : d.Bridge.Resample.Rest = rest.map i32D
  rate : d.Choice.Format.Rate ≤ 9223372036854775807
  mast : d.Rate ≤ 9223372036854775807
structure BoxIn (b : TBox) : Prop where
  rs : b.rates.length ≤ 70
  sz : b.sizes.length ≤ 70
  mn : b.maps.length ≤ 20
  ms : ∀ m ∈ b.maps, m.length ≤ 12
theorem BoxIn.sm {b : TBox} (h : BoxIn b) : b.Sm := ⟨sm_of (by have := h.rs; omega), sm_of (by have := h.mn; omega), sm_of (by have := h.sz; omega), fun m hm => sm_of (by have := h.ms m hm; omega)⟩
theorem keep_maps (l : List TBox) (i : Nat) (ms : List (List Int)) (hms : ms.length ≤ 20) : ∀ (k j : Nat), j ≤ ms.length → ms.length - j = k →
    (keep_Boxes_k119608 (boxesD l) l.length i (mapsD ms) ms.length j = some (e_B false)) ∨ ((∀ m ∈ ms.drop j, m.length ≤ 12) ∧ keep_Boxes_k119608 (boxesD l) l.length i (mapsD ms) ms.length j = keep_Boxes_k232 (boxesD l) l.length (IntKind.i64.wrap ((i : Int) + 1))) := by
  intro k
  induction k with
  | zero =>
    intro j hj hk
    right
    refine ⟨fun m hm => ?_, ?_⟩
    · rw [List.drop_of_length_le (by omega)] at hm; cases hm
    · rw [keep_Boxes_k119608_eq, br_n (by omega)]
  | succ k ih =>
    intro j hj hk
    have hlt : j < ms.length := by omega
    have g : (mapsD ms).getD j [] = mapD1 ms[j] := getD_map mapD1 ms hlt
    rw [keep_Boxes_k119608_eq, br_p (by omega), maps_len, inB_lt hlt, br_t, toNatN, g, mapD1_get, show (mpD ms[j]).length = ms[j].length from List.length_map _, w64 (n := (j : Int) + 1) (by omega) (by omega), show ((j : Int) + 1) = ((j + 1 : Nat) : Int) by omega]
    by_cases c : (ms[j].length : Int) > 12
    · rw [br_p c]; exact .inl rfl
    · rw [br_n c]
      rcases ih (j + 1) (by omega) (by omega) with h | ⟨h1, h2⟩
      · exact .inl h
      · refine .inr ⟨fun m hm => ?_, h2⟩
        rw [List.drop_eq_getElem_cons hlt] at hm
        rcases List.mem_cons.1 hm with rfl | hm
        · omega
        · exact h1 m hm
theorem keep_Boxes_ok (l : List TBox) : ∃ b, keep_Boxes (boxesD l) 9 = some (e_B b) ∧ (b = true → l.length ≤ 9 ∧ ∀ x ∈ l, BoxIn x) := by
  rw [keep_Boxes_eq, boxes_len]
  by_cases c : (l.length : Int) > 9
  · rw [br_p c]; exact ⟨false, rfl, fun h => by cases h⟩
  rw [br_n c]
  have main : ∀ (k i : Nat), i ≤ l.length → l.length - i = k → ∃ b, keep_Boxes_k232 (boxesD l) l.length i = some (e_B b) ∧ (b = true → ∀ x ∈ l.drop i, BoxIn x) := by
    intro k
    induction k with
    | zero =>
      intro i hi hk
      rw [keep_Boxes_k232_eq, br_n (by omega)]
      exact ⟨true, rfl, fun _ x hx => by rw [List.drop_of_length_le (by omega)] at hx; cases hx⟩
    | succ k ih =>
      intro i hi hk
      have hlt : i < l.length := by omega
      have g : (boxesD l).getD i [] = l[i].y.enc := getD_map boxD l hlt
      have k1 : keep_Set l[i].y.Rates = some (e_B (decide ((l[i].rates.length : Int) ≤ 70))) := by
        rw [keep_Set_eq, show l[i].y.Rates.Spans = l[i].rates.map Y.Span.enc from rfl, List.length_map]
      have k2 : keep_Set l[i].y.Sizes = some (e_B (decide ((l[i].sizes.length : Int) ≤ 70))) := by
        rw [keep_Set_eq, show l[i].y.Sizes.Spans = l[i].sizes.map Y.Span.enc from rfl, List.length_map]
      rw [keep_Boxes_k232_eq, br_p (by omega), boxes_len, inB_lt hlt, br_t, toNatN, g, Y.Box.get_enc, k1, o_B_e]
      by_cases c1 : (l[i].rates.length : Int) ≤ 70
      case neg => rw [decide_eq_false c1]; exact ⟨false, rfl, fun h => by cases h⟩
      rw [decide_eq_true c1, Bool.not_true, br_f, k2, o_B_e]
      by_cases c2 : (l[i].sizes.length : Int) ≤ 70
      case neg => rw [decide_eq_false c2]; exact ⟨false, rfl, fun h => by cases h⟩
      rw [decide_eq_true c2, Bool.not_true, br_f, show l[i].y.Maps = mapsD l[i].maps from rfl, maps_len]
      by_cases c3 : (l[i].maps.length : Int) > 20
      · rw [br_p c3]; exact ⟨false, rfl, fun h => by cases h⟩
      rw [br_n c3]
      rcases keep_maps l i l[i].maps (by omega) _ 0 (by omega) rfl with h | ⟨h1, h2⟩
      · have h' : keep_Boxes_k119608 (boxesD l) l.length i (mapsD l[i].maps) l[i].maps.length 0 = some (e_B false) := h
        rw [h']; exact ⟨false, rfl, fun h => by cases h⟩
      · have h2' : keep_Boxes_k119608 (boxesD l) l.length i (mapsD l[i].maps) l[i].maps.length 0 = keep_Boxes_k232 (boxesD l) l.length (IntKind.i64.wrap ((i : Int) + 1)) := h2
        obtain ⟨b, e, hb⟩ := ih (i + 1) (by omega) (by omega)
        rw [h2', w64 (by omega) (by omega), show ((i : Int) + 1) = ((i + 1 : Nat) : Int) by omega, e]
        refine ⟨b, rfl, fun hbt x hx => ?_⟩
        rw [List.drop_eq_getElem_cons hlt] at hx
        rcases List.mem_cons.1 hx with rfl | hx
        · exact ⟨by omega, by omega, by omega, fun m hm => h1 m (by rw [List.drop_zero]; exact hm)⟩
        · exact hb hbt x hx
  obtain ⟨b, e, hb⟩ := main _ 0 (by omega) rfl
  have e' : keep_Boxes_k232 (boxesD l) l.length 0 = some (e_B b) := e
  exact ⟨b, e', fun h => ⟨by omega, fun x hx => hb h x (by rw [List.drop_zero]; exact hx)⟩⟩
theorem BSm.of_in {l : List TBox} (h : l.length ≤ 9 ∧ ∀ x ∈ l, BoxIn x) : BSm l := ⟨sm_of (by omega), fun b hb => (h.2 b hb).sm⟩
section
variable {d : Y.Device} {l : List TBox} {m : List Int} {ss : List Y.Segment} {rest : List Int}
theorem keep_Device_ok (h : RawTy d l m ss rest) : ∃ b, keep_Device d = some (e_B b) ∧ (b = true → DevIn d l m ss rest) := by
  obtain ⟨b1, e1, h1⟩ := keep_Boxes_ok l
  rw [keep_Device_eq, h.hb, e1, o_B_e]
  cases b1 with
  | false => exact ⟨false, rfl, fun h => by cases h⟩
  | true =>
    rw [br_t, keep_Clock_eq, h.hs, List.length_map, o_B_e, h.hr, List.length_map, h.hm, show (mpD m).length = m.length from List.length_map _]
    by_cases c1 : (ss.length : Int) ≤ 66
    case neg => rw [br_n c1]; exact ⟨false, rfl, fun h => by cases h⟩
    rw [br_p c1]
    by_cases c2 : (rest.length : Int) ≤ 4000
    case neg => rw [br_n c2]; exact ⟨false, rfl, fun h => by cases h⟩
    rw [br_p c2]
    refine ⟨_, rfl, fun h4 => ?_⟩
    have c3 := of_decide_eq_true h4
    exact ⟨⟨h.hb, BSm.of_in (h1 rfl), h.hn, h.hm, sm_of (by omega), h.hs, sm_of (by omega), h.hr, sm_of (by omega), h.rate, h.mast⟩, by omega, by omega⟩
theorem pus_len {b : Y.Bridge} {ss : List Int} {c : Int} {tt : List Int} : (pusR b ss c tt).2.1.length ≤ ss.length + tt.length := by
  unfold pusR
  split
  · split
    · split
      · simp only [List.length_append, List.length_take]; omega
      · simp
    · simp
  · simp
theorem pul_ty {b : Y.Bridge} {ss : List Int} {n : Int} : (pulR b ss n).2.2.1.1.Resample.Rest = (pulR b ss n).2.2.1.2.map i32D ∧ (pulR b ss n).2.2.1.2.length ≤ ss.length ∧ (pulR b ss n).1.2.length ≤ 2000000 := by
  have pr : (proR (tunR b ss) ss (pulK b ss n)).rest.length ≤ ss.length := by
    unfold proR
    split
    · simp only [List.length_drop]; omega
    · simp [TRes.err]
  unfold pulR
  by_cases hv : bridgeB b ss = true
  case neg => rw [if_neg hv]; exact ⟨rfl, by simp, by simp⟩
  rw [if_pos hv]
  by_cases hn : n < 0 ∨ n > 65536
  · rw [if_pos hn]; exact ⟨rfl, by simp, by simp⟩
  rw [if_neg hn]
  by_cases he : (proR (tunR b ss) ss (pulK b ss n)).e = 0
  case neg => rw [if_neg he]; exact ⟨rfl, by simp, by simp⟩
  rw [if_pos he]
  refine ⟨rfl, pr, ?_⟩
  obtain ⟨q, w, k, hq, q1, q2, hl, hw, _, _, hk, hkn, _⟩ := pul_facts hv (n := n) (by omega) (by omega)
  have hout : (proR (tunR b ss) ss (pulK b ss n)).out.length ≤ 65536 * 8 := by
    unfold proR
    split
    · rw [outS_len, hk, toNatN]
      exact Nat.mul_le_mul (by omega) (by rw [show (tunR b ss).Channels = (q : Int) from hq, toNatN]; exact q2)
    · simp [TRes.err]
  have hrep : ((n - pulK b ss n) * b.Resample.Channels).toNat ≤ 65536 * 8 := by
    rw [hk, hq]
    have : (n - (k : Int)) * (q : Int) ≤ 65536 * 8 := Int.mul_le_mul (by omega) (by omega) (by omega) (by omega)
    omega
  simp only [List.length_append, List.length_replicate]
  omega
theorem mov_ty (h : DevIn d l m ss rest) {c : Int} {tt : List Int} (ht : tt.length ≤ 1000000) {n : Int} : ∃ l' m' ss', DevTy (movR d rest c tt n).d l' m' ss' (movR d rest c tt n).rest ∧ (movR d rest c tt n).out.length ≤ 2000000 := by
  have hp := pus_len (b := d.Bridge) (ss := rest) (c := c) (tt := tt)
  obtain ⟨p1, p2, p3⟩ := pul_ty (b := (pusR d.Bridge rest c tt).1) (ss := (pusR d.Bridge rest c tt).2.1) (n := n)
  have hrl := h.rl
  have hty := h.ty
  unfold movR
  by_cases he : (pulR (pusR d.Bridge rest c tt).1 (pusR d.Bridge rest c tt).2.1 n).2.2.2 = 0
  · rw [if_pos he]
    exact ⟨l, m, ss, ⟨hty.hb, hty.bs, hty.hn, hty.hm, hty.ms, hty.hs, hty.sss, p1, sm_of (by simp only; omega), hty.rate, hty.mast⟩, p3⟩
  · rw [if_neg he]
    exact ⟨[], [], [], zDev_ty, by simp [DRes.err]⟩
theorem ply_ty (h : DevIn d l m ss rest) {c : Int} {tt : List Int} (ht : tt.length ≤ 1000000) {b e : Int} : ∃ l' m' ss', DevTy (plyR d l m ss rest c tt b e).d l' m' ss' (plyR d l m ss rest c tt b e).rest ∧ (plyR d l m ss rest c tt b e).out.length ≤ 2000000 := by
  unfold plyR
  by_cases k : (chkR d l m ss rest 1 c tt b e).2 = 0
  case neg => rw [if_neg k]; exact ⟨[], [], [], zDev_ty, by simp [DRes.err]⟩
  rw [if_pos k]
  by_cases hr : d.Running = true
  · rw [if_pos hr]; exact mov_ty h ht
  · rw [if_neg hr]; exact ⟨l, m, ss, h.ty, by simp⟩
theorem rec_ty (h : DevIn d l m ss rest) {c : Int} {tt : List Int} (ht : tt.length ≤ 1000000) {n b e : Int} : ∃ l' m' ss', DevTy (recR d l m ss rest c tt n b e).d l' m' ss' (recR d l m ss rest c tt n b e).rest ∧ (recR d l m ss rest c tt n b e).out.length ≤ 2000000 := by
  unfold recR
  by_cases k : (chkR d l m ss rest 2 c tt b e).2 = 0
  case neg => rw [if_neg k]; exact ⟨[], [], [], zDev_ty, by simp [DRes.err]⟩
  rw [if_pos k]
  by_cases k1 : d.Running = true ∧ frmR c tt ≠ (chkR d l m ss rest 2 c tt b e).1
  · rw [if_pos k1]; exact ⟨[], [], [], zDev_ty, by simp [DRes.err]⟩
  rw [if_neg k1]
  by_cases k2 : n < 0 ∨ n > 65536
  · rw [if_pos k2]; exact ⟨[], [], [], zDev_ty, by simp [DRes.err]⟩
  rw [if_neg k2]
  by_cases hr : d.Running = true
  · rw [if_pos hr]; exact mov_ty h ht
  · rw [if_neg hr]
    refine ⟨l, m, ss, h.ty, ?_⟩
    unfold silR
    by_cases k3 : c < 1 ∨ c > 8 ∨ n < 0 ∨ n > 65536
    · rw [if_pos k3]; simp
    · rw [if_neg k3]
      simp only [List.length_replicate]
      have : c * n ≤ 8 * 65536 := Int.mul_le_mul (by omega) (by omega) (by omega) (by omega)
      omega
theorem due_rng (b c : Int) : 0 ≤ (dueR d l m ss rest b c).1 ∧ (dueR d l m ss rest b c).1 ≤ 65536 := by
  by_cases h : (dueR d l m ss rest b c).2 = 0
  · by_cases hv : devB d l m ss rest = true
    · exact due_in hv h
    · unfold dueR at h
      rw [if_neg hv] at h
      cases h
  · revert h
    unfold dueR
    split
    · split
      · intro _; simp
      · split
        · split
          · intro h; exact absurd rfl h
          · split
            · intro _; simp
            · intro h; exact absurd rfl h
        · intro h; exact absurd rfl h
    · intro _; simp
end
end Go.Vm
set_option linter.unusedVariables false
set_option linter.unusedSimpArgs false
namespace Go.Vm
open Go.Proofs
section
variable {d : Y.Device} {l : List TBox} {m : List Int} {ss : List Y.Segment} {rest : List Int}
theorem due_err {b c : Int} (h : ¬ (dueR d l m ss rest b c).2 = 0) : (dueR d l m ss rest b c).1 = 0 := by
  revert h
  unfold dueR
  split
  · split
    · intro _; rfl
    · split
      · split
        · intro h; exact absurd rfl h
        · split
          · intro _; rfl
          · intro h; exact absurd rfl h
      · intro h; exact absurd rfl h
  · intro _; rfl
def blkD (p : Int × List Int) : List D := (blk p.1 p.2).enc
theorem moves_k3 (h : DevIn d l m ss rest) (bl : List (Int × List Int)) (hbl : ∀ p ∈ bl, p.2.length ≤ 1000000) (hl : bl.length ≤ 10) (n0 n1 n2 n3 n4 n5 n6 : Int) (x9 : Y.Block) (x11 : Y.Arr2_Int) (r12 r13 : List (List D)) : ∀ (k j : Nat), j ≤ bl.length → bl.length - j = k →
    law21_DeviceMoves_k1050253816 n0 n1 n2 n3 n4 n5 n6 bl.length j x9 d x11 r12 r13 (bl.map blkD) = law21_DeviceMoves_k256408 n0 n1 n2 n3 n4 n5 (IntKind.i64.wrap (n6 + 1)) x9 d r12 r13 := by
  intro k
  induction k with
  | zero =>
    intro j hj hk
    rw [law21_DeviceMoves_k1050253816_eq, br_n (by omega)]
  | succ k ih =>
    intro j hj hk
    have hlt : j < bl.length := by omega
    have hp := hbl _ (List.getElem_mem hlt)
    have g : (bl.map blkD).getD j [] = (blk bl[j].1 bl[j].2).enc := getD_map blkD bl hlt
    obtain ⟨l1, m1, s1, t1, o1⟩ := ply_ty h (c := bl[j].1) (tt := bl[j].2) hp (b := x11.X0) (e := x11.X1)
    obtain ⟨l2, m2, s2, t2, o2⟩ := rec_ty h (c := bl[j].1) (tt := bl[j].2) hp (n := n0) (b := x11.X0) (e := x11.X1)
    have hsm : Sm bl[j].2 := sm_of (by omega)
    have r1 := ref21_Same_refl t1
    have r2 := ref21_Same_refl t2
    have r3 : ref04_Same (blk (plyR d l m ss rest bl[j].1 bl[j].2 x11.X0 x11.X1).c (plyR d l m ss rest bl[j].1 bl[j].2 x11.X0 x11.X1).out) (blk (plyR d l m ss rest bl[j].1 bl[j].2 x11.X0 x11.X1).c (plyR d l m ss rest bl[j].1 bl[j].2 x11.X0 x11.X1).out) = _ := ref04_Same_refl _ _ (sm_of (by omega))
    have r4 : ref04_Same (blk (recR d l m ss rest bl[j].1 bl[j].2 n0 x11.X0 x11.X1).c (recR d l m ss rest bl[j].1 bl[j].2 n0 x11.X0 x11.X1).out) (blk (recR d l m ss rest bl[j].1 bl[j].2 n0 x11.X0 x11.X1).c (recR d l m ss rest bl[j].1 bl[j].2 n0 x11.X0 x11.X1).out) = _ := ref04_Same_refl _ _ (sm_of (by omega))
    rw [law21_DeviceMoves_k1050253816_eq, br_p (by omega), inB_lt (by rw [List.length_map]; exact hlt), br_t, toNatN, g, Y.Block.sub_enc, Y.Block.get_enc, device_Play_ok h.ty _ hsm, ref21_Play_ok h.ty _ hsm, device_Record_ok h.ty _ hsm, ref21_Record_ok h.ty _ hsm]
    unfold DRes.ans
    rw [o_Block_I64_I64_Device_I64_e, o_Block_I64_I64_Device_I64_e, br_eq' rfl, br_eq' rfl, br_eq' rfl, r1, o_B_e, Bool.not_true, br_f, r3, o_B_e, Bool.not_true, br_f, o_Block_I64_I64_Device_I64_e, o_Block_I64_I64_Device_I64_e, br_eq' rfl, br_eq' rfl, br_eq' rfl, r2, o_B_e, Bool.not_true, br_f, r4, o_B_e, Bool.not_true, br_f, w64 (n := (j : Int) + 1) (by omega) (by omega), show ((j : Int) + 1) = ((j + 1 : Nat) : Int) by omega]
    exact ih (j + 1) (by omega) (by omega)
theorem wave_in (h : DevIn d l m ss rest) (a f : Int) (hf0 : -9223372036854775808 ≤ f) (hf : f ≤ 20000) : ∃ tt : List Int, made_Wave a (d.Choice.Format.Map.length : Int) 0 f = some (e_Block (blk (m.length : Int) tt)) ∧ tt.length ≤ 1000000 := by
  have hml := h.ml
  obtain ⟨tt, e, h1, h2⟩ := wave_ok a m.length f hml hf0 hf
  have : f.toNat * m.length ≤ 20000 * 20 := Nat.mul_le_mul (by omega) hml
  rw [map_len h.ty]
  exact ⟨tt, e, by omega⟩
theorem moves_k2 (h : DevIn d l m ss rest) (c : Int) (tt : List Int) (ht : tt.length ≤ 1000) (n0 n1 n2 n3 n4 : Int) (r9 : List (List D)) (ts : List Y.Arr2_Int) (hl : ts.length ≤ 10) : ∀ (k j : Nat), j ≤ ts.length → ts.length - j = k →
    law21_DeviceMoves_k256408 n0 n1 n2 n3 n4 ts.length j (blk c tt) d r9 (ts.map Y.Arr2_Int.enc) = law21_DeviceMoves_k1000 n0 n1 n2 n3 (IntKind.i64.wrap (n4 + 1)) (blk c tt) r9 := by
  intro k
  induction k with
  | zero =>
    intro j hj hk
    rw [law21_DeviceMoves_k256408_eq, br_n (by omega)]
  | succ k ih =>
    intro j hj hk
    have hlt : j < ts.length := by omega
    have hn := ih (j + 1) (by omega) (by omega)
    have hd := due_rng (d := d) (l := l) (m := m) (ss := ss) (rest := rest) ts[j].X0 ts[j].X1
    have q : -300 < d.Period.tmod 300 ∧ d.Period.tmod 300 < 300 := ⟨Int.lt_tmod_of_pos _ (by omega), Int.tmod_lt_of_pos _ (by omega)⟩
    obtain ⟨t1, e1, l1⟩ := wave_in h 1 (d.Period.tmod 300) (by omega) (by omega)
    have go : ∀ x : Int, 0 ≤ x → x ≤ 3000 → (o_Block (made_Wave 2 (d.Choice.Format.Map.length : Int) 0 x) fun x21 => law21_DeviceMoves_k1050253816 n0 n1 n2 n3 n4 ts.length j (↑3 : Int) 0 (blk c tt) d ts[j] r9 (ts.map Y.Arr2_Int.enc) [(blk c tt).enc, (blk (m.length : Int) t1).enc, x21.enc]) = law21_DeviceMoves_k1000 n0 n1 n2 n3 (IntKind.i64.wrap (n4 + 1)) (blk c tt) r9 := by
      intro x x0 x1
      obtain ⟨t2, e2, l2⟩ := wave_in h 2 x (by omega) (by omega)
      rw [e2, o_Block_e]
      have := moves_k3 h [(c, tt), ((m.length : Int), t1), ((m.length : Int), t2)] (fun p hp => by
        rcases List.mem_cons.1 hp with rfl | hp
        · show tt.length ≤ _; omega
        rcases List.mem_cons.1 hp with rfl | hp
        · exact l1
        · rw [List.mem_singleton.1 hp]; exact l2) (by simp) n0 n1 n2 n3 n4 ts.length j (blk c tt) ts[j] r9 (ts.map Y.Arr2_Int.enc) 3 0 (by simp) rfl
      refine Eq.trans this ?_
      rw [w64 (by omega) (by omega), show ((j : Int) + 1) = ((j + 1 : Nat) : Int) by omega]
      exact hn
    rw [law21_DeviceMoves_k256408_eq, br_p (by omega), inB_lt (by rw [List.length_map]; exact hlt), br_t, toNatN, getD_map _ ts hlt, Y.Arr2_Int.sub_enc, Y.Arr2_Int.get_enc, device_Due_ok h.ty, o_I64_I64_e, ref21_Due_ok h.ty, o_I64_I64_e, br_eq' rfl, br_eq' rfl, e1]
    by_cases k1 : (dueR d l m ss rest ts[j].X0 ts[j].X1).2 = 0
    · rw [br_eq k1]
      by_cases k2 : (dueR d l m ss rest ts[j].X0 ts[j].X1).1 > 3000
      · rw [br_p k2, w64 (by omega) (by omega), show ((j : Int) + 1) = ((j + 1 : Nat) : Int) by omega]
        exact hn
      · rw [br_n k2, o_Block_e]
        exact go _ hd.1 (by omega)
    · rw [br_ne k1, o_Block_e]
      have := due_err k1
      exact go _ hd.1 (by omega)
end
theorem moves_k1 (c : Int) (tt : List Int) (ht : tt.length ≤ 1000) (n0 n1 n2 : Int) (ds : List Y.Device) (hds : ∀ d ∈ ds, ∃ l m ss rest, DevIn d l m ss rest) (hl : ds.length ≤ 10) : ∀ (k j : Nat), j ≤ ds.length → ds.length - j = k →
    law21_DeviceMoves_k1000 n0 n1 n2 ds.length j (blk c tt) (ds.map Y.Device.enc) = some (e_B true) := by
  intro k
  induction k with
  | zero =>
    intro j hj hk
    rw [law21_DeviceMoves_k1000_eq, br_n (by omega)]
  | succ k ih =>
    intro j hj hk
    have hlt : j < ds.length := by omega
    obtain ⟨l, m, ss, rest, hd⟩ := hds _ (List.getElem_mem hlt)
    rw [law21_DeviceMoves_k1000_eq, br_p (by omega), inB_lt (by rw [List.length_map]; exact hlt), br_t, toNatN, getD_map _ ds hlt, Y.Device.sub_enc, Y.Device.get_enc]
    have := moves_k2 hd c tt ht n0 n1 n2 ds.length j (ds.map Y.Device.enc) [⟨n1, n2⟩, ⟨n1.tmod 200, IntKind.i64.wrap (n1.tmod 200 + n2.tmod 100)⟩, ⟨0, 32⟩] (by simp) 3 0 (by simp) rfl
    refine Eq.trans this ?_
    rw [w64 (by omega) (by omega), show ((j : Int) + 1) = ((j + 1 : Nat) : Int) by omega]
    exact ih (j + 1) (by omega) (by omega)
theorem moves_law {d : Y.Device} {l : List TBox} {m : List Int} {ss : List Y.Segment} {rest : List Int} (h : RawTy d l m ss rest) (c : Int) (tt : List Int) (bs : List Int) (hb : ∀ b ∈ bs, 0 ≤ b ∧ b ≤ 255) (n f t : Int) : law21_DeviceMoves d (blk c tt) (bs.map u8D) n f t = some (e_B true) := by
  obtain ⟨k, e1, hk⟩ := keep_Device_ok h
  rw [law21_DeviceMoves_eq, sane_ok, o_B_e, Bool.not_true, br_f, e1, o_B_e]
  cases k with
  | false => rfl
  | true =>
    have hd := hk rfl
    rw [Bool.not_true, br_f, keep_Block_eq, o_B_e, show (blk c tt).Data = tt.map i32D from rfl, List.length_map]
    by_cases c1 : (tt.length : Int) ≤ 300
    case neg => rw [decide_eq_false c1]; rfl
    rw [decide_eq_true c1, Bool.not_true, br_f]
    obtain ⟨x, ex, hx⟩ := new_ok bs hb
    obtain ⟨d1, l1, m1, s1, r1, x1, e2, hx1, hm1⟩ := device_ok hx 1
    obtain ⟨d2, l2, m2, s2, r2, x2, e3, hx2, hm2⟩ := device_ok hx1 2
    have main : (o_Made_Dice (made_New (bs.map u8D)) fun x9 => o_Device_Made_Dice (made_Device x9 1) fun x10 x11 => o_Device_Made_Dice (made_Device x11 2) fun x12 x13 => law21_DeviceMoves_k1000 n f t (↑3 : Int) 0 (blk c tt) [d.enc, x10.enc, x12.enc]) = some (e_B true) := by
      rw [ex, o_Made_Dice_e, e2, o_Device_Made_Dice_e, e3, o_Device_Made_Dice_e]
      exact moves_k1 c tt (by omega) n f t [d, d1, d2] (fun y hy => by
        rcases List.mem_cons.1 hy with rfl | hy
        · exact ⟨l, m, ss, rest, hd⟩
        rcases List.mem_cons.1 hy with rfl | hy
        · exact ⟨l1, m1, s1, r1, hm1.inp⟩
        · rw [List.mem_singleton.1 hy]; exact ⟨l2, m2, s2, r2, hm2.inp⟩) (by simp) 3 0 (by simp) rfl
    by_cases c2 : n > 500
    · rw [br_p c2]
      by_cases c3 : n ≤ 65536
      · rw [br_p c3]
      · rw [br_n c3]; exact main
    · rw [br_n c2]; exact main
end Go.Vm
set_option linter.unusedVariables false
set_option linter.unusedSimpArgs false
namespace Go.Vm
open Go.Proofs
theorem ty_int {P : Program} {n : Nat} {t : TypeId} {k : IntKind} {ds : List D} (hu : P.underlying t = some (.int k)) (h : TyD P (n + 1) t ds) : ∃ i, ds = [.int k i] ∧ (Lit.int k i).wf = true := by
  simp only [TyD, hu] at h
  exact h
theorem ty_bool {P : Program} {n : Nat} {t : TypeId} {ds : List D} (hu : P.underlying t = some .bool) (h : TyD P (n + 1) t ds) : ∃ b, ds = [.bool b] := by
  simp only [TyD, hu] at h
  exact h
theorem ty_str {P : Program} {n : Nat} {t : TypeId} {ds : List D} (hu : P.underlying t = some .string) (h : TyD P (n + 1) t ds) : ∃ s, ds = [.str s] ∧ s.size ≤ maxLen := by
  simp only [TyD, hu] at h
  exact h
theorem ty_slice {P : Program} {n : Nat} {t e : TypeId} {ds : List D} (hu : P.underlying t = some (.slice e)) (h : TyD P (n + 1) t ds) : ∃ rows, ds = [.list (sz P e) rows] ∧ rows.length ≤ maxLen ∧ ∀ row ∈ rows, TyD P n e row := by
  simp only [TyD, hu] at h
  exact h
theorem ty_struct {P : Program} {n : Nat} {t : TypeId} {fs : Array Field} {ds : List D} (hu : P.underlying t = some (.struct fs)) (h : TyD P (n + 1) t ds) : ds.length = sz P t ∧ ∀ f ∈ fs.toList, TyD P n f.type ((ds.drop f.offset).take (sz P f.type)) := by
  simp only [TyD, hu] at h
  exact h
theorem noNum : NoNum Tryz.prog := by
  intro f fn hf hb
  have h : (Tryz.prog.funcs.toList.all fun fn => !(fn.name == "runtime.NumGoroutine")) = true := by kernel_rfl
  have := List.all_eq_true.1 h fn (List.mem_of_getElem? (by simpa using hf))
  simpa using this
theorem mixed : Tryz.prog.follows .mixedOrders = true := by kernel_rfl
theorem wf_i64 {i : Int} (h : (Lit.int .i64 i).wf = true) : -9223372036854775808 ≤ i ∧ i ≤ 9223372036854775807 := by
  simpa [Lit.wf, IntKind.min, IntKind.max, IntKind.signed, IntKind.bits] using h
theorem wf_u8 {i : Int} (h : (Lit.int .u8 i).wf = true) : 0 ≤ i ∧ i ≤ 255 := by
  simpa [Lit.wf, IntKind.min, IntKind.max, IntKind.signed, IntKind.bits] using h
theorem rows_map {β : Type} {enc : β → List D} {p : β → Prop} : ∀ {rows : List (List D)}, (∀ row ∈ rows, ∃ x, row = enc x ∧ p x) → ∃ l : List β, rows = l.map enc ∧ ∀ x ∈ l, p x
  | [], _ => ⟨[], rfl, fun _ h => by cases h⟩
  | row :: rows, h => by
    obtain ⟨x, e, hx⟩ := h row List.mem_cons_self
    obtain ⟨l, e2, hl⟩ := rows_map (rows := rows) fun r hr => h r (List.mem_cons_of_mem _ hr)
    exact ⟨x :: l, by rw [e, e2]; rfl, fun y hy => by
      rcases List.mem_cons.1 hy with rfl | hy
      · exact hx
      · exact hl y hy⟩
set_option maxRecDepth 100000 in
theorem ty_u8 {n : Nat} {ds : List D} (h : TyD Tryz.prog (n + 1) 5 ds) : ∃ i, ds = [.int .u8 i] ∧ 0 ≤ i ∧ i ≤ 255 := by
  obtain ⟨i, e, hw⟩ := ty_int (P := Tryz.prog) (n := n) (t := 5) (k := .u8) Tryz.underlying5 h
  exact ⟨i, e, wf_u8 hw⟩
set_option maxRecDepth 100000 in
theorem ty_bytes {n : Nat} {ds : List D} (h : TyD Tryz.prog (n + 2) 22 ds) : ∃ bs : List Int, ds = [.list 1 (bs.map fun b => [D.int .u8 b])] ∧ ∀ b ∈ bs, 0 ≤ b ∧ b ≤ 255 := by
  obtain ⟨rows, rfl, hl, hr⟩ := ty_slice (P := Tryz.prog) (n := n + 1) (t := 22) (e := 5) Tryz.underlying22 h
  obtain ⟨bs, rfl, hb⟩ := rows_map (enc := fun b => [D.int .u8 b]) (p := fun b => 0 ≤ b ∧ b ≤ 255) (rows := rows) fun row hrow => ty_u8 (hr row hrow)
  exact ⟨bs, by rw [show sz Tryz.prog 5 = 1 by kernel_rfl], hb⟩
theorem vown : ownKnob Tryz.prog.godebug = none := by kernel_rfl
theorem vlaid : laidOutB Tryz.prog = true := by kernel_rfl
end Go.Vm
set_option linter.unusedVariables false
set_option linter.unusedSimpArgs false
namespace Go.Vm
open Go.Proofs
def consec (P : Program) : Nat → List Field → Nat → Bool
  | k, [], tot => k == tot
  | k, f :: fl, tot => f.offset == k && consec P (k + sz P f.type) fl tot
def Str (P : Program) (t : TypeId) (ts : List TypeId) : Prop := ∃ fs : Array Field, P.underlying t = some (.struct fs) ∧ fs.toList.map (fun f => f.type) = ts ∧ consec P 0 fs.toList (sz P t) = true
def TyFs (P : Program) (n : Nat) : List TypeId → List D → Prop
  | [], ds => ds = []
  | t :: ts, ds => ∃ a b, ds = a ++ b ∧ TyD P n t a ∧ TyFs P n ts b
theorem ty_fields {P : Program} {n : Nat} {t : TypeId} {ts : List TypeId} {ds : List D} (hs : Str P t ts) (h : TyD P (n + 1) t ds) : TyFs P n ts ds := by
  obtain ⟨fs, hu, rfl, hc⟩ := hs
  obtain ⟨hl, hf⟩ := ty_struct hu h
  have main : ∀ (fl : List Field) (k : Nat), (∀ f ∈ fl, TyD P n f.type ((ds.drop f.offset).take (sz P f.type))) → consec P k fl (sz P t) = true → TyFs P n (fl.map (fun f => f.type)) (ds.drop k) := by
    intro fl
    induction fl with
    | nil =>
      intro k _ hc
      simp only [consec, beq_iff_eq] at hc
      show ds.drop k = []
      rw [List.drop_of_length_le (by omega)]
    | cons f fl ih =>
      intro k hf hc
      simp only [consec, Bool.and_eq_true, beq_iff_eq] at hc
      obtain ⟨h1, h2⟩ := hc
      have a := hf f List.mem_cons_self
      rw [h1] at a
      refine ⟨_, (ds.drop k).drop (sz P f.type), (List.take_append_drop (sz P f.type) (ds.drop k)).symm, a, ?_⟩
      rw [List.drop_drop]
      exact ih (k + sz P f.type) (fun g hg => hf g (List.mem_cons_of_mem _ hg)) h2
  have := main fs.toList 0 hf hc
  rwa [List.drop_zero] at this
structure Tys (P : Program) : Prop where
  t2 : P.underlying 2 = some (.int .i64)
  t3 : P.underlying 3 = some (.int .i64)
  t4 : P.underlying 4 = some .bool
  t9 : P.underlying 9 = some .string
  t21 : P.underlying 21 = some (.int .i32)
  t24 : P.underlying 24 = some (.int .u64)
  t25 : P.underlying 25 = some (.slice 110)
  t28 : P.underlying 28 = some (.slice 3)
  t33 : P.underlying 33 = some (.slice 112)
  t42 : P.underlying 42 = some (.slice 21)
  t105 : P.underlying 105 = some (.slice 104)
  t108 : P.underlying 108 = some (.slice 28)
  z3 : sz P 3 = 1
  z21 : sz P 21 = 1
  z28 : sz P 28 = 1
  z104 : sz P 104 = 2
  z110 : sz P 110 = 4
  z112 : sz P 112 = 3
  s27 : Str P 27 [24, 9, 3, 3, 3, 3, 3, 25]
  s30 : Str P 30 [3, 3, 28]
  s32 : Str P 32 [30, 3]
  s35 : Str P 35 [33]
  s37 : Str P 37 [3, 3, 3, 3]
  s39 : Str P 39 [2, 2]
  s41 : Str P 41 [39, 3, 2, 2]
  s44 : Str P 44 [3, 41, 42]
  s46 : Str P 46 [3, 37, 44, 3, 3]
  s48 : Str P 48 [27, 32, 3, 3, 35, 4, 2, 46]
  s54 : Str P 54 [3, 42]
  s104 : Str P 104 [3, 3]
  s107 : Str P 107 [105]
  s110 : Str P 110 [3, 107, 108, 107]
  s112 : Str P 112 [2, 39]
section
variable {P : Program} (T : Tys P) {n : Nat} {ds : List D}
include T
theorem ty_i3 (h : TyD P (n + 1) 3 ds) : ∃ i, ds = [.int .i64 i] ∧ i ≤ 9223372036854775807 := by
  obtain ⟨i, e, w⟩ := ty_int T.t3 h
  exact ⟨i, e, (wf_i64 w).2⟩
theorem ty_i2 (h : TyD P (n + 1) 2 ds) : ∃ i, ds = [.int .i64 i] ∧ i ≤ 9223372036854775807 := by
  obtain ⟨i, e, w⟩ := ty_int T.t2 h
  exact ⟨i, e, (wf_i64 w).2⟩
theorem ty_span (h : TyD P (n + 2) 104 ds) : ∃ s : Y.Span, ds = s.enc := by
  obtain ⟨a, b, rfl, h1, c, d, rfl, h2, rfl⟩ := ty_fields T.s104 h
  obtain ⟨x, rfl, _⟩ := ty_i3 T h1
  obtain ⟨y, rfl, _⟩ := ty_i3 T h2
  exact ⟨⟨x, y⟩, rfl⟩
theorem ty_set (h : TyD P (n + 4) 107 ds) : ∃ ss : List Y.Span, ds = [.list 2 (ss.map Y.Span.enc)] := by
  obtain ⟨a, b, rfl, h1, rfl⟩ := ty_fields T.s107 h
  obtain ⟨rows, rfl, _, hr⟩ := ty_slice T.t105 h1
  obtain ⟨ss, rfl, _⟩ := rows_map (enc := Y.Span.enc) (p := fun _ => True) (rows := rows) fun row hrow => by
    obtain ⟨s, e⟩ := ty_span T (hr row hrow)
    exact ⟨s, e, trivial⟩
  exact ⟨ss, by rw [T.z104]; rfl⟩
theorem ty_map (h : TyD P (n + 2) 28 ds) : ∃ m : List Int, ds = mapD1 m := by
  obtain ⟨rows, rfl, _, hr⟩ := ty_slice T.t28 h
  obtain ⟨m, rfl, _⟩ := rows_map (enc := i64D) (p := fun _ => True) (rows := rows) fun row hrow => by
    obtain ⟨s, e, _⟩ := ty_i3 T (hr row hrow)
    exact ⟨s, e, trivial⟩
  exact ⟨m, by rw [T.z3]; rfl⟩
theorem ty_box (h : TyD P (n + 5) 110 ds) : ∃ b : TBox, ds = boxD b := by
  obtain ⟨a1, b1, rfl, h1, a2, b2, rfl, h2, a3, b3, rfl, h3, a4, b4, rfl, h4, rfl⟩ := ty_fields T.s110 h
  obtain ⟨k, rfl, _⟩ := ty_i3 T h1
  obtain ⟨rs, rfl⟩ := ty_set T h2
  obtain ⟨zs, rfl⟩ := ty_set T h4
  obtain ⟨rows, rfl, _, hr⟩ := ty_slice T.t108 h3
  obtain ⟨ms, rfl, _⟩ := rows_map (enc := mapD1) (p := fun _ => True) (rows := rows) fun row hrow => by
    obtain ⟨s, e⟩ := ty_map T (hr row hrow)
    exact ⟨s, e, trivial⟩
  exact ⟨⟨k, rs, ms, zs⟩, by rw [T.z28]; rfl⟩
theorem ty_boxes (h : TyD P (n + 6) 25 ds) : ∃ l : List TBox, ds = [.list 4 (boxesD l)] := by
  obtain ⟨rows, rfl, _, hr⟩ := ty_slice T.t25 h
  obtain ⟨l, rfl, _⟩ := rows_map (enc := boxD) (p := fun _ => True) (rows := rows) fun row hrow => by
    obtain ⟨s, e⟩ := ty_box T (hr row hrow)
    exact ⟨s, e, trivial⟩
  exact ⟨l, by rw [T.z110]; rfl⟩
theorem ty_desc (h : TyD P (n + 7) 27 ds) : ∃ (d : Y.Descriptor) (l : List TBox), ds = d.enc ∧ d.Boxes = boxesD l ∧ d.Name.size ≤ 9223372036854775807 := by
  obtain ⟨a1, b1, rfl, h1, a2, b2, rfl, h2, a3, b3, rfl, h3, a4, b4, rfl, h4, a5, b5, rfl, h5, a6, b6, rfl, h6, a7, b7, rfl, h7, a8, b8, rfl, h8, rfl⟩ := ty_fields T.s27 h
  obtain ⟨x1, rfl, _⟩ := ty_int T.t24 h1
  obtain ⟨x2, rfl, hs⟩ := ty_str T.t9 h2
  obtain ⟨x3, rfl, _⟩ := ty_i3 T h3
  obtain ⟨x4, rfl, _⟩ := ty_i3 T h4
  obtain ⟨x5, rfl, _⟩ := ty_i3 T h5
  obtain ⟨x6, rfl, _⟩ := ty_i3 T h6
  obtain ⟨x7, rfl, _⟩ := ty_i3 T h7
  obtain ⟨l, rfl⟩ := ty_boxes T h8
  exact ⟨⟨x1, x2, x3, x4, x5, x6, x7, boxesD l⟩, l, rfl, rfl, by simp only [maxLen] at hs; simp only; omega⟩
theorem ty_choice (h : TyD P (n + 4) 32 ds) : ∃ (c : Y.Choice) (m : List Int), ds = c.enc ∧ c.Format.Map = mpD m ∧ c.Format.Rate ≤ 9223372036854775807 := by
  obtain ⟨a1, b1, rfl, h1, a2, b2, rfl, h2, rfl⟩ := ty_fields T.s32 h
  obtain ⟨a3, b3, rfl, h3, a4, b4, rfl, h4, a5, b5, rfl, h5, rfl⟩ := ty_fields T.s30 h1
  obtain ⟨x1, rfl, _⟩ := ty_i3 T h3
  obtain ⟨x2, rfl, q⟩ := ty_i3 T h4
  obtain ⟨m, rfl⟩ := ty_map T h5
  obtain ⟨x3, rfl, _⟩ := ty_i3 T h2
  exact ⟨⟨⟨x1, x2, mpD m⟩, x3⟩, m, rfl, rfl, q⟩
theorem ty_ratio (h : TyD P (n + 2) 39 ds) : ∃ r : Y.Ratio, ds = r.enc := by
  obtain ⟨a1, b1, rfl, h1, a2, b2, rfl, h2, rfl⟩ := ty_fields T.s39 h
  obtain ⟨x1, rfl, _⟩ := ty_i2 T h1
  obtain ⟨x2, rfl, _⟩ := ty_i2 T h2
  exact ⟨⟨x1, x2⟩, rfl⟩
theorem ty_seg (h : TyD P (n + 3) 112 ds) : ∃ s : Y.Segment, ds = s.enc := by
  obtain ⟨a1, b1, rfl, h1, a2, b2, rfl, h2, rfl⟩ := ty_fields T.s112 h
  obtain ⟨x1, rfl, _⟩ := ty_i2 T h1
  obtain ⟨r, rfl⟩ := ty_ratio T h2
  exact ⟨⟨x1, r⟩, rfl⟩
theorem ty_clock (h : TyD P (n + 5) 35 ds) : ∃ ss : List Y.Segment, ds = (Y.Clock.mk (ss.map Y.Segment.enc)).enc := by
  obtain ⟨a1, b1, rfl, h1, rfl⟩ := ty_fields T.s35 h
  obtain ⟨rows, rfl, _, hr⟩ := ty_slice T.t33 h1
  obtain ⟨ss, rfl, _⟩ := rows_map (enc := Y.Segment.enc) (p := fun _ => True) (rows := rows) fun row hrow => by
    obtain ⟨s, e⟩ := ty_seg T (hr row hrow)
    exact ⟨s, e, trivial⟩
  exact ⟨ss, by rw [T.z112]; rfl⟩
theorem ty_smp (h : TyD P (n + 2) 42 ds) : ∃ ss : List Int, ds = [.list 1 (ss.map i32D)] := by
  obtain ⟨rows, rfl, _, hr⟩ := ty_slice T.t42 h
  obtain ⟨m, rfl, _⟩ := rows_map (enc := i32D) (p := fun _ => True) (rows := rows) fun row hrow => by
    obtain ⟨s, e, _⟩ := ty_int T.t21 (hr row hrow)
    exact ⟨s, e, trivial⟩
  exact ⟨m, by rw [T.z21]⟩
theorem ty_block (h : TyD P (n + 3) 54 ds) : ∃ (c : Int) (tt : List Int), ds = (blk c tt).enc := by
  obtain ⟨a1, b1, rfl, h1, a2, b2, rfl, h2, rfl⟩ := ty_fields T.s54 h
  obtain ⟨x1, rfl, _⟩ := ty_i3 T h1
  obtain ⟨ss, rfl⟩ := ty_smp T h2
  exact ⟨x1, ss, rfl⟩
theorem ty_phase (h : TyD P (n + 3) 41 ds) : ∃ p : Y.Phase, ds = p.enc := by
  obtain ⟨a1, b1, rfl, h1, a2, b2, rfl, h2, a3, b3, rfl, h3, a4, b4, rfl, h4, rfl⟩ := ty_fields T.s41 h
  obtain ⟨r, rfl⟩ := ty_ratio T h1
  obtain ⟨x2, rfl, _⟩ := ty_i3 T h2
  obtain ⟨x3, rfl, _⟩ := ty_i2 T h3
  obtain ⟨x4, rfl, _⟩ := ty_i2 T h4
  exact ⟨⟨r, x2, x3, x4⟩, rfl⟩
theorem ty_ctl (h : TyD P (n + 2) 37 ds) : ∃ k : Y.Control, ds = k.enc := by
  obtain ⟨a1, b1, rfl, h1, a2, b2, rfl, h2, a3, b3, rfl, h3, a4, b4, rfl, h4, rfl⟩ := ty_fields T.s37 h
  obtain ⟨x1, rfl, _⟩ := ty_i3 T h1
  obtain ⟨x2, rfl, _⟩ := ty_i3 T h2
  obtain ⟨x3, rfl, _⟩ := ty_i3 T h3
  obtain ⟨x4, rfl, _⟩ := ty_i3 T h4
  exact ⟨⟨x1, x2, x3, x4⟩, rfl⟩
theorem ty_res (h : TyD P (n + 4) 44 ds) : ∃ (r : Y.Resampler) (ss : List Int), ds = r.enc ∧ r.Rest = ss.map i32D := by
  obtain ⟨a1, b1, rfl, h1, a2, b2, rfl, h2, a3, b3, rfl, h3, rfl⟩ := ty_fields T.s44 h
  obtain ⟨x1, rfl, _⟩ := ty_i3 T h1
  obtain ⟨p, rfl⟩ := ty_phase T h2
  obtain ⟨ss, rfl⟩ := ty_smp T h3
  exact ⟨⟨x1, p, ss.map i32D⟩, ss, rfl, rfl⟩
theorem ty_bridge (h : TyD P (n + 5) 46 ds) : ∃ (r : Y.Bridge) (ss : List Int), ds = r.enc ∧ r.Resample.Rest = ss.map i32D := by
  obtain ⟨a1, b1, rfl, h1, a2, b2, rfl, h2, a3, b3, rfl, h3, a4, b4, rfl, h4, a5, b5, rfl, h5, rfl⟩ := ty_fields T.s46 h
  obtain ⟨x1, rfl, _⟩ := ty_i3 T h1
  obtain ⟨k, rfl⟩ := ty_ctl T h2
  obtain ⟨r, ss, rfl, hr⟩ := ty_res T h3
  obtain ⟨x4, rfl, _⟩ := ty_i3 T h4
  obtain ⟨x5, rfl, _⟩ := ty_i3 T h5
  exact ⟨⟨x1, k, r, x4, x5⟩, ss, rfl, hr⟩
theorem ty_device (h : TyD P (n + 8) 48 ds) : ∃ (d : Y.Device) (l : List TBox) (m : List Int) (ss : List Y.Segment) (rest : List Int), ds = d.enc ∧ RawTy d l m ss rest := by
  obtain ⟨a1, b1, rfl, h1, a2, b2, rfl, h2, a3, b3, rfl, h3, a4, b4, rfl, h4, a5, b5, rfl, h5, a6, b6, rfl, h6, a7, b7, rfl, h7, a8, b8, rfl, h8, rfl⟩ := ty_fields T.s48 h
  obtain ⟨de, l, rfl, hb, hn⟩ := ty_desc T h1
  obtain ⟨c, m, rfl, hm, hr⟩ := ty_choice T h2
  obtain ⟨x3, rfl, q3⟩ := ty_i3 T h3
  obtain ⟨x4, rfl, _⟩ := ty_i3 T h4
  obtain ⟨ss, rfl⟩ := ty_clock T h5
  obtain ⟨b, rfl⟩ := ty_bool T.t4 h6
  obtain ⟨x7, rfl, _⟩ := ty_i2 T h7
  obtain ⟨br, rest, rfl, hrr⟩ := ty_bridge T h8
  exact ⟨⟨de, c, x3, x4, ⟨ss.map Y.Segment.enc⟩, b, x7, br⟩, l, m, ss, rest, rfl, ⟨hb, hn, hm, rfl, hrr, hr, q3⟩⟩
end
theorem tys : Tys Tryz.prog where
  t2 := Tryz.underlying2
  t3 := Tryz.underlying3
  t4 := Tryz.underlying4
  t9 := Tryz.underlying9
  t21 := Tryz.underlying21
  t24 := Tryz.underlying24
  t25 := Tryz.underlying25
  t28 := Tryz.underlying28
  t33 := Tryz.underlying33
  t42 := Tryz.underlying42
  t105 := Tryz.underlying105
  t108 := Tryz.underlying108
  z3 := by kernel_rfl
  z21 := by kernel_rfl
  z28 := by kernel_rfl
  z104 := by kernel_rfl
  z110 := by kernel_rfl
  z112 := by kernel_rfl
  s27 := ⟨_, Tryz.underlying27, by kernel_rfl, by kernel_rfl⟩
  s30 := ⟨_, Tryz.underlying30, by kernel_rfl, by kernel_rfl⟩
  s32 := ⟨_, Tryz.underlying32, by kernel_rfl, by kernel_rfl⟩
  s35 := ⟨_, Tryz.underlying35, by kernel_rfl, by kernel_rfl⟩
  s37 := ⟨_, Tryz.underlying37, by kernel_rfl, by kernel_rfl⟩
  s39 := ⟨_, Tryz.underlying39, by kernel_rfl, by kernel_rfl⟩
  s41 := ⟨_, Tryz.underlying41, by kernel_rfl, by kernel_rfl⟩
  s44 := ⟨_, Tryz.underlying44, by kernel_rfl, by kernel_rfl⟩
  s46 := ⟨_, Tryz.underlying46, by kernel_rfl, by kernel_rfl⟩
  s48 := ⟨_, Tryz.underlying48, by kernel_rfl, by kernel_rfl⟩
  s54 := ⟨_, Tryz.underlying54, by kernel_rfl, by kernel_rfl⟩
  s104 := ⟨_, Tryz.underlying104, by kernel_rfl, by kernel_rfl⟩
  s107 := ⟨_, Tryz.underlying107, by kernel_rfl, by kernel_rfl⟩
  s110 := ⟨_, Tryz.underlying110, by kernel_rfl, by kernel_rfl⟩
  s112 := ⟨_, Tryz.underlying112, by kernel_rfl, by kernel_rfl⟩
end Go.Vm
