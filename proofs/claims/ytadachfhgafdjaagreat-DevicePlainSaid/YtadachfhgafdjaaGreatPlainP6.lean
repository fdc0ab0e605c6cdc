/- PlainP: part 6 of the texts that the proof of plain_holds needs: an evaluator of the program on data, its soundness, the equations of the functions, the plain laws. Conditions: none. -/
import Derived.Test.YtadachfhgafdjaaGreatPlainP5
set_option linter.unusedVariables false
set_option linter.unusedSimpArgs false
namespace Go.Vm
open Go.Proofs
theorem mkR_in {a b : Int} (ha : 1 ≤ a) (hb : 1 ≤ b) (ha' : a ≤ 68719476736) (hb' : b ≤ 68719476736) : (mkR a b).2 = 0 ∧ (mkR a b).1.Num ≤ a ∧ (mkR a b).1.Den ≤ b := by
  have hp := Nat.gcd_pos_of_pos_left b.toNat (show 0 < a.toNat by omega)
  unfold mkR
  rw [if_neg (by omega)]
  generalize Nat.gcd a.toNat b.toNat = g at *
  have h1 : a / (g : Int) ≤ a := Int.ediv_le_self _ (by omega)
  have h2 : b / (g : Int) ≤ b := Int.ediv_le_self _ (by omega)
  rw [if_neg (by omega)]
  exact ⟨rfl, h1, h2⟩
theorem RatOk.pos {r : Y.Ratio} (h : RatOk r) : 1 ≤ r.Num ∧ 1 ≤ r.Den := ⟨h.1, h.2.1⟩
structure Fit (d : Y.Device) : Prop where
  r0 : 1000 ≤ d.Choice.Format.Rate
  r1 : d.Choice.Format.Rate ≤ 768000
  m0 : 8000 ≤ d.Rate
  m1 : d.Rate ≤ 192000
  p0 : 16 ≤ d.Period
  p1 : d.Period ≤ 8192
  dir : d.Descriptor.Direction = 1 ∨ d.Descriptor.Direction = 2
  l0 : 0 ≤ d.Descriptor.Latency
  l1 : d.Descriptor.Latency ≤ 1048576
  d0 : 0 ≤ d.Descriptor.Drift
  d1 : d.Descriptor.Drift ≤ 2048
  j0 : 0 ≤ d.Descriptor.Jitter
  j1 : d.Descriptor.Jitter ≤ 4096
def inR (d : Y.Device) : Y.Ratio := if d.Descriptor.Direction = 1 then ⟨d.Period, 1⟩ else (mkR (d.Period * d.Choice.Format.Rate) d.Rate).1
def jitR (d : Y.Device) : Int := if d.Descriptor.Direction = 1 then (ceR d.Descriptor.Jitter (baseR d)).1 + 1 else d.Descriptor.Jitter + 1
section
variable {d : Y.Device} {l : List TBox} {m : List Int} {ss : List Y.Segment} {rest : List Int}
theorem Fit.nom (h : Fit d) : RatOk (nomR d).1 ∧ (nomR d).2 = 0 ∧ (nomR d).1.Num * d.Rate = d.Choice.Format.Rate * (nomR d).1.Den ∧ (nomR d).1.Num ≤ d.Choice.Format.Rate ∧ (nomR d).1.Den ≤ d.Rate := by
  obtain ⟨h1, h2, h3⟩ := mkR_in (a := d.Choice.Format.Rate) (b := d.Rate) (by have := h.r0; omega) (by have := h.m0; omega) (by have := h.r1; omega) (by have := h.m1; omega)
  obtain ⟨h4, h5, _⟩ := mkR_ok h1
  exact ⟨h4, h1, h5, h2, h3⟩
theorem Fit.base (h : Fit d) : RatOk (baseR d) ∧ (baseR d).Num ≤ 768000 ∧ (baseR d).Den ≤ 768000 ∧
    (if d.Descriptor.Direction = 1 then baseR d = ⟨(nomR d).1.Den, (nomR d).1.Num⟩ else baseR d = (nomR d).1) := by
  obtain ⟨h1, _, _, h2, h3⟩ := h.nom
  have := h.r1
  have := h.m1
  unfold baseR invR
  by_cases c : d.Descriptor.Direction = 1
  · rw [if_pos c, if_pos c, if_pos h1]
    exact ⟨h1.inv, by simp only; omega, by simp only; omega, rfl⟩
  · rw [if_neg c, if_neg c]
    exact ⟨h1, by omega, by omega, rfl⟩
theorem Fit.inp (h : Fit d) : RatOk (inR d) ∧ (if d.Descriptor.Direction = 1 then inR d = ⟨d.Period, 1⟩ else (inR d).Num * d.Rate = d.Period * d.Choice.Format.Rate * (inR d).Den) ∧ (inR d).Den ≤ 192000 ∧ (inR d).Num ≤ 6291456000 := by
  have := h.r0; have := h.r1; have := h.m0; have := h.m1; have := h.p0; have := h.p1
  have hm : d.Period * d.Choice.Format.Rate ≤ 8192 * 768000 := Int.mul_le_mul h.p1 h.r1 (by omega) (by omega)
  have hm0 : 1 ≤ d.Period * d.Choice.Format.Rate := by
    have : 1 * 1 ≤ d.Period * d.Choice.Format.Rate := Int.mul_le_mul (by omega) (by omega) (by omega) (by omega)
    omega
  unfold inR
  by_cases c : d.Descriptor.Direction = 1
  · rw [if_pos c, if_pos c]
    exact ⟨⟨by simp only; omega, by simp only; omega, by simp only; omega, by simp only; omega, by simp⟩, rfl, by simp only; omega, by simp only; omega⟩
  · rw [if_neg c, if_neg c]
    obtain ⟨h1, h2, h3⟩ := mkR_in (a := d.Period * d.Choice.Format.Rate) (b := d.Rate) hm0 (by omega) (by omega) (by omega)
    obtain ⟨h4, h5, _⟩ := mkR_ok h1
    exact ⟨h4, h5, by omega, by omega⟩
theorem unit_inputs_ok (hf : Fit d) : device_unit_inputs ⟨d⟩ = some (e_Ratio (inR d)) := by
  have := hf.r0; have := hf.r1; have := hf.m0; have := hf.m1; have := hf.p0; have := hf.p1
  have hm : d.Period * d.Choice.Format.Rate ≤ 8192 * 768000 := Int.mul_le_mul hf.p1 hf.r1 (by omega) (by omega)
  have hm0 : 0 ≤ d.Period * d.Choice.Format.Rate := Int.mul_nonneg (by omega) (by omega)
  rw [device_unit_inputs_eq, device_unit_playback_eq, o_B_e]
  show br (d.Descriptor.Direction == 1) (some (e_Ratio ⟨d.Period, 1⟩)) (o_Ratio_I64 (ratio_Make (IntKind.i64.wrap (d.Period * d.Choice.Format.Rate)) d.Rate) _) = _
  rw [w64 (by omega) (by omega), ratio_Make_ok (by omega) (by omega), o_Ratio_I64_e]
  unfold inR
  by_cases c : d.Descriptor.Direction = 1
  · rw [br_eq c, if_pos c]
  · rw [br_ne c, if_neg c]
theorem ceR_in {n : Int} {r : Y.Ratio} (hr : RatOk r) (h0 : 0 ≤ n) (h1 : n ≤ 67108864) : (ceR n r).2 = 0 ∧ 0 ≤ (ceR n r).1 ∧ (ceR n r).1 ≤ n * r.Num ∧ (ceR n r).1 * r.Den < n * r.Num + r.Den ∧ n * r.Num ≤ (ceR n r).1 * r.Den := by
  obtain ⟨nu, de, e1, e2, p1, p2, p3, p4⟩ := rat_nat hr
  obtain ⟨k, rfl⟩ : ∃ k : Nat, n = (k : Int) := ⟨n.toNat, by omega⟩
  obtain ⟨c1, c2⟩ := ce_fl (n := (k : Int)) hr
  obtain ⟨f1, f2⟩ := flq_nat (u := k) e1 e2
  have hb : k * nu ≤ 67108864 * 68719476736 := Nat.mul_le_mul (by omega) p3
  have hd := Nat.div_le_self (k * nu) de
  have hm := Nat.mod_lt (k * nu) p2
  have hdm := Nat.div_add_mod (k * nu) de
  have hle : -flq (-(k : Int)) r ≤ (k * nu : Nat) ∧ 0 ≤ -flq (-(k : Int)) r ∧ -flq (-(k : Int)) r * de < (k * nu : Nat) + de ∧ ((k * nu : Nat) : Int) ≤ -flq (-(k : Int)) r * de := by
    rw [c1, f1, f2]
    generalize hq : k * nu / de = q at *
    generalize k * nu % de = w at *
    generalize hkn : k * nu = kn at *
    split
    · have : kn ≠ 0 := fun e => by subst e; omega
      have e : ((q : Int) + 1) * de = ((de * q : Nat) : Int) + de := by rw [Int.add_mul, Int.one_mul, mulN, Nat.mul_comm]
      rw [e]
      refine ⟨?_, by omega, by omega, by omega⟩
      by_cases h : q + 1 ≤ kn
      · omega
      · exfalso
        have : q = kn := by omega
        subst this
        have : q ≤ de * q := Nat.le_mul_of_pos_left _ p2
        omega
    · rw [mulN, Nat.mul_comm]
      exact ⟨by omega, by omega, by omega, by omega⟩
  rw [e1, e2, mulN]
  unfold ceR
  rw [if_neg (not_not_intro hr), if_neg (by omega), if_pos ⟨by omega, by omega⟩]
  exact ⟨rfl, hle.2.1, hle.1, hle.2.2.1, hle.2.2.2⟩
theorem jit_in (hf : Fit d) : 1 ≤ jitR d ∧ jitR d ≤ 786433 := by
  obtain ⟨h1, h2, h3, h4⟩ := hf.base
  have := hf.j0; have := hf.j1; have := hf.m0; have := hf.m1; have := hf.r0; have := hf.r1
  unfold jitR
  by_cases c : d.Descriptor.Direction = 1
  · rw [if_pos c]
    rw [if_pos c] at h4
    obtain ⟨g1, g2, g3, g4, g5⟩ := ceR_in (n := d.Descriptor.Jitter) h1 (by omega) (by omega)
    refine ⟨by omega, ?_⟩
    obtain ⟨n1, _, n3, n4, n5⟩ := hf.nom
    rw [h4] at g4 g5
    simp only at g4 g5
    have hp := n1.pos
    rw [h4]
    generalize (ceR d.Descriptor.Jitter ⟨(nomR d).1.Den, (nomR d).1.Num⟩).1 = x at *
    generalize (nomR d).1.Num = nn at *
    generalize (nomR d).1.Den = dd at *
    have e1 : x * nn * d.Rate < (d.Descriptor.Jitter * dd + nn) * d.Rate := Int.mul_lt_mul_of_pos_right g4 (by omega)
    have e2 : x * nn * d.Rate = x * d.Choice.Format.Rate * dd := by rw [Int.mul_assoc, n3, Int.mul_assoc]
    have e3 : (d.Descriptor.Jitter * dd + nn) * d.Rate = (d.Descriptor.Jitter * d.Rate + d.Choice.Format.Rate) * dd := by
      rw [Int.add_mul, Int.add_mul, n3, Int.mul_assoc, Int.mul_assoc, Int.mul_comm dd]
    rw [e2, e3] at e1
    have e4 : x * d.Choice.Format.Rate < d.Descriptor.Jitter * d.Rate + d.Choice.Format.Rate := Int.lt_of_mul_lt_mul_right e1 (by omega)
    have e5 : d.Descriptor.Jitter * d.Rate ≤ 4096 * 192000 := Int.mul_le_mul (by omega) (by omega) (by omega) (by omega)
    by_cases hx : x ≤ 786432
    · omega
    · exfalso
      have e6 : 786433 * d.Choice.Format.Rate ≤ x * d.Choice.Format.Rate := Int.mul_le_mul_of_nonneg_right (by omega) (by omega)
      omega
  · rw [if_neg c]
    omega
theorem unit_jitter_ok (ht : DevTy d l m ss rest) (hf : Fit d) : device_unit_jitter ⟨d⟩ = some (e_I64 (jitR d)) := by
  rw [device_unit_jitter_eq, device_unit_playback_eq, o_B_e]
  show br (!(d.Descriptor.Direction == 1)) (some (e_I64 (IntKind.i64.wrap (d.Descriptor.Jitter + 1)))) (o_Ratio (device_unit_base ⟨d⟩) fun x2 => o_I64_I64 (ratio_Ceil d.Descriptor.Jitter x2) _) = _
  rw [unit_base_ok ht, o_Ratio_e, ratio_Ceil_ok, o_I64_I64_e]
  have hb := jit_in hf
  have := hf.j0; have := hf.j1
  unfold jitR at *
  by_cases c : d.Descriptor.Direction = 1
  · rw [if_pos c] at hb ⊢
    rw [c, beq_self_eq_true, Bool.not_true, br_f, w64 (by omega) (by omega)]
  · rw [if_neg c] at hb ⊢
    rw [beq_eq_false_iff_ne.2 c, Bool.not_false, br_t, w64 (by omega) (by omega)]
end
end Go.Vm
set_option linter.unusedVariables false
set_option linter.unusedSimpArgs false
namespace Go.Vm
open Go.Proofs
theorem spansB_some {p : Int} : ∀ {ss : List Y.Span}, spansB (some p) ss = true → ∀ t ∈ ss, p < t.Lo ∧ spanB t = true
  | [], _, t, ht => by cases ht
  | s :: r, h, t, ht => by
    simp only [spansB, Bool.and_eq_true, decide_eq_true_eq] at h
    obtain ⟨h1, h2, h3⟩ := h
    have hs := spanB_rng h1
    rcases List.mem_cons.1 ht with rfl | ht
    · exact ⟨by omega, h1⟩
    · obtain ⟨a, b⟩ := spansB_some h3 t ht
      exact ⟨by omega, b⟩
theorem spansB_last {o : Option Int} : ∀ {ss : List Y.Span}, spansB o ss = true → ∀ t ∈ ss, ∀ h : ss ≠ [], t.Hi ≤ (ss.getLast h).Hi
  | [], _, t, ht, h => by cases ht
  | s :: r, hb, t, ht, h => by
    have h2 : spansB (some s.Hi) r = true := by
      cases o <;> simp only [spansB, Bool.and_eq_true] at hb
      · exact hb.2
      · exact hb.2.2
    cases r with
    | nil =>
      rcases List.mem_cons.1 ht with rfl | ht
      · exact Int.le_refl _
      · cases ht
    | cons u r =>
      rw [List.getLast_cons (by simp)]
      rcases List.mem_cons.1 ht with rfl | ht
      · have h3 := spansB_last h2 u List.mem_cons_self (by simp)
        obtain ⟨a, b⟩ := spansB_some h2 u List.mem_cons_self
        have := spanB_rng b
        omega
      · exact spansB_last h2 t ht (by simp)
theorem setB_len {ss : List Y.Span} (h : setB ss = true) : ss.length ≤ 64 := by
  simp only [setB, Bool.and_eq_true, decide_eq_true_eq] at h
  exact h.2
theorem withB_set {ss : List Y.Span} {lo hi : Int} (h : withB ss lo hi = true) : setB ss = true := by
  cases ss with
  | nil => cases h
  | cons s r =>
    simp only [withB, Bool.and_eq_true] at h
    exact h.1
theorem withB_has {ss : List Y.Span} {lo hi n : Int} (h : withB ss lo hi = true) (hn : hasB ss n = true) : lo ≤ n ∧ n ≤ hi := by
  cases ss with
  | nil => cases h
  | cons s r =>
    simp only [withB, Bool.and_eq_true, decide_eq_true_eq] at h
    obtain ⟨h1, h2, h3⟩ := h
    simp only [hasB, Bool.and_eq_true, List.any_eq_true, inSpan, decide_eq_true_eq] at hn
    obtain ⟨_, t, ht, h4, h5⟩ := hn
    simp only [setB, Bool.and_eq_true] at h1
    have h6 := spansB_last h1.1 t ht (by simp)
    have e : (s :: r).getLast (by simp) = (s :: r)[r.length]'(by simp) := by rw [List.getLast_eq_getElem]; simp
    rw [e] at h6
    have h7 : s.Lo ≤ t.Lo := by
      rcases List.mem_cons.1 ht with rfl | ht
      · exact Int.le_refl _
      · have hb := h1.1
        simp only [spansB, Bool.and_eq_true] at hb
        have := spansB_some hb.2 t ht
        have := spanB_rng hb.1
        omega
    exact ⟨by omega, by omega⟩
theorem allI_all {β : Type} {p : Nat → β → Bool} : ∀ {ss : List β} {i : Nat}, allI p i ss = true → ∀ s ∈ ss, ∃ k, p k s = true
  | [], _, _, s, hs => by cases hs
  | x :: r, i, h, s, hs => by
    simp only [allI, Bool.and_eq_true] at h
    rcases List.mem_cons.1 hs with rfl | hs
    · exact ⟨i, h.1⟩
    · exact allI_all h.2 s hs
theorem chB_rng {m : List Int} (h : chB m = true) : 1 ≤ m.length ∧ m.length ≤ 8 ∧ ∀ x ∈ m, 1 ≤ x ∧ x ≤ 8 := by
  simp only [chB, Bool.and_eq_true, decide_eq_true_eq] at h
  refine ⟨h.1.1, h.1.2, fun x hx => ?_⟩
  obtain ⟨k, hk⟩ := allI_all h.2 x hx
  simp only [chOk, Bool.and_eq_true, decide_eq_true_eq] at hk
  exact ⟨hk.1, hk.2.1⟩
structure BoxFit (b : TBox) : Prop where
  rs : withB b.rates 1000 768000 = true
  sz : withB b.sizes 1 65536 = true
  mn : 1 ≤ b.maps.length ∧ b.maps.length ≤ 16
  ms : ∀ m ∈ b.maps, chB m = true
theorem boxB_fit {b : TBox} (h : boxB b = true) : BoxFit b := by
  simp only [boxB, Bool.and_eq_true, len16, decide_eq_true_eq] at h
  obtain ⟨_, _, h1, h2, h3, h4⟩ := h
  refine ⟨h1, h2, h4, fun m hm => ?_⟩
  obtain ⟨k, hk⟩ := allI_all h3 m hm
  simp only [mapOk, Bool.and_eq_true] at hk
  exact hk.1
theorem offB_fit {l : List TBox} (h : offB l = true) : l.length ≤ 64 ∧ ∀ b ∈ l, BoxFit b := by
  simp only [offB, Bool.and_eq_true, decide_eq_true_eq, List.all_eq_true] at h
  exact ⟨h.2, fun b hb => boxB_fit (h.1 b hb)⟩
theorem choB_fit {l : List TBox} {c : Y.Choice} {m : List Int} (h : choB l c m = true) : 1000 ≤ c.Format.Rate ∧ c.Format.Rate ≤ 768000 ∧ chB m = true ∧ 1 ≤ c.Format.Kind ∧ c.Format.Kind ≤ 7 ∧ 1 ≤ c.Size ∧ c.Size ≤ 65536 := by
  simp only [choB, Bool.and_eq_true, List.any_eq_true] at h
  obtain ⟨h1, b, hb, h2⟩ := h
  have hf := (offB_fit h1).2 b hb
  simp only [chIn, Bool.and_eq_true, decide_eq_true_eq, kindB] at h2
  obtain ⟨⟨k1, k2, _⟩, h3, h4, h5⟩ := h2
  have r := withB_has hf.rs h3
  have s := withB_has hf.sz h5
  exact ⟨r.1, r.2, hf.ms m h4, k1, k2, s.1, s.2⟩
theorem numsB_fit {d : Y.Descriptor} (h : numsB d = true) : 0 ≤ d.Latency ∧ d.Latency ≤ 1048576 ∧ 0 ≤ d.Drift ∧ d.Drift ≤ 2048 ∧ 0 ≤ d.Jitter ∧ d.Jitter ≤ 4096 := by
  simp only [numsB, Bool.and_eq_true, decide_eq_true_eq] at h
  omega
theorem descB_fit {d : Y.Descriptor} {l : List TBox} (h : descB d l = true) : (d.Direction = 1 ∨ d.Direction = 2) ∧ (0 ≤ d.Latency ∧ d.Latency ≤ 1048576 ∧ 0 ≤ d.Drift ∧ d.Drift ≤ 2048 ∧ 0 ≤ d.Jitter ∧ d.Jitter ≤ 4096) ∧ l.length ≤ 8 ∧ (∀ b ∈ l, BoxFit b) := by
  simp only [descB, Bool.and_eq_true, Bool.or_eq_true, beq_iff_eq, decide_eq_true_eq] at h
  obtain ⟨_, h1, h2, h3, h4⟩ := h
  exact ⟨h1, numsB_fit h2, h3.2, (offB_fit h4).2⟩
theorem fit_of {d : Y.Device} {l : List TBox} {m : List Int} (h1 : descB d.Descriptor l = true) (h2 : choB l d.Choice m = true) (h3 : setPB d = true) : Fit d := by
  obtain ⟨a1, ⟨a2, a3, a4, a5, a6, a7⟩, a8, a9⟩ := descB_fit h1
  obtain ⟨b1, b2, _⟩ := choB_fit h2
  simp only [setPB, Bool.and_eq_true, decide_eq_true_eq] at h3
  obtain ⟨c1, c2, c3, c4⟩ := h3
  exact ⟨b1, b2, c1, c2, c3, c4, a1, a2, a3, a4, a5, a6, a7⟩
theorem few_of {d : Y.Device} {l : List TBox} {m : List Int} {ss : List Y.Segment} {rest : List Int} (h1 : descB d.Descriptor l = true) (h2 : choB l d.Choice m = true) (h3 : clockB ss = true) (h4 : Few rest) : FewDev l m ss rest := by
  obtain ⟨a1, a2, a8, a9⟩ := descB_fit h1
  obtain ⟨b1, b2, b3, _⟩ := choB_fit h2
  have := chB_rng b3
  simp only [clockB, Bool.and_eq_true, decide_eq_true_eq] at h3
  unfold Few at *
  refine ⟨by unfold Few; omega, fun b hb => ?_, by unfold Few; omega, by unfold Few; omega, h4⟩
  have f := a9 b hb
  have f1 := setB_len (withB_set f.rs)
  have f2 := setB_len (withB_set f.sz)
  have f3 := f.mn
  unfold Few
  refine ⟨by omega, by omega, by omega, fun x hx => ?_⟩
  have := chB_rng (f.ms x hx)
  omega
theorem resB_few {r : Y.Resampler} {rest : List Int} (h : resB r rest = true) : rest.length ≤ 524288 := by
  obtain ⟨h1, h2, h3, h4⟩ := resB_ch h
  obtain ⟨q, hq⟩ : ∃ q : Nat, r.Channels = (q : Int) := ⟨r.Channels.toNat, by omega⟩
  rw [hq, toNatN] at h3 h4
  have hd := Nat.div_add_mod rest.length q
  have : q * (rest.length / q) ≤ 8 * 65536 := Nat.mul_le_mul (by omega) h4
  omega
structure DevFit (d : Y.Device) (l : List TBox) (m : List Int) (ss : List Y.Segment) (rest : List Int) : Prop where
  fit : Fit d
  few : FewDev l m ss rest
  ck : clockB ss = true
  s0 : 0 ≤ d.Since
  s1 : d.Since ≤ 1099511627776
  br : bridgeB d.Bridge rest = true
  ch : d.Bridge.Resample.Channels = (m.length : Int)
  base : d.Bridge.Resample.Phase.Base = baseR d
  mp : chB m = true
theorem devB_fit {d : Y.Device} {l : List TBox} {m : List Int} {ss : List Y.Segment} {rest : List Int} (h : devB d l m ss rest = true) : DevFit d l m ss rest := by
  simp only [devB, tailB, Bool.and_eq_true, decide_eq_true_eq, beq_iff_eq] at h
  obtain ⟨h1, h2, h3, h4, h5, h6, h7, h8, h9, h10, _⟩ := h
  have hr : resB d.Bridge.Resample rest = true := by
    simp only [bridgeB, Bool.and_eq_true] at h7
    exact h7.1
  have hl := resB_few hr
  refine ⟨fit_of h1 h2 h3, few_of h1 h2 h4 (by unfold Few; omega), h4, by omega, by omega, h7, h8, ?_, (choB_fit h2).2.2.1⟩
  cases hb : d.Bridge.Resample.Phase.Base
  cases hc : baseR d
  rw [hb, hc] at h9 h10
  simp only at h9 h10
  rw [h9, h10]
theorem own_of {d : Y.Device} {l : List TBox} {m : List Int} {ss : List Y.Segment} {rest : List Int} (ht : DevTy d l m ss rest) (h : devB d l m ss rest = true) : device_own d = some (e_Device d) := device_own_ok ht (devB_fit h).few
end Go.Vm
set_option linter.unusedVariables false
set_option linter.unusedSimpArgs false
namespace Go.Vm
open Go.Proofs
def stepP (p : Y.Phase) : Int := p.Base.Num * (65536 + p.Adjust)
def partsP (p : Y.Phase) : Int := p.Base.Den * 65536
def aheadP (p : Y.Phase) (n : Int) : Int := p.Frac + n * stepP p
structure PhFit (p : Y.Phase) : Prop where
  ok : RatOk p.Base
  n1 : p.Base.Num ≤ 768000
  d1 : p.Base.Den ≤ 768000
  a0 : -4096 ≤ p.Adjust
  a1 : p.Adjust ≤ 4096
  p0 : 0 ≤ p.Pos
  p1 : p.Pos ≤ 1125899906842624
  f0 : 0 ≤ p.Frac
  f1 : p.Frac < p.Base.Den * 65536
theorem phaseB_fit {p : Y.Phase} (h : phaseB p = true) : PhFit p := by
  simp only [phaseB, Bool.and_eq_true, decide_eq_true_eq] at h
  obtain ⟨h1, h2, h3, h4, h5, h6, h7, h8, h9⟩ := h
  exact ⟨h1, h2, h3, h4, h5, h6, h7, h8, h9⟩
theorem PhFit.valid {p : Y.Phase} (h : PhFit p) : phaseB p = true := by
  simp only [phaseB, Bool.and_eq_true, decide_eq_true_eq]
  exact ⟨h.ok, h.n1, h.d1, h.a0, h.a1, h.p0, h.p1, h.f0, h.f1⟩
section
variable {p : Y.Phase}
theorem PhFit.step (h : PhFit p) : 61440 ≤ stepP p ∧ stepP p ≤ 53477376000 := by
  have := h.ok.pos
  have a1 : 1 * 61440 ≤ p.Base.Num * (65536 + p.Adjust) := Int.mul_le_mul (by omega) (by have := h.a0; omega) (by omega) (by omega)
  have a2 : p.Base.Num * (65536 + p.Adjust) ≤ 768000 * 69632 := Int.mul_le_mul h.n1 (by have := h.a1; omega) (by have := h.a0; omega) (by omega)
  unfold stepP
  omega
theorem PhFit.parts (h : PhFit p) : 65536 ≤ partsP p ∧ partsP p ≤ 50331648000 ∧ p.Frac < partsP p := by
  have := h.ok.pos
  have := h.d1
  have := h.f1
  unfold partsP
  omega
theorem PhFit.ahead (h : PhFit p) {n : Int} (h0 : 0 ≤ n) (h1 : n ≤ 65537) : 0 ≤ aheadP p n ∧ aheadP p n ≤ 3504800000000000 := by
  obtain ⟨s0, s1⟩ := h.step
  obtain ⟨q0, q1, q2⟩ := h.parts
  have := h.f0
  have a1 : n * stepP p ≤ 65537 * 53477376000 := Int.mul_le_mul h1 s1 (by omega) (by omega)
  have a2 : 0 ≤ n * stepP p := Int.mul_nonneg h0 (by omega)
  unfold aheadP
  omega
theorem parts_wP (h : PhFit p) : IntKind.i64.wrap (p.Base.Den * 65536) = partsP p := by
  obtain ⟨q0, q1, q2⟩ := h.parts
  unfold partsP at *
  exact w64 (by omega) (by omega)
theorem phase_ahead_ok (h : PhFit p) {n : Int} (h0 : 0 ≤ n) (h1 : n ≤ 65537) : phase_ahead p n = some (e_I64 (aheadP p n)) := by
  obtain ⟨a0, a1⟩ := h.ahead h0 h1
  have := h.ok.pos
  have := h.a0; have := h.a1; have := h.f0; have := h.f1; have := h.d1
  have b1 : n * p.Base.Num ≤ 65537 * 768000 := Int.mul_le_mul h1 h.n1 (by omega) (by omega)
  have b2 : 0 ≤ n * p.Base.Num := Int.mul_nonneg h0 (by omega)
  have e : n * p.Base.Num * (65536 + p.Adjust) = n * stepP p := by unfold stepP; rw [Int.mul_assoc]
  have : p.Frac + n * stepP p = aheadP p n := rfl
  rw [phase_ahead_eq, w64 (n := n * p.Base.Num) (by omega) (by omega), w64 (n := 65536 + p.Adjust) (by omega) (by omega), e, w64 (n := n * stepP p) (by omega) (by omega), this, w64 (by omega) (by omega)]
theorem phase_parts_ok (h : PhFit p) : phase_parts p = some (e_I64 (partsP p)) := by rw [phase_parts_eq, parts_wP h]
theorem divP (h : PhFit p) {x : Int} (h0 : 0 ≤ x) : x.tdiv (partsP p) = x / partsP p ∧ x.tmod (partsP p) = x % partsP p ∧ 0 ≤ x / partsP p ∧ x / partsP p ≤ x ∧ 0 ≤ x % partsP p ∧ x % partsP p < partsP p := by
  obtain ⟨q0, q1, q2⟩ := h.parts
  exact ⟨Int.tdiv_eq_ediv_of_nonneg h0, Int.tmod_eq_emod_of_nonneg h0, Int.ediv_nonneg h0 (by omega), Int.ediv_le_self _ h0, Int.emod_nonneg _ (by omega), Int.emod_lt_of_pos _ (by omega)⟩
def atR (p : Y.Phase) (n : Int) : Int × Int × Int := if phaseB p = true then if n < 0 ∨ n > 65536 then (0, 0, 2) else (p.Pos + aheadP p n / partsP p, aheadP p n % partsP p, 0) else (0, 0, 1)
theorem phase_check_ok (p : Y.Phase) (n : Int) : phase_check p n = some (e_I64 (if phaseB p = true then if n < 0 ∨ n > 65536 then 2 else 0 else 1)) := by
  rw [phase_check_eq, phase_Valid_ok, o_B_e]
  cases hb : phaseB p with
  | false => rfl
  | true =>
    rw [Bool.not_true, br_f, if_pos rfl]
    by_cases h1 : n < 0
    · rw [br_p h1, if_pos (.inl h1)]
    · rw [br_n h1]
      by_cases h2 : n > 65536
      · rw [br_p h2, if_pos (.inr h2)]
      · rw [br_n h2, if_neg (by omega)]
theorem phase_At_ok (p : Y.Phase) (n : Int) : phase_At p n = some (e_I64_I64_I64 (atR p n).1 (atR p n).2.1 (atR p n).2.2) := by
  rw [phase_At_eq, phase_check_ok, o_I64_e]
  unfold atR
  cases hb : phaseB p with
  | false => rfl
  | true =>
    have h := phaseB_fit hb
    rw [if_pos rfl, if_pos rfl]
    by_cases h1 : n < 0 ∨ n > 65536
    · rw [if_pos h1, if_pos h1]; rfl
    · obtain ⟨a0, a1⟩ := h.ahead (n := n) (by omega) (by omega)
      obtain ⟨q0, q1, q2⟩ := h.parts
      obtain ⟨e1, e2, e3, e4, e5, e6⟩ := divP h a0
      have := h.p0; have := h.p1
      rw [if_neg h1, if_neg h1, br_eq' rfl, phase_ahead_ok h (by omega) (by omega), o_I64_e, phase_parts_ok h, o_I64_e, o_I64_e, br_n (by omega), br_n (by omega), e1, e2, w64 (n := aheadP p n / partsP p) (by omega) (by omega), w64 (by omega) (by omega)]
def zPhase : Y.Phase := ⟨⟨0, 0⟩, 0, 0, 0⟩
def advR (p : Y.Phase) (n : Int) : Y.Phase × Int := if (atR p n).2.2 = 0 then if (atR p n).1 > 1125899906842624 then (zPhase, 2) else (⟨p.Base, p.Adjust, (atR p n).1, (atR p n).2.1⟩, 0) else (zPhase, (atR p n).2.2)
theorem phase_Advance_ok (p : Y.Phase) (n : Int) : phase_Advance p n = some (e_Phase_I64 (advR p n).1 (advR p n).2) := by
  rw [phase_Advance_eq, phase_At_ok, o_I64_I64_I64_e]
  unfold advR
  by_cases h : (atR p n).2.2 = 0
  · rw [br_eq h, if_pos h]
    by_cases h1 : (atR p n).1 > 1125899906842624
    · rw [br_p h1, if_pos h1]; rfl
    · rw [br_n h1, if_neg h1, br_eq' h]
  · rw [br_ne h, br_ne' h, if_neg h]; rfl
def retR (p : Y.Phase) (n : Int) : Y.Phase × Int := if phaseB p = true then if n < -4096 ∨ n > 4096 then (zPhase, 2) else (⟨p.Base, n, p.Pos, p.Frac⟩, 0) else (zPhase, 1)
theorem phase_Retune_ok (p : Y.Phase) (n : Int) : phase_Retune p n = some (e_Phase_I64 (retR p n).1 (retR p n).2) := by
  rw [phase_Retune_eq, phase_Valid_ok, o_B_e, phase_tuned_eq, andB, o_B_e]
  unfold retR
  cases hb : phaseB p with
  | false => rfl
  | true =>
    rw [Bool.not_true, br_f, if_pos rfl]
    by_cases h1 : n < -4096
    · rw [decide_eq_false (show ¬ n ≥ -4096 by omega), if_pos (.inl h1)]; rfl
    · rw [decide_eq_true (show n ≥ -4096 by omega), Bool.true_and]
      by_cases h2 : n > 4096
      · rw [decide_eq_false (show ¬ n ≤ 4096 by omega), if_pos (.inr h2)]; rfl
      · rw [decide_eq_true (show n ≤ 4096 by omega), if_neg (by omega)]; rfl
theorem max_if (a b : Int) : (bif true then if b > a then b else a else if b < a then b else a) = max a b := by
  simp only [cond_true]
  omega
theorem min_if (a b : Int) : (bif false then if b > a then b else a else if b < a then b else a) = min a b := by
  simp only [cond_false]
  omega
def needP (p : Y.Phase) (n : Int) : Int := if n = 0 then 0 else max (aheadP p (n - 1) / partsP p + 2) (aheadP p n / partsP p)
theorem PhFit.need (h : PhFit p) {n : Int} (h0 : 0 ≤ n) (h1 : n ≤ 65537) : 0 ≤ needP p n ∧ needP p n ≤ 3504800000000002 := by
  unfold needP
  by_cases c : n = 0
  · rw [if_pos c]; omega
  · rw [if_neg c]
    have a := h.ahead (n := n) h0 h1
    have b := h.ahead (n := n - 1) (by omega) (by omega)
    have c := divP h a.1
    have d := divP h b.1
    omega
theorem phase_need_ok (h : PhFit p) {n : Int} (h0 : 0 ≤ n) (h1 : n ≤ 65537) : phase_need p n = some (e_I64 (needP p n)) := by
  rw [phase_need_eq]
  unfold needP
  by_cases c : n = 0
  · rw [br_eq c, if_pos c]
  · obtain ⟨q0, q1, q2⟩ := h.parts
    have a := h.ahead (n := n) h0 h1
    have b := h.ahead (n := n - 1) (by omega) (by omega)
    obtain ⟨e1, e2, e3, e4, e5, e6⟩ := divP h a.1
    obtain ⟨f1, f2, f3, f4, f5, f6⟩ := divP h b.1
    rw [br_ne c, if_neg c, w64 (n := n - 1) (by omega) (by omega), phase_ahead_ok h (by omega) (by omega), o_I64_e, phase_parts_ok h, o_I64_e, br_n (by omega), phase_ahead_ok h h0 h1, o_I64_e, o_I64_e, br_n (by omega), max_if, e1, f1]
    rw [w64 (n := aheadP p (n - 1) / partsP p) (by omega) (by omega), w64 (n := aheadP p (n - 1) / partsP p + 2) (by omega) (by omega), w64 (n := aheadP p n / partsP p) (by omega) (by omega)]
def needR (p : Y.Phase) (n : Int) : Int × Int := if phaseB p = true then if n < 0 ∨ n > 65536 then (0, 2) else (needP p n, 0) else (0, 1)
theorem phase_Need_ok (p : Y.Phase) (n : Int) : phase_Need p n = some (e_I64_I64 (needR p n).1 (needR p n).2) := by
  rw [phase_Need_eq, phase_check_ok, o_I64_e]
  unfold needR
  cases hb : phaseB p with
  | false => rfl
  | true =>
    rw [if_pos rfl, if_pos rfl]
    by_cases h1 : n < 0 ∨ n > 65536
    · rw [if_pos h1, if_pos h1]; rfl
    · rw [if_neg h1, if_neg h1, br_eq' rfl, phase_need_ok (phaseB_fit hb) (by omega) (by omega), o_I64_e]
theorem PhFit.mono (h : PhFit p) {a b : Int} (ha : 0 ≤ a) (hab : a ≤ b) (hb : b ≤ 65537) : needP p a ≤ needP p b := by
  have hn := h.need (n := b) (by omega) hb
  unfold needP at *
  by_cases c : a = 0
  · rw [if_pos c]; omega
  · rw [if_neg c, if_neg (show ¬ b = 0 by omega)]
    obtain ⟨q0, q1, q2⟩ := h.parts
    obtain ⟨s0, s1⟩ := h.step
    have m1 : aheadP p a ≤ aheadP p b := by
      unfold aheadP
      have := Int.mul_le_mul_of_nonneg_right hab (show 0 ≤ stepP p by omega)
      omega
    have m2 : aheadP p (a - 1) ≤ aheadP p (b - 1) := by
      unfold aheadP
      have := Int.mul_le_mul_of_nonneg_right (show a - 1 ≤ b - 1 by omega) (show 0 ≤ stepP p by omega)
      omega
    have k1 := Int.ediv_le_ediv (show 0 < partsP p by omega) m1
    have k2 := Int.ediv_le_ediv (show 0 < partsP p by omega) m2
    omega
def topN (p : Y.Phase) (n : Int) : Nat → Nat
  | 0 => 0
  | k + 1 => if needP p ((k + 1 : Nat) : Int) ≤ n then k + 1 else topN p n k
def mkN (p : Y.Phase) (n : Int) : Nat := topN p n 65536
theorem topN_is {n : Int} : ∀ (K k : Nat), k ≤ K → (k = 0 ∨ needP p (k : Int) ≤ n) → (∀ j : Nat, k < j → j ≤ K → ¬ needP p (j : Int) ≤ n) → topN p n K = k
  | 0, k, h, _, _ => by simp only [topN]; omega
  | K + 1, k, h, h1, h2 => by
    simp only [topN]
    by_cases c : k = K + 1
    · subst c
      rw [if_pos (h1.resolve_left (by omega))]
    · rw [if_neg (h2 (K + 1) (by omega) (Nat.le_refl _))]
      exact topN_is K k (by omega) h1 fun j a b => h2 j a (by omega)
theorem topN_spec {n : Int} : ∀ (K : Nat), topN p n K ≤ K ∧ (topN p n K = 0 ∨ needP p (topN p n K : Int) ≤ n) ∧ ∀ j : Nat, topN p n K < j → j ≤ K → ¬ needP p (j : Int) ≤ n
  | 0 => ⟨Nat.le_refl _, .inl rfl, fun j a b => by simp only [topN] at a; omega⟩
  | K + 1 => by
    simp only [topN]
    by_cases c : needP p ((K + 1 : Nat) : Int) ≤ n
    · rw [if_pos c]
      exact ⟨Nat.le_refl _, .inr c, fun j a b => by omega⟩
    · rw [if_neg c]
      obtain ⟨a, b, d⟩ := topN_spec (n := n) K
      refine ⟨by omega, b, fun j x y => ?_⟩
      by_cases e : j = K + 1
      · subst e; exact c
      · exact d j x (by omega)
theorem mkN_le (p : Y.Phase) (n : Int) : mkN p n ≤ 65536 := (topN_spec (p := p) (n := n) 65536).1
theorem mkN_need (p : Y.Phase) {n : Int} (hn : 0 ≤ n) : needP p (mkN p n : Int) ≤ n := by
  rcases (topN_spec (p := p) (n := n) 65536).2.1 with h | h
  · unfold mkN; rw [h]; exact hn
  · exact h
def makR (p : Y.Phase) (n : Int) : Int × Int := if phaseB p = true then if n < 0 ∨ n > 1099511627776 then (0, 2) else ((mkN p n : Nat), 0) else (0, 1)
theorem half_ok {a : Nat} (h : a < 1000000) : (IntKind.u64.wrap (IntKind.i64.wrap (a : Int))).fdiv (2 ^ 1) = ((a / 2 : Nat) : Int) := by
  rw [w64 (by omega) (by omega), wu64N (by omega), fdivP]
theorem search_loop (h : PhFit p) (n : Int) : ∀ (m i j : Nat), j - i ≤ m → i ≤ j → j ≤ 65536 → (i = 0 ∨ needP p (i : Int) ≤ n) → (∀ k : Nat, j < k → k ≤ 65536 → ¬ needP p (k : Int) ≤ n) →
    sort_Search__phase_Make_1_k224 i j p n = some (e_I64_Phase_I64 (mkN p n : Nat) p n) := by
  intro m
  induction m with
  | zero =>
    intro i j h1 h2 h3 h4 h5
    rw [sort_Search__phase_Make_1_k224_eq, br_n (by omega), show mkN p n = i from topN_is _ _ (by omega) h4 fun k a b => h5 k (by omega) b]
  | succ m ih =>
    intro i j h1 h2 h3 h4 h5
    rw [sort_Search__phase_Make_1_k224_eq]
    by_cases c : i < j
    · rw [br_p (by omega), addN, half_ok (by omega), w64 (n := (((i + j) / 2 : Nat) : Int)) (by omega) (by omega), phase_Make_1_eq, w64 (n := (((i + j) / 2 : Nat) : Int) + 1) (by omega) (by omega), phase_need_ok h (by omega) (by omega), o_I64_e, o_B_Phase_I64_e]
      have e : (((i + j) / 2 : Nat) : Int) + 1 = (((i + j) / 2 + 1 : Nat) : Int) := by omega
      rw [e]
      by_cases d : needP p (((i + j) / 2 + 1 : Nat) : Int) ≤ n
      · rw [decide_eq_false (by omega), Bool.not_false, br_t]
        exact ih _ _ (by omega) (by omega) h3 (.inr d) h5
      · rw [decide_eq_true (by omega), Bool.not_true, br_f]
        refine ih _ _ (by omega) (by omega) (by omega) h4 fun k a b hk => d ?_
        exact Int.le_trans (h.mono (by omega) (by omega) (by omega)) hk
    · rw [br_n (by omega), show mkN p n = i from topN_is _ _ (by omega) h4 fun k a b => h5 k (by omega) b]
theorem phase_Make_ok (p : Y.Phase) (n : Int) : phase_Make p n = some (e_I64_I64 (makR p n).1 (makR p n).2) := by
  rw [phase_Make_eq, phase_Valid_ok, o_B_e]
  unfold makR
  cases hb : phaseB p with
  | false => rfl
  | true =>
    rw [Bool.not_true, br_f, if_pos rfl]
    by_cases h1 : n < 0
    · rw [br_p h1, if_pos (.inl h1)]
    · rw [br_n h1]
      by_cases h2 : n > 1099511627776
      · rw [br_p h2, if_pos (.inr h2)]
      · rw [br_n h2, if_neg (by omega), sort_Search__phase_Make_1_eq]
        have := search_loop (phaseB_fit hb) n 65536 0 65536 (by omega) (by omega) (by omega) (.inl rfl) (fun k a b => by omega)
        rw [show (0 : Int) = ((0 : Nat) : Int) from rfl, show (65536 : Int) = ((65536 : Nat) : Int) from rfl, this, o_I64_Phase_I64_e]
end
def adjR (c : Y.Control) (f : Int) : Int := if ctlB c = true ∧ 0 ≤ f ∧ f ≤ 2147483647 then if f - c.Target > c.Dead then min c.Most ((f - c.Target - c.Dead) * c.Gain) else if f - c.Target < -c.Dead then -(min c.Most ((c.Target - f - c.Dead) * c.Gain)) else 0 else 0
structure CtlFit (c : Y.Control) : Prop where
  t0 : 0 ≤ c.Target
  t1 : c.Target ≤ 65536
  d0 : 0 ≤ c.Dead
  d1 : c.Dead ≤ 65536
  g0 : 1 ≤ c.Gain
  g1 : c.Gain ≤ 4096
  m0 : 0 ≤ c.Most
  m1 : c.Most ≤ 4096
theorem ctlB_fit {c : Y.Control} (h : ctlB c = true) : CtlFit c := by
  simp only [ctlB, Bool.and_eq_true, decide_eq_true_eq] at h
  obtain ⟨h1, h2, h3, h4, h5, h6, h7, h8⟩ := h
  exact ⟨h1, h2, h3, h4, h5, h6, h7, h8⟩
theorem CtlFit.prod {c : Y.Control} (h : CtlFit c) {x : Int} (h0 : 0 ≤ x) (h1 : x ≤ 4294967296) : 0 ≤ x * c.Gain ∧ x * c.Gain ≤ 17592186044416 := by
  have := h.g0
  have a : x * c.Gain ≤ 4294967296 * 4096 := Int.mul_le_mul h1 h.g1 (by omega) (by omega)
  exact ⟨Int.mul_nonneg h0 (by omega), by omega⟩
theorem Adjust_1_ok {c : Y.Control} (h : CtlFit c) {x : Int} (h0 : 0 ≤ x) (h1 : x ≤ 4294967296) : control_Adjust_1 x c = some (e_I64_Control (min c.Most (max 0 (x - c.Dead) * c.Gain)) c) := by
  have := h.d0; have := h.d1
  obtain ⟨p0, p1⟩ := h.prod (x := max 0 (x - c.Dead)) (by omega) (by omega)
  rw [control_Adjust_1_eq, w64 (n := x - c.Dead) (by omega) (by omega), max_if, w64 (by omega) (by omega), min_if]
theorem control_Adjust_ok (c : Y.Control) (f : Int) : control_Adjust c f = some (e_I64 (adjR c f)) := by
  rw [control_Adjust_eq, control_Valid_ok, o_B_e]
  unfold adjR
  cases hc : ctlB c with
  | false => rw [if_neg (show ¬ (false = true ∧ 0 ≤ f ∧ f ≤ 2147483647) by simp)]; rfl
  | true =>
    have h := ctlB_fit hc
    have := h.t0; have := h.t1; have := h.d0; have := h.d1; have := h.m0; have := h.m1
    rw [Bool.not_true, br_f]
    by_cases h1 : f < 0
    · rw [br_p h1, if_neg (show ¬ (true = true ∧ 0 ≤ f ∧ f ≤ 2147483647) by omega)]
    · rw [br_n h1]
      by_cases h2 : f > 2147483647
      · rw [br_p h2, if_neg (show ¬ (true = true ∧ 0 ≤ f ∧ f ≤ 2147483647) by omega)]
      · rw [br_n h2, if_pos (show true = true ∧ 0 ≤ f ∧ f ≤ 2147483647 from ⟨rfl, by omega, by omega⟩)]
        by_cases h3 : f < c.Target
        · obtain ⟨p0, p1⟩ := h.prod (x := max 0 (c.Target - f - c.Dead)) (by omega) (by omega)
          rw [br_p h3, w64 (n := c.Target - f) (by omega) (by omega), Adjust_1_ok h (by omega) (by omega), o_I64_Control_e, if_neg (by omega)]
          by_cases h4 : f - c.Target < -c.Dead
          · rw [if_pos h4, show max 0 (c.Target - f - c.Dead) = c.Target - f - c.Dead by omega] at *
            rw [w64 (by omega) (by omega), Int.zero_sub]
          · rw [if_neg h4, show max 0 (c.Target - f - c.Dead) = 0 by omega, Int.zero_mul, w64 (by omega) (by omega)]
            congr 2
            omega
        · rw [br_n h3, w64 (n := f - c.Target) (by omega) (by omega), Adjust_1_ok h (by omega) (by omega), o_I64_Control_e]
          by_cases h4 : f - c.Target > c.Dead
          · rw [if_pos h4, show max 0 (f - c.Target - c.Dead) = f - c.Target - c.Dead by omega]
          · rw [if_neg h4, if_neg (by omega), show max 0 (f - c.Target - c.Dead) = 0 by omega, Int.zero_mul]
            congr 2
            omega
theorem adjR_rng {c : Y.Control} {f : Int} : -4096 ≤ adjR c f ∧ adjR c f ≤ 4096 := by
  unfold adjR
  by_cases h : ctlB c = true ∧ 0 ≤ f ∧ f ≤ 2147483647
  · rw [if_pos h]
    have hc := ctlB_fit h.1
    have := hc.m0; have := hc.m1; have := hc.t0; have := hc.t1; have := hc.d0; have := hc.d1
    by_cases h3 : f - c.Target > c.Dead
    · obtain ⟨p0, p1⟩ := hc.prod (x := f - c.Target - c.Dead) (by omega) (by omega)
      rw [if_pos h3]; omega
    · rw [if_neg h3]
      by_cases h4 : f - c.Target < -c.Dead
      · obtain ⟨p0, p1⟩ := hc.prod (x := c.Target - f - c.Dead) (by omega) (by omega)
        rw [if_pos h4]; omega
      · rw [if_neg h4]; omega
  · rw [if_neg h]; omega
end Go.Vm
