/- OpensP: part 6 of the texts that the proof of opens_holds needs: an evaluator of the program on data, its soundness, the equations of the functions, the plain laws. Conditions: none. -/
import Derived.Test.YtadachfhgafdjaaGreatOpensP5
set_option linter.unusedVariables false
set_option linter.unusedSimpArgs false
namespace Go.Vm
open Go.Proofs
theorem orN {a b : Nat} (ha : a < 18446744073709551616) (hb : b < 18446744073709551616) : ((BitVec.ofInt 64 (a : Int) ||| BitVec.ofInt 64 (b : Int)).toNat : Nat) = a ||| b := by
  rw [ofInt_nat, ofInt_nat, BitVec.toNat_or, BitVec.toNat_ofNat, BitVec.toNat_ofNat]
  have e1 : a % 2 ^ 64 = a := Nat.mod_eq_of_lt (by omega)
  have e2 : b % 2 ^ 64 = b := Nat.mod_eq_of_lt (by omega)
  rw [e1, e2]
theorem powN (s : Nat) : (2 : Int) ^ s = ((2 ^ s : Nat) : Int) := by simp
theorem div_two (B X y e Q m : Nat) (hy0 : 0 < y) (hQ : Q = X / y) (hm : m = X % y) : Q * B + (m * B + e) / y = (X * B + e) / y ∧ (m * B + e) % y = (X * B + e) % y := by
  have h : X * B + e = m * B + e + y * (Q * B) := by
    have := Nat.div_add_mod X y
    rw [← hQ, ← hm] at this
    rw [← this, Nat.add_mul, Nat.mul_assoc]
    omega
  rw [h, Nat.add_mul_div_left _ _ hy0, Nat.add_mul_mod_self_left]
  exact ⟨by omega, rfl⟩
theorem div_fin (B W u L Y S q r : Nat) (hY0 : 0 < Y) (hW : B * B = W) (hq : (u * W + L) / Y = q) (hm : (u * W + L) % Y / S = r) :
    (u * B + L / B) / Y * B + ((u * B + L / B) % Y * B + L % B) / Y = q ∧ ((u * B + L / B) % Y * B + L % B) % Y / S = r := by
  have h : (u * B + L / B) * B + L % B = u * W + L := by rw [Nat.add_mul, Nat.mul_assoc, hW, Nat.add_assoc, Nat.div_add_mod']
  obtain ⟨f1, f2⟩ := div_two B (u * B + L / B) Y (L % B) _ _ hY0 rfl rfl
  rw [h] at f1 f2
  rw [f1, f2]
  exact ⟨hq, hm⟩
theorem pair_eq {a b c d : Nat} (h1 : a = c) (h2 : b = d) : some (e_U64_U64 (a : Int) (b : Int)) = some (e_U64_U64 (c : Int) (d : Int)) := by rw [h1, h2]
theorem Lz_ok {y : Nat} (h0 : 0 < y) (h : y < 18446744073709551616) : ∃ s : Nat, bits_LeadingZeros64 y = some (e_I64 s) ∧ s ≤ 63 ∧ 9223372036854775808 ≤ y * 2 ^ s ∧ y * 2 ^ s < 18446744073709551616 := by
  obtain ⟨n, hn, h1, h2, h3, h4⟩ := Len64_ok h0 h
  refine ⟨64 - n, ?_, by omega, ?_, ?_⟩
  · rw [bits_LeadingZeros64_eq, hn, o_I64_e, w64 (by omega) (by omega)]
    congr 2; omega
  · have := Nat.mul_le_mul_right (2 ^ (64 - n)) h3
    rw [← Nat.pow_add, show n - 1 + (64 - n) = 63 by omega] at this
    omega
  · have := Nat.mul_lt_mul_of_pos_right h4 (Nat.two_pow_pos (64 - n))
    rw [← Nat.pow_add, show n + (64 - n) = 64 by omega] at this
    omega
theorem Div64_ok {hi lo y : Nat} (h0 : hi < y) (hlo : lo < 18446744073709551616) (hy : y < 18446744073709551616) :
    bits_Div64 hi lo y = some (e_U64_U64 (((hi * 18446744073709551616 + lo) / y : Nat) : Int) (((hi * 18446744073709551616 + lo) % y : Nat) : Int)) := by
  rw [bits_Div64_eq, br_ne (by omega), br_n (by omega)]
  by_cases hz : hi = 0
  · subst hz
    rw [br_eq (by rfl), br_n (by omega), br_n (by omega), tdivN, tmodN, wu64N (a := lo / y) (by have := Nat.div_le_self lo y; omega)]
    simp only [Nat.zero_mul, Nat.zero_add]
  · rw [br_ne (by omega)]
    obtain ⟨s, hs, hs1, hs2, hs3⟩ := Lz_ok (by omega) hy
    rw [hs, o_I64_e]
    have e1 : IntKind.u64.wrap (s : Int) = (s : Int) := wu64 (by omega) (by omega)
    have e2 : IntKind.u64.wrap (64 - (s : Int)) = ((64 - s : Nat) : Int) := by rw [wu64 (by omega) (by omega)]; omega
    have e3 : min (s : Int).toNat 64 = s := by rw [Int.toNat_natCast]; omega
    have e4 : min ((64 - s : Nat) : Int).toNat 64 = 64 - s := by rw [Int.toNat_natCast]; omega
    rw [e1, e2, e3, e4]
    have hy1 : IntKind.u64.wrap ((y : Int) * 2 ^ s) = ((y * 2 ^ s : Nat) : Int) := by rw [powN, mulN, wu64N hs3]
    have hp := Nat.two_pow_pos s
    have hh : hi * 2 ^ s < y * 2 ^ s := Nat.mul_lt_mul_of_pos_right h0 hp
    have hh1 : IntKind.u64.wrap ((hi : Int) * 2 ^ s) = ((hi * 2 ^ s : Nat) : Int) := by rw [powN, mulN, wu64N (by omega)]
    have hl1 : IntKind.u64.wrap ((lo : Int) * 2 ^ s) = ((lo * 2 ^ s % 18446744073709551616 : Nat) : Int) := by rw [powN, mulN, wu64M]
    have hpp : (18446744073709551616 : Nat) = 2 ^ (64 - s) * 2 ^ s := by rw [← Nat.pow_add, show 64 - s + s = 64 by omega]
    have hlt : lo / 2 ^ (64 - s) < 2 ^ s := by
      rw [Nat.div_lt_iff_lt_mul (Nat.two_pow_pos _), Nat.mul_comm, ← hpp]; exact hlo
    have hor : (hi * 2 ^ s) ||| (lo / 2 ^ (64 - s)) = hi * 2 ^ s + lo / 2 ^ (64 - s) := by
      rw [Nat.mul_comm hi]; exact (Nat.two_pow_add_eq_or_of_lt hlt hi).symm
    have hls : lo * 2 ^ s / 18446744073709551616 = lo / 2 ^ (64 - s) := by rw [hpp, Nat.mul_div_mul_right _ _ hp]
    have hu : hi * 2 ^ s + lo / 2 ^ (64 - s) < y * 2 ^ s := by
      have := Nat.mul_le_mul_right (2 ^ s) (show hi + 1 ≤ y by omega)
      rw [Nat.add_mul] at this
      omega
    rw [hy1, hh1, hl1, fdivP lo (64 - s), orN (by omega) (by have := Nat.div_le_self lo (2 ^ (64 - s)); omega), hor]
    have hld := Nat.div_add_mod (lo * 2 ^ s) 18446744073709551616
    rw [hls] at hld
    have hLm := Nat.mod_lt (lo * 2 ^ s) (show 0 < 18446744073709551616 by decide)
    have hN : (hi * 2 ^ s + lo / 2 ^ (64 - s)) * 18446744073709551616 + lo * 2 ^ s % 18446744073709551616 = (hi * 18446744073709551616 + lo) * 2 ^ s := by
      rw [Nat.add_mul (hi * 18446744073709551616), ← hld]
      rw [Nat.mul_right_comm hi]
      omega
    have hq : (hi * 18446744073709551616 + lo) * 2 ^ s / (y * 2 ^ s) = (hi * 18446744073709551616 + lo) / y := Nat.mul_div_mul_right _ _ hp
    have hm : (hi * 18446744073709551616 + lo) * 2 ^ s % (y * 2 ^ s) / 2 ^ s = (hi * 18446744073709551616 + lo) % y := by
      rw [Nat.mul_mod_mul_right, Nat.mul_div_cancel _ hp]
    rw [← hN] at hq hm
    generalize hY : y * 2 ^ s = Y at *
    generalize hU : hi * 2 ^ s + lo / 2 ^ (64 - s) = u at *
    generalize hL : lo * 2 ^ s % 18446744073709551616 = L at *
    rw [maskN (a := Y) (by omega), maskN (a := L) (by omega), fdivN, fdivN, wu64N (a := Y % 4294967296) (by omega), wu64N (a := u) (by omega), wu64N (a := L % 4294967296) (by omega)]
    have hd1 : u / (Y / 4294967296) * (Y / 4294967296) + u % (Y / 4294967296) = u := by rw [Nat.mul_comm]; exact Nat.div_add_mod _ _
    have hd2 := Nat.mod_lt u (show 0 < Y / 4294967296 by omega)
    have hd3 := Nat.div_le_self u (Y / 4294967296)
    rw [tdivN, wu64N (a := u / (Y / 4294967296)) (by omega), mulN, wu64N (a := u / (Y / 4294967296) * (Y / 4294967296)) (by omega), subN (by omega), wu64N (a := u - u / (Y / 4294967296) * (Y / 4294967296)) (by omega)]
    rw [br_n (by omega), br_n (by omega), br_n (by omega), br_n (by omega), br_n (by omega)]
    have hyy : Y = Y / 4294967296 * 4294967296 + Y % 4294967296 := by omega
    rw [k1_ok 3 Y s (Y / 4294967296) (Y % 4294967296) u (L / 4294967296) (L % 4294967296) (u / (Y / 4294967296)) (u - u / (Y / 4294967296) * (Y / 4294967296)) (by omega) hyy (by omega) (by omega) (by omega) hu (by omega) (by omega) (by omega) (by omega) ((start2 hyy (by omega)).resolve_right (by omega)) (by omega)]
    obtain ⟨f1, f2⟩ := div_fin 4294967296 18446744073709551616 u L Y (2 ^ s) _ _ (by omega) rfl hq hm
    exact pair_eq f1 f2
end Go.Vm
set_option linter.unusedVariables false
set_option linter.unusedSimpArgs false
namespace Go.Vm
open Go.Proofs
theorem gcd_loop {f : Int → Int → Option (List D)} (hf : ∀ n0 n1, f n0 n1 = br (n1 != 0) (br (decide (n1 = 0)) none (f n1 (n0.tmod n1))) (some (e_I64 n0))) : ∀ b a : Nat, f a b = some (e_I64 (Nat.gcd a b : Nat)) := by
  intro b
  induction b using Nat.strongRecOn with
  | _ b ih =>
    intro a
    rw [hf]
    by_cases hb : b = 0
    · subst hb
      rw [br_eq' (by rfl), Nat.gcd_zero_right]
    · rw [br_ne' (by omega), br_n (by omega), tmodN, ih (a % b) (Nat.mod_lt _ (by omega)) b, Nat.gcd_comm b, ← Nat.gcd_rec b a, Nat.gcd_comm]
theorem ref03_gcd_ok (a b : Nat) : ref03_gcd a b = some (e_I64 (Nat.gcd a b : Nat)) := by rw [ref03_gcd_eq]; exact gcd_loop ref03_gcd_k96_eq b a
theorem ratio_divisor_ok (a b : Nat) : ratio_divisor a b = some (e_I64 (Nat.gcd a b : Nat)) := by rw [ratio_divisor_eq]; exact gcd_loop ratio_divisor_k96_eq b a
def RatOk (r : Y.Ratio) : Prop := 1 ≤ r.Num ∧ 1 ≤ r.Den ∧ r.Num ≤ 68719476736 ∧ r.Den ≤ 68719476736 ∧ Nat.gcd r.Num.toNat r.Den.toNat = 1
instance (r : Y.Ratio) : Decidable (RatOk r) := by unfold RatOk; infer_instance
theorem valid_gen {f : Y.Ratio → Option (List D)} {g : Int → Int → Option (List D)} (hg : ∀ a b : Nat, g a b = some (e_I64 (Nat.gcd a b : Nat)))
    (hf : ∀ a : Y.Ratio, f a = br (decide (a.Num ≥ 1)) (br (decide (a.Den ≥ 1)) (br (decide (a.Num ≤ 68719476736)) (br (decide (a.Den ≤ 68719476736)) (o_I64 (g a.Num a.Den) fun n1 => some (e_B (n1 == 1))) (some (e_B false))) (some (e_B false))) (some (e_B false))) (some (e_B false)))
    (r : Y.Ratio) : f r = some (e_B (decide (RatOk r))) := by
  rw [hf]
  by_cases h1 : 1 ≤ r.Num
  · rw [br_p (by omega)]
    by_cases h2 : 1 ≤ r.Den
    · rw [br_p (by omega)]
      by_cases h3 : r.Num ≤ 68719476736
      · rw [br_p (by omega)]
        by_cases h4 : r.Den ≤ 68719476736
        · rw [br_p (by omega)]
          have e1 : r.Num = ((r.Num.toNat : Nat) : Int) := by omega
          have e2 : r.Den = ((r.Den.toNat : Nat) : Int) := by omega
          have : g r.Num r.Den = some (e_I64 (Nat.gcd r.Num.toNat r.Den.toNat : Nat)) := by rw [← hg, ← e1, ← e2]
          rw [this, o_I64_e]
          congr 2
          rw [Bool.eq_iff_iff]
          simp only [beq_iff_eq, decide_eq_true_eq]
          exact ⟨fun h => ⟨h1, h2, h3, h4, by omega⟩, fun h => by have := h.2.2.2.2; omega⟩
        · rw [br_n (by omega), decide_eq_false fun h : RatOk r => h4 h.2.2.2.1]
      · rw [br_n (by omega), decide_eq_false fun h : RatOk r => h3 h.2.2.1]
    · rw [br_n (by omega), decide_eq_false fun h : RatOk r => h2 h.2.1]
  · rw [br_n (by omega), decide_eq_false fun h : RatOk r => h1 h.1]
theorem ref03_Valid_ok (r : Y.Ratio) : ref03_Valid r = some (e_B (decide (RatOk r))) := valid_gen ref03_gcd_ok ref03_Valid_eq r
theorem ratio_Valid_ok (r : Y.Ratio) : ratio_Valid r = some (e_B (decide (RatOk r))) := valid_gen ratio_divisor_ok ratio_Valid_eq r
def mkR (a b : Int) : Y.Ratio × Int := if a < 1 ∨ b < 1 then (⟨0, 0⟩, 1) else
  if a / Nat.gcd a.toNat b.toNat > 68719476736 ∨ b / Nat.gcd a.toNat b.toNat > 68719476736 then (⟨0, 0⟩, 2) else (⟨a / Nat.gcd a.toNat b.toNat, b / Nat.gcd a.toNat b.toNat⟩, 0)
theorem make_gen {f : Int → Int → Option (List D)} {g : Int → Int → Option (List D)} (hg : ∀ a b : Nat, g a b = some (e_I64 (Nat.gcd a b : Nat)))
    (hf : ∀ a b : Int, f a b = br (decide (a < 1)) (some (e_Ratio_I64 (Y.Ratio.mk 0 0) 1)) (br (decide (b < 1)) (some (e_Ratio_I64 (Y.Ratio.mk 0 0) 1)) (o_I64 (g a b) fun n1 => br (decide (n1 = 0)) none (br (decide (n1 = 0)) none (br (decide (IntKind.i64.wrap (a.tdiv n1) > 68719476736)) (some (e_Ratio_I64 (Y.Ratio.mk 0 0) 2)) (br (decide (IntKind.i64.wrap (b.tdiv n1) > 68719476736)) (some (e_Ratio_I64 (Y.Ratio.mk 0 0) 2)) (some (e_Ratio_I64 (Y.Ratio.mk (IntKind.i64.wrap (a.tdiv n1)) (IntKind.i64.wrap (b.tdiv n1))) 0))))))))
    {a b : Int} (ha : a ≤ 9223372036854775807) (hb : b ≤ 9223372036854775807) : f a b = some (e_Ratio_I64 (mkR a b).1 (mkR a b).2) := by
  rw [hf]
  unfold mkR
  by_cases h1 : a < 1
  · rw [br_p h1, if_pos (.inl h1)]
  · rw [br_n h1]
    by_cases h2 : b < 1
    · rw [br_p h2, if_pos (.inr h2)]
    · rw [br_n h2, if_neg (by omega)]
      have e1 : a = ((a.toNat : Nat) : Int) := by omega
      have e2 : b = ((b.toNat : Nat) : Int) := by omega
      have : g a b = some (e_I64 (Nat.gcd a.toNat b.toNat : Nat)) := by rw [← hg, ← e1, ← e2]
      have hp := Nat.gcd_pos_of_pos_left b.toNat (show 0 < a.toNat by omega)
      rw [this, o_I64_e, br_n (by omega), br_n (by omega)]
      rw [IntWalk.i64_quo a _ ⟨by omega, ha, by omega⟩, IntWalk.i64_quo b _ ⟨by omega, hb, by omega⟩]
      generalize a / (Nat.gcd a.toNat b.toNat : Int) = x
      generalize b / (Nat.gcd a.toNat b.toNat : Int) = y
      by_cases h3 : x > 68719476736
      · rw [br_p h3, if_pos (.inl h3)]
      · rw [br_n h3]
        by_cases h4 : y > 68719476736
        · rw [br_p h4, if_pos (.inr h4)]
        · rw [br_n h4, if_neg (by omega)]
theorem ref03_Make_ok {a b : Int} (ha : a ≤ 9223372036854775807) (hb : b ≤ 9223372036854775807) : ref03_Make a b = some (e_Ratio_I64 (mkR a b).1 (mkR a b).2) := make_gen ref03_gcd_ok ref03_Make_eq ha hb
theorem ratio_Make_ok {a b : Int} (ha : a ≤ 9223372036854775807) (hb : b ≤ 9223372036854775807) : ratio_Make a b = some (e_Ratio_I64 (mkR a b).1 (mkR a b).2) := make_gen ratio_divisor_ok ratio_Make_eq ha hb
theorem mkR_ok {a b : Int} (h : (mkR a b).2 = 0) : RatOk (mkR a b).1 ∧ (mkR a b).1.Num * b = a * (mkR a b).1.Den ∧ 1 ≤ a ∧ 1 ≤ b := by
  unfold mkR at h ⊢
  by_cases h1 : a < 1 ∨ b < 1
  · rw [if_pos h1] at h; cases h
  · rw [if_neg h1] at h ⊢
    by_cases h2 : a / Nat.gcd a.toNat b.toNat > 68719476736 ∨ b / Nat.gcd a.toNat b.toNat > 68719476736
    · rw [if_pos h2] at h; cases h
    · rw [if_neg h2]
      have hp := Nat.gcd_pos_of_pos_left b.toNat (show 0 < a.toNat by omega)
      obtain ⟨x, hx⟩ := Nat.gcd_dvd_left a.toNat b.toNat
      obtain ⟨y, hy⟩ := Nat.gcd_dvd_right a.toNat b.toNat
      have hc : Nat.gcd (a.toNat / Nat.gcd a.toNat b.toNat) (b.toNat / Nat.gcd a.toNat b.toNat) = 1 := by rw [Nat.gcd_div (Nat.gcd_dvd_left _ _) (Nat.gcd_dvd_right _ _), Nat.div_self hp]
      generalize Nat.gcd a.toNat b.toNat = g at *
      have e1 : a = (g : Int) * x := by rw [← Int.natCast_mul, ← hx]; omega
      have e2 : b = (g : Int) * y := by rw [← Int.natCast_mul, ← hy]; omega
      have d1 : a / (g : Int) = x := by rw [e1]; exact Int.mul_ediv_cancel_left _ (by omega)
      have d2 : b / (g : Int) = y := by rw [e2]; exact Int.mul_ediv_cancel_left _ (by omega)
      have d3 : a.toNat / g = x := by rw [hx]; exact Nat.mul_div_cancel_left _ hp
      have d4 : b.toNat / g = y := by rw [hy]; exact Nat.mul_div_cancel_left _ hp
      rw [d3, d4] at hc
      have p1 : 0 < x := Nat.pos_of_ne_zero fun e => by subst e; omega
      have p2 : 0 < y := Nat.pos_of_ne_zero fun e => by subst e; omega
      simp only [d1, d2] at h2 ⊢
      refine ⟨⟨by simp only; omega, by simp only; omega, by simp only; omega, by simp only; omega, by simpa using hc⟩, ?_, by omega, by omega⟩
      rw [e1, e2]
      rw [Int.mul_comm (g : Int) x, Int.mul_assoc, Int.mul_comm (g : Int) y]
def invR (r : Y.Ratio) : Y.Ratio × Int := if RatOk r then (⟨r.Den, r.Num⟩, 0) else (⟨0, 0⟩, 1)
theorem ref03_Inverse_ok (r : Y.Ratio) : ref03_Inverse r = some (e_Ratio_I64 (invR r).1 (invR r).2) := by
  rw [ref03_Inverse_eq, ref03_Valid_ok, o_B_e]
  unfold invR
  by_cases h : RatOk r
  · rw [decide_eq_true h, if_pos h]; rfl
  · rw [decide_eq_false h, if_neg h]; rfl
theorem ratio_Inverse_ok (r : Y.Ratio) : ratio_Inverse r = some (e_Ratio_I64 (invR r).1 (invR r).2) := by
  rw [ratio_Inverse_eq, ratio_Valid_ok, o_B_e]
  unfold invR
  by_cases h : RatOk r
  · rw [decide_eq_true h, if_pos h]; rfl
  · rw [decide_eq_false h, if_neg h]; rfl
theorem RatOk.inv {r : Y.Ratio} (h : RatOk r) : RatOk ⟨r.Den, r.Num⟩ := ⟨h.2.1, h.1, h.2.2.2.1, h.2.2.1, by rw [Nat.gcd_comm]; exact h.2.2.2.2⟩
theorem floor_neg {u d : Nat} (hd : 0 < d) : (-(u : Int)) / d = (if u % d = 0 then -((u / d : Nat) : Int) else -((u / d : Nat) : Int) - 1) ∧ (-(u : Int)) % d = (if u % d = 0 then 0 else (d : Int) - (u % d : Nat)) := by
  have h := Nat.div_add_mod u d
  have hm := Nat.mod_lt u hd
  have hI : (d : Int) * ((u / d : Nat) : Int) + ((u % d : Nat) : Int) = u := by rw [← Int.natCast_mul, ← Int.natCast_add, h]
  generalize u / d = q at *
  generalize u % d = m at *
  by_cases h0 : m = 0
  · rw [if_pos h0, if_pos h0]
    refine (Int.ediv_emod_unique (by omega)).2 ⟨?_, by omega, by omega⟩
    rw [Int.mul_neg]; omega
  · rw [if_neg h0, if_neg h0]
    refine (Int.ediv_emod_unique (by omega)).2 ⟨?_, by omega, by omega⟩
    rw [Int.mul_sub, Int.mul_neg]; omega
theorem div_core {u nu de : Nat} (hu : u < 18446744073709551616) (h1 : 0 < nu) (h2 : 0 < de) (h3 : nu ≤ 68719476736) (h4 : de ≤ 68719476736) (K : Int → Int → Option (List D)) (x : Option (List D)) (hK : ∀ q m : Nat, q > 4611686018427387904 → K q m = x) :
    (o_U64_U64 (bits_Mul64 (u : Int) (nu : Int)) fun a b => br (decide (a ≥ (de : Int))) x (o_U64_U64 (bits_Div64 a b (de : Int)) K)) = if u * nu / de > 4611686018427387904 then x else K ((u * nu / de : Nat) : Int) ((u * nu % de : Nat) : Int) := by
  rw [Mul64_ok hu (by omega), o_U64_U64_e]
  have hdm := Nat.div_add_mod (u * nu) 18446744073709551616
  have hm := Nat.mod_lt (u * nu) (show 0 < 18446744073709551616 by decide)
  generalize u * nu / 18446744073709551616 = a at *
  generalize u * nu % 18446744073709551616 = b at *
  by_cases hc : de ≤ a
  · rw [br_p (by omega)]
    rw [if_pos]
    refine Nat.lt_of_lt_of_le (show 4611686018427387904 < 18446744073709551616 by decide) ((Nat.le_div_iff_mul_le h2).2 ?_)
    have := Nat.mul_le_mul_left 18446744073709551616 hc
    omega
  · rw [br_n (by omega), Div64_ok (by omega) hm (by omega), o_U64_U64_e]
    have e : a * 18446744073709551616 + b = u * nu := by omega
    rw [e]
    by_cases hq : u * nu / de > 4611686018427387904
    · rw [if_pos hq, hK _ _ hq]
    · rw [if_neg hq]
def flq (n : Int) (r : Y.Ratio) : Int := n * r.Num / r.Den
def flm (n : Int) (r : Y.Ratio) : Int := n * r.Num % r.Den
theorem flq_nat {r : Y.Ratio} {u nu de : Nat} (h1 : r.Num = nu) (h2 : r.Den = de) : flq u r = ((u * nu / de : Nat) : Int) ∧ flm u r = ((u * nu % de : Nat) : Int) := by
  unfold flq flm
  rw [h1, h2, mulN]
  exact ⟨rfl, rfl⟩
theorem flq_neg {r : Y.Ratio} {u nu de : Nat} (h1 : r.Num = nu) (h2 : r.Den = de) (hd : 0 < de) : flq (-(u : Int)) r = (if u * nu % de = 0 then -((u * nu / de : Nat) : Int) else -((u * nu / de : Nat) : Int) - 1) ∧ flm (-(u : Int)) r = (if u * nu % de = 0 then 0 else (de : Int) - (u * nu % de : Nat)) := by
  unfold flq flm
  rw [h1, h2, Int.neg_mul, mulN]
  exact floor_neg hd
end Go.Vm
set_option linter.unusedVariables false
set_option linter.unusedSimpArgs false
namespace Go.Vm
open Go.Proofs
def InM (f : Int) : Prop := -4611686018427387904 ≤ f ∧ f ≤ 4611686018427387904
instance (f : Int) : Decidable (InM f) := by unfold InM; infer_instance
theorem rat_nat {r : Y.Ratio} (h : RatOk r) : ∃ nu de : Nat, r.Num = nu ∧ r.Den = de ∧ 0 < nu ∧ 0 < de ∧ nu ≤ 68719476736 ∧ de ≤ 68719476736 := by
  obtain ⟨h1, h2, h3, h4, _⟩ := h
  exact ⟨r.Num.toNat, r.Den.toNat, by omega, by omega, by omega, by omega, by omega, by omega⟩
theorem ref03_divide_ok {n : Int} {r : Y.Ratio} (hr : RatOk r) (h0 : -1125899906842624 ≤ n) (h1 : n ≤ 1125899906842624) :
    ref03_divide n r = some (if InM (flq n r) then e_I64_I64_B (flq n r) (flm n r) true else e_I64_I64_B 0 0 false) := by
  obtain ⟨nu, de, e1, e2, p1, p2, p3, p4⟩ := rat_nat hr
  rw [ref03_divide_eq]
  rw [e1, e2, wu64N (a := nu) (by omega), wu64N (a := de) (by omega)]
  by_cases hn : n < 0
  · obtain ⟨u, rfl⟩ : ∃ u : Nat, n = -(u : Int) := ⟨(-n).toNat, by omega⟩
    have ew : IntKind.u64.wrap (0 - IntKind.u64.wrap (-(u : Int))) = (u : Int) := by simp only [wu64_mod]; omega
    obtain ⟨f1, f2⟩ := flq_neg (u := u) e1 e2 p2
    rw [br_p hn, ew, div_core (by omega) p1 p2 p3 p4 _ (some (e_I64_I64_B 0 0 false)) (fun q m h => by rw [br_p (by omega)]), f1, f2]
    have hm := Nat.mod_lt (u * nu) p2
    generalize u * nu / de = q at *
    generalize u * nu % de = m at *
    by_cases hq : q > 4611686018427387904
    · rw [if_pos hq, if_neg (fun h : InM _ => by have := h.1; split at this <;> omega)]
    · rw [if_neg hq, br_n (by omega), decide_eq_true hn, Bool.not_true, br_f, w64 (n := (q : Int)) (by omega) (by omega), w64 (n := (m : Int)) (by omega) (by omega), w64 (n := 0 - (q : Int)) (by omega) (by omega)]
      by_cases hm0 : m = 0
      · rw [br_eq (by omega), if_pos hm0, if_pos hm0, if_pos ⟨by omega, by omega⟩, Int.zero_sub]
      · rw [br_ne (by omega), if_neg hm0, if_neg hm0]
        by_cases hq2 : q = 4611686018427387904
        · rw [br_eq (by omega), if_neg (fun h : InM _ => by have := h.1; omega)]
        · rw [br_ne (by omega), if_pos ⟨by omega, by omega⟩, w64 (by omega) (by omega), w64 (by omega) (by omega), Int.zero_sub]
  · obtain ⟨u, rfl⟩ : ∃ u : Nat, n = (u : Int) := ⟨n.toNat, by omega⟩
    obtain ⟨f1, f2⟩ := flq_nat (u := u) e1 e2
    rw [br_n hn, wu64N (a := u) (by omega), div_core (by omega) p1 p2 p3 p4 _ (some (e_I64_I64_B 0 0 false)) (fun q m h => by rw [br_p (by omega)]), f1, f2]
    have hm := Nat.mod_lt (u * nu) p2
    generalize u * nu / de = q at *
    generalize u * nu % de = m at *
    by_cases hq : q > 4611686018427387904
    · rw [if_pos hq, if_neg (fun h : InM _ => by have := h.2; omega)]
    · rw [if_neg hq, br_n (by omega), decide_eq_false hn, Bool.not_false, br_t, if_pos ⟨by omega, by omega⟩, w64 (by omega) (by omega), w64 (by omega) (by omega)]
theorem ratio_divide_ok {n : Int} {r : Y.Ratio} (hr : RatOk r) (h0 : -1125899906842624 ≤ n) (h1 : n ≤ 1125899906842624) :
    ratio_divide n r = some (if InM (flq n r) ∨ (flq n r = -4611686018427387905 ∧ flm n r ≠ 0) then e_I64_I64_B (flq n r) (flm n r) true else e_I64_I64_B 0 0 false) := by
  obtain ⟨nu, de, e1, e2, p1, p2, p3, p4⟩ := rat_nat hr
  rw [ratio_divide_eq]
  rw [e1, e2, wu64N (a := nu) (by omega), wu64N (a := de) (by omega)]
  by_cases hn : n < 0
  · obtain ⟨u, rfl⟩ : ∃ u : Nat, n = -(u : Int) := ⟨(-n).toNat, by omega⟩
    have ew : IntKind.u64.wrap (0 - IntKind.u64.wrap (-(u : Int))) = (u : Int) := by simp only [wu64_mod]; omega
    obtain ⟨f1, f2⟩ := flq_neg (u := u) e1 e2 p2
    rw [br_p hn, ew, div_core (by omega) p1 p2 p3 p4 _ (some (e_I64_I64_B 0 0 false)) (fun q m h => by rw [br_p (by omega)]), f1, f2]
    have hm := Nat.mod_lt (u * nu) p2
    generalize u * nu / de = q at *
    generalize u * nu % de = m at *
    by_cases hq : q > 4611686018427387904
    · rw [if_pos hq, if_neg (fun h => by rcases h with h | h; (have := h.1; split at this <;> omega); (have h1 := h.1; have h2 := h.2; split at h1 <;> first | omega | (rename_i hm0; rw [if_pos hm0] at h2; omega)))]
    · rw [if_neg hq, br_n (by omega), br_p hn, w64 (n := (q : Int)) (by omega) (by omega), w64 (n := (m : Int)) (by omega) (by omega), w64 (n := 0 - (q : Int)) (by omega) (by omega)]
      by_cases hm0 : m = 0
      · rw [br_n (by omega), if_pos hm0, if_pos hm0, if_pos (.inl ⟨by omega, by omega⟩), Int.zero_sub, hm0]; rfl
      · rw [br_p (by omega), if_neg hm0, if_neg hm0]
        rw [if_pos, w64 (by omega) (by omega), w64 (by omega) (by omega), Int.zero_sub]
        by_cases hq2 : q = 4611686018427387904
        · exact .inr ⟨by omega, by omega⟩
        · exact .inl ⟨by omega, by omega⟩
  · obtain ⟨u, rfl⟩ : ∃ u : Nat, n = (u : Int) := ⟨n.toNat, by omega⟩
    obtain ⟨f1, f2⟩ := flq_nat (u := u) e1 e2
    rw [br_n hn, wu64N (a := u) (by omega), div_core (by omega) p1 p2 p3 p4 _ (some (e_I64_I64_B 0 0 false)) (fun q m h => by rw [br_p (by omega)]), f1, f2]
    have hm := Nat.mod_lt (u * nu) p2
    generalize u * nu / de = q at *
    generalize u * nu % de = m at *
    by_cases hq : q > 4611686018427387904
    · rw [if_pos hq, if_neg (fun h => by rcases h with h | h; (have := h.2; omega); (have := h.1; omega))]
    · rw [if_neg hq, br_n (by omega), br_n hn, if_pos (.inl ⟨by omega, by omega⟩), w64 (by omega) (by omega), w64 (by omega) (by omega)]
def flR (n : Int) (r : Y.Ratio) : Int × Int := if ¬ RatOk r then (0, 1) else if n < -1125899906842624 ∨ n > 1125899906842624 then (0, 2) else if InM (flq n r) then (flq n r, 0) else (0, 2)
def ceR (n : Int) (r : Y.Ratio) : Int × Int := if ¬ RatOk r then (0, 1) else if n < -1125899906842624 ∨ n > 1125899906842624 then (0, 2) else if InM (flq (-n) r) then (-flq (-n) r, 0) else (0, 2)
theorem ref03_Ceil_ok (n : Int) (r : Y.Ratio) : ref03_Ceil n r = some (e_I64_I64 (ceR n r).1 (ceR n r).2) := by
  rw [ref03_Ceil_eq, ref03_Valid_ok, o_B_e]
  unfold ceR
  by_cases hr : RatOk r
  · rw [decide_eq_true hr, if_neg (not_not_intro hr), Bool.not_true, br_f]
    by_cases h1 : n < -1125899906842624
    · rw [br_p h1, if_pos (.inl h1)]
    · rw [br_n h1]
      by_cases h2 : n > 1125899906842624
      · rw [br_p h2, if_pos (.inr h2)]
      · rw [br_n h2, if_neg (by omega), w64 (by omega) (by omega), Int.zero_sub, ref03_divide_ok hr (by omega) (by omega)]
        by_cases h3 : InM (flq (-n) r)
        · rw [if_pos h3, if_pos h3, o_I64_I64_B_e, Bool.not_true, br_f, w64 (by have := h3.2; omega) (by have := h3.1; omega), Int.zero_sub]
        · rw [if_neg h3, if_neg h3, o_I64_I64_B_e]; rfl
  · rw [decide_eq_false hr, if_pos hr]; rfl
theorem ratio_check_ok (n : Int) (r : Y.Ratio) : ratio_check n r = some (e_I64 (if ¬ RatOk r then 1 else if n < -1125899906842624 ∨ n > 1125899906842624 then 2 else 0)) := by
  rw [ratio_check_eq, ratio_Valid_ok, o_B_e]
  by_cases hr : RatOk r
  · rw [decide_eq_true hr, if_neg (not_not_intro hr), Bool.not_true, br_f]
    by_cases h1 : n < -1125899906842624
    · rw [br_p h1, if_pos (.inl h1)]
    · rw [br_n h1]
      by_cases h2 : n > 1125899906842624
      · rw [br_p h2, if_pos (.inr h2)]
      · rw [br_n h2, if_neg (by omega)]
  · rw [decide_eq_false hr, if_pos hr]; rfl
theorem ce_fl {n : Int} {r : Y.Ratio} (hr : RatOk r) : -flq (-n) r = (if flm n r > 0 then flq n r + 1 else flq n r) ∧ 0 ≤ flm n r := by
  obtain ⟨nu, de, e1, e2, p1, p2, p3, p4⟩ := rat_nat hr
  unfold flq flm
  rw [e1, e2, Int.neg_mul]
  have hd := Int.mul_ediv_add_emod (n * nu) de
  have h1 := Int.emod_nonneg (n * nu) (show (de : Int) ≠ 0 by omega)
  have h2 := Int.emod_lt_of_pos (n * nu) (show (0 : Int) < de by omega)
  generalize n * (nu : Int) / de = q at *
  generalize n * (nu : Int) % de = m at *
  refine ⟨?_, h1⟩
  by_cases hm : m > 0
  · rw [if_pos hm]
    have : -(n * (nu : Int)) / de = -q - 1 := ((Int.ediv_emod_unique (r := de - m) (by omega)).2 ⟨by rw [Int.mul_sub, Int.mul_neg]; omega, by omega, by omega⟩).1
    omega
  · rw [if_neg hm]
    have : -(n * (nu : Int)) / de = -q := ((Int.ediv_emod_unique (r := 0) (by omega)).2 ⟨by rw [Int.mul_neg]; omega, by omega, by omega⟩).1
    omega
theorem ratio_Ceil_ok (n : Int) (r : Y.Ratio) : ratio_Ceil n r = some (e_I64_I64 (ceR n r).1 (ceR n r).2) := by
  rw [ratio_Ceil_eq, ratio_check_ok, o_I64_e]
  unfold ceR
  by_cases hr : RatOk r
  · rw [if_neg (not_not_intro hr), if_neg (not_not_intro hr)]
    by_cases h1 : n < -1125899906842624 ∨ n > 1125899906842624
    · rw [if_pos h1, if_pos h1]; rfl
    · rw [if_neg h1, if_neg h1, br_eq' (by rfl), ratio_divide_ok hr (by omega) (by omega)]
      obtain ⟨c1, c2⟩ := ce_fl (n := n) hr
      rw [c1]
      generalize flq n r = f at *
      generalize flm n r = m at *
      by_cases h3 : InM f ∨ (f = -4611686018427387905 ∧ m ≠ 0)
      · rw [if_pos h3, o_I64_I64_B_e, br_t]
        by_cases hm : m > 0
        · rw [br_p hm, if_pos hm, Bool.not_true, br_f]
          have hf : -4611686018427387905 ≤ f ∧ f ≤ 4611686018427387904 := by rcases h3 with ⟨a, b⟩ | ⟨a, b⟩ <;> omega
          rw [w64 (by omega) (by omega), br_n (by omega)]
          by_cases h4 : f + 1 > 4611686018427387904
          · rw [br_p h4, if_neg (fun h : InM _ => by have := h.1; omega)]
          · rw [br_n h4, if_pos]
            exact ⟨by omega, by omega⟩
        · rw [br_n hm, if_neg hm, Bool.not_true, br_f]
          have hf : InM f := h3.resolve_right (by omega)
          rw [br_n (by have := hf.1; omega), br_n (by have := hf.2; omega), if_pos]
          have := hf.1; have := hf.2
          exact ⟨by omega, by omega⟩
      · rw [if_neg h3, o_I64_I64_B_e, br_f, Bool.not_false, br_t, if_neg]
        intro h
        have h1 := h.1; have h2 := h.2
        apply h3
        by_cases hm : m > 0
        · rw [if_pos hm] at c1
          by_cases h5 : f = -4611686018427387905
          · exact .inr ⟨h5, by omega⟩
          · exact .inl ⟨by omega, by omega⟩
        · rw [if_neg hm] at c1
          exact .inl ⟨by omega, by omega⟩
  · rw [if_pos hr, if_pos hr]; rfl
end Go.Vm
set_option linter.unusedVariables false
set_option linter.unusedSimpArgs false
namespace Go.Vm
open Go.Proofs
theorem getD_map {β : Type} (enc : β → List D) (ss : List β) {i : Nat} (h : i < ss.length) : (ss.map enc).getD i [] = enc ss[i] := by
  rw [List.getD_eq_getElem?_getD, List.getElem?_map, List.getElem?_eq_getElem h]
  rfl
theorem inB_lt {k : Nat} {n : Nat} (h : k < n) : inB (k : Int) n = true := inB_nat h
theorem toNatN (k : Nat) : ((k : Int)).toNat = k := rfl
def cmpR (a b : Y.Ratio) : Int := if a.Num * b.Den < b.Num * a.Den then -1 else if a.Num * b.Den > b.Num * a.Den then 1 else 0
theorem ref03_Cmp_ok {a b : Y.Ratio} (ha : RatOk a) (hb : RatOk b) : ref03_Cmp a b = some (e_I64 (cmpR a b)) := by
  rw [ref03_Cmp_eq, ref03_Valid_ok, o_B_e, ref03_Valid_ok, decide_eq_true ha, decide_eq_true hb, Bool.not_true, br_f, o_B_e, Bool.not_true, br_f]
  obtain ⟨n1, d1, e1, e2, p1, p2, p3, p4⟩ := rat_nat ha
  obtain ⟨n2, d2, f1, f2, q1, q2, q3, q4⟩ := rat_nat hb
  rw [e1, e2, f1, f2, wu64N (a := n1) (by omega), wu64N (a := d1) (by omega), wu64N (a := n2) (by omega), wu64N (a := d2) (by omega), Mul64_ok (by omega) (by omega), Mul64_ok (by omega) (by omega), o_U64_U64_e, o_U64_U64_e]
  unfold cmpR
  rw [e1, e2, f1, f2, mulN, mulN]
  have g1 := Nat.div_add_mod (n1 * d2) 18446744073709551616
  have g2 := Nat.div_add_mod (n2 * d1) 18446744073709551616
  have g3 := Nat.mod_lt (n1 * d2) (show 0 < 18446744073709551616 by decide)
  have g4 := Nat.mod_lt (n2 * d1) (show 0 < 18446744073709551616 by decide)
  generalize n1 * d2 / 18446744073709551616 = a1 at *
  generalize n1 * d2 % 18446744073709551616 = b1 at *
  generalize n2 * d1 / 18446744073709551616 = a2 at *
  generalize n2 * d1 % 18446744073709551616 = b2 at *
  generalize n1 * d2 = x at *
  generalize n2 * d1 = y at *
  by_cases c1 : a1 < a2
  · rw [br_p (by omega), if_pos (by omega)]
  · rw [br_n (by omega)]
    by_cases c2 : a1 = a2
    · rw [br_eq (by omega)]
      by_cases c3 : b1 < b2
      · rw [br_p (by omega), if_pos (by omega)]
      · rw [br_n (by omega), br_n (by omega), br_eq (by omega), if_neg (by omega)]
        by_cases c4 : b1 > b2
        · rw [br_p (by omega), if_pos (by omega)]
        · rw [br_n (by omega), if_neg (by omega)]
    · rw [br_ne (by omega), br_p (by omega), if_neg (by omega), if_pos (by omega)]
def RateOk (r : Y.Ratio) : Prop := RatOk r ∧ r.Den ≤ r.Num * 1024 ∧ r.Num ≤ r.Den * 1024
instance (r : Y.Ratio) : Decidable (RateOk r) := by unfold RateOk; infer_instance
theorem ref13_rate_ok (r : Y.Ratio) : ref13_rate r = some (e_B (decide (RateOk r))) := by
  rw [ref13_rate_eq, ref03_Valid_ok, o_B_e]
  by_cases hr : RatOk r
  · rw [decide_eq_true hr, br_t, ref03_Cmp_ok hr (by decide), o_I64_e, ref03_Cmp_ok hr (by decide)]
    unfold cmpR
    simp only [Int.one_mul, Int.mul_one]
    by_cases c1 : r.Den ≤ r.Num * 1024
    · rw [br_p (by split <;> first | omega | (split <;> omega)), o_I64_e]
      by_cases c2 : r.Num ≤ r.Den * 1024
      · rw [decide_eq_true (p := RateOk r) ⟨hr, c1, c2⟩, decide_eq_true (by split <;> first | omega | (split <;> omega))]
      · rw [decide_eq_false (p := RateOk r) fun h => c2 h.2.2, decide_eq_false (by split <;> first | omega | (split <;> omega))]
    · rw [br_n (by split <;> first | omega | (split <;> omega)), decide_eq_false (p := RateOk r) fun h => c1 h.2.1]
  · rw [decide_eq_false hr, br_f, decide_eq_false (p := RateOk r) fun h => hr h.1]
theorem clock_usual_ok (r : Y.Ratio) : clock_usual r = some (e_B (decide (RateOk r))) := by
  rw [clock_usual_eq, ratio_Valid_ok, o_B_e]
  by_cases hr : RatOk r
  · obtain ⟨h1, h2, h3, h4, _⟩ := id hr
    rw [decide_eq_true hr, br_t, w64 (by omega) (by omega), w64 (by omega) (by omega)]
    by_cases c1 : r.Den ≤ r.Num * 1024
    · rw [br_p (by omega)]
      congr 3
      exact propext ⟨fun h => ⟨hr, c1, h⟩, fun h => h.2.2⟩
    · rw [br_n (by omega), decide_eq_false (p := RateOk r) fun h => c1 h.2.1]
  · rw [decide_eq_false hr, br_f, decide_eq_false (p := RateOk r) fun h => hr h.1]
end Go.Vm
set_option linter.unusedVariables false
set_option linter.unusedSimpArgs false
namespace Go.Vm
open Go.Proofs
def segB : Option Int → List Y.Segment → Bool
  | _, [] => true
  | none, s :: ss => decide (RateOk s.Rate) && (decide (s.From ≤ 1099511627776) && (decide (s.From = 0) && segB (some s.From) ss))
  | some p, s :: ss => decide (RateOk s.Rate) && (decide (s.From ≤ 1099511627776) && (decide (p < s.From) && segB (some s.From) ss))
def clockB (ss : List Y.Segment) : Bool := segB none ss && decide (1 ≤ ss.length ∧ ss.length ≤ 64)
theorem len_test (n : Nat) : br (decide ((n : Int) ≥ 1)) (some (e_B (decide ((n : Int) ≤ 64)))) (some (e_B false)) = some (e_B (decide (1 ≤ n ∧ n ≤ 64))) := by
  by_cases h : 1 ≤ n
  · rw [br_p (by omega)]
    congr 3
    exact propext ⟨fun h' => ⟨h, by omega⟩, fun h' => by omega⟩
  · rw [br_n (by omega), decide_eq_false (p := 1 ≤ n ∧ n ≤ 64) (by omega)]
theorem clock_Valid_loop (ss : List Y.Segment) (hl : ss.length < 4611686018427387904) : ∀ (m i : Nat) (h1 : 1 ≤ i) (hi : i ≤ ss.length), ss.length - i = m → clock_Valid_k104 (ss.map Y.Segment.enc) ss.length i ⟨ss.map Y.Segment.enc⟩ = some (e_B (segB (some (ss[i - 1]'(by omega)).From) (ss.drop i) && decide (1 ≤ ss.length ∧ ss.length ≤ 64))) := by
  intro m
  induction m with
  | zero =>
    intro i h1 hi hm
    rw [clock_Valid_k104_eq, br_n (by omega), List.length_map, len_test, List.drop_of_length_le (by omega)]
    rfl
  | succ m ih =>
    intro i h1 hi hm
    have hlt : i < ss.length := by omega
    rw [clock_Valid_k104_eq, br_p (by omega), List.length_map, inB_lt hlt, br_t, toNatN, getD_map _ _ hlt, Y.Segment.get_enc, clock_usual_ok, o_B_e, List.drop_eq_getElem_cons hlt]
    unfold segB
    by_cases c1 : RateOk ss[i].Rate
    · rw [decide_eq_true c1, Bool.not_true, br_f, Bool.true_and]
      by_cases c2 : ss[i].From ≤ 1099511627776
      · rw [br_n (by omega), br_ne (by omega), br_p (by omega), w64 (by omega) (by omega), show ((i : Int) - 1) = ((i - 1 : Nat) : Int) by omega, inB_lt (show i - 1 < ss.length by omega), br_t, toNatN, getD_map _ _ (by omega), Y.Segment.get_enc, decide_eq_true c2, Bool.true_and]
        by_cases c3 : (ss[i - 1]'(by omega)).From < ss[i].From
        · rw [br_n (by omega), decide_eq_true c3, Bool.true_and, w64 (by omega) (by omega)]
          exact ih (i + 1) (by omega) (by omega) (by omega)
        · rw [br_p (by omega), decide_eq_false c3]; rfl
      · rw [br_p (by omega), decide_eq_false c2]; rfl
    · rw [decide_eq_false c1]; rfl
theorem clock_Valid_ok (ss : List Y.Segment) (hl : ss.length < 4611686018427387904) : clock_Valid ⟨ss.map Y.Segment.enc⟩ = some (e_B (clockB ss)) := by
  rw [clock_Valid_eq]
  cases ss with
  | nil => rw [clock_Valid_k104_eq]; rfl
  | cons s ss =>
    rw [clock_Valid_k104_eq, List.length_map]
    have hp : (0 : Nat) < (s :: ss).length := by simp
    rw [br_p (by omega), show (0 : Int) = ((0 : Nat) : Int) from rfl, inB_lt hp, br_t, toNatN, getD_map _ _ hp, Y.Segment.get_enc, List.getElem_cons_zero, clock_usual_ok, o_B_e]
    unfold clockB segB
    by_cases c1 : RateOk s.Rate
    · rw [decide_eq_true c1, Bool.not_true, br_f, Bool.true_and]
      by_cases c2 : s.From ≤ 1099511627776
      · rw [br_n (by omega), br_eq (by rfl), decide_eq_true c2, Bool.true_and]
        by_cases c3 : s.From = 0
        · rw [br_eq' (by omega), br_n (by omega), decide_eq_true c3, Bool.true_and, w64 (by omega) (by omega)]
          exact clock_Valid_loop (s :: ss) hl _ 1 (by omega) (by simp) rfl
        · rw [br_ne' (by omega), decide_eq_false c3]; rfl
      · rw [br_p (by omega), decide_eq_false c2]; rfl
    · rw [decide_eq_false c1]; rfl
theorem ref13_Valid_loop (ss : List Y.Segment) (hl : ss.length < 4611686018427387904) : ∀ (m i : Nat) (h1 : 1 ≤ i) (hi : i ≤ ss.length), ss.length - i = m → ref13_Valid_k104 (ss.map Y.Segment.enc) ss.length i ⟨ss.map Y.Segment.enc⟩ = some (e_B (segB (some (ss[i - 1]'(by omega)).From) (ss.drop i) && decide (1 ≤ ss.length ∧ ss.length ≤ 64))) := by
  intro m
  induction m with
  | zero =>
    intro i h1 hi hm
    rw [ref13_Valid_k104_eq, br_n (by omega), List.length_map, len_test, List.drop_of_length_le (by omega)]
    rfl
  | succ m ih =>
    intro i h1 hi hm
    have hlt : i < ss.length := by omega
    rw [ref13_Valid_k104_eq, br_p (by omega), List.length_map, inB_lt hlt, br_t, toNatN, getD_map _ _ hlt, Y.Segment.get_enc, ref13_rate_ok, o_B_e, List.drop_eq_getElem_cons hlt]
    unfold segB
    by_cases c1 : RateOk ss[i].Rate
    · rw [decide_eq_true c1, Bool.not_true, br_f, Bool.true_and]
      rw [br_ne (by omega), br_p (by omega), w64 (by omega) (by omega), show ((i : Int) - 1) = ((i - 1 : Nat) : Int) by omega, inB_lt (show i - 1 < ss.length by omega), br_t, toNatN, getD_map _ _ (by omega), Y.Segment.get_enc]
      by_cases c3 : (ss[i - 1]'(by omega)).From < ss[i].From
      · rw [br_n (by omega), decide_eq_true c3, Bool.true_and]
        by_cases c2 : ss[i].From ≤ 1099511627776
        · rw [br_n (by omega), decide_eq_true c2, Bool.true_and, w64 (by omega) (by omega)]
          exact ih (i + 1) (by omega) (by omega) (by omega)
        · rw [br_p (by omega), decide_eq_false c2]; rfl
      · rw [br_p (by omega), decide_eq_false c3, Bool.false_and, Bool.and_false]; rfl
    · rw [decide_eq_false c1]; rfl
theorem ref13_Valid_ok (ss : List Y.Segment) (hl : ss.length < 4611686018427387904) : ref13_Valid ⟨ss.map Y.Segment.enc⟩ = some (e_B (clockB ss)) := by
  rw [ref13_Valid_eq]
  cases ss with
  | nil => rw [ref13_Valid_k104_eq]; rfl
  | cons s ss =>
    rw [ref13_Valid_k104_eq, List.length_map]
    have hp : (0 : Nat) < (s :: ss).length := by simp
    rw [br_p (by omega), show (0 : Int) = ((0 : Nat) : Int) from rfl, inB_lt hp, br_t, toNatN, getD_map _ _ hp, Y.Segment.get_enc, List.getElem_cons_zero, ref13_rate_ok, o_B_e]
    unfold clockB segB
    by_cases c1 : RateOk s.Rate
    · rw [decide_eq_true c1, Bool.not_true, br_f, Bool.true_and, br_eq (by rfl)]
      by_cases c3 : s.From = 0
      · rw [br_eq' (by omega), br_n (by omega), decide_eq_true c3, Bool.true_and]
        by_cases c2 : s.From ≤ 1099511627776
        · rw [br_n (by omega), decide_eq_true c2, Bool.true_and, w64 (by omega) (by omega)]
          exact ref13_Valid_loop (s :: ss) hl _ 1 (by omega) (by simp) rfl
        · rw [br_p (by omega), decide_eq_false c2]; rfl
      · rw [br_ne' (by omega), decide_eq_false c3, Bool.false_and, Bool.and_false]; rfl
    · rw [decide_eq_false c1]; rfl
end Go.Vm
set_option linter.unusedVariables false
set_option linter.unusedSimpArgs false
namespace Go.Vm
open Go.Proofs
theorem andB (b c : Bool) : br b (some (e_B c)) (some (e_B false)) = some (e_B (b && c)) := by cases b <;> rfl
def phaseB (p : Y.Phase) : Bool := decide (RatOk p.Base) && (decide (p.Base.Num ≤ 768000) && (decide (p.Base.Den ≤ 768000) && (decide (p.Adjust ≥ -4096) && (decide (p.Adjust ≤ 4096) && (decide (p.Pos ≥ 0) && (decide (p.Pos ≤ 1125899906842624) && (decide (p.Frac ≥ 0) && decide (p.Frac < p.Base.Den * 65536))))))))
theorem parts_w {p : Y.Phase} (h1 : RatOk p.Base) : IntKind.i64.wrap (p.Base.Den * 65536) = p.Base.Den * 65536 := by
  obtain ⟨_, h2, _, h4, _⟩ := h1
  exact w64 (by omega) (by omega)
theorem phase_gen {x : Y.Phase} (f : Bool) (hf : RatOk x.Base → f = decide (x.Frac < x.Base.Den * 65536)) : some (e_B (decide (RatOk x.Base) && (decide (x.Base.Num ≤ 768000) && (decide (x.Base.Den ≤ 768000) && (decide (x.Adjust ≥ -4096) && (decide (x.Adjust ≤ 4096) && (decide (x.Pos ≥ 0) && (decide (x.Pos ≤ 1125899906842624) && (decide (x.Frac ≥ 0) && f))))))))) = some (e_B (phaseB x)) := by
  unfold phaseB
  by_cases h : RatOk x.Base
  · rw [hf h]
  · rw [decide_eq_false h]; rfl
theorem ref14_Valid_ok (x : Y.Phase) : ref14_Valid x = some (e_B (phaseB x)) := by
  rw [ref14_Valid_eq, ref03_Valid_ok, o_B_e, ref14_Parts_eq, o_I64_e]
  simp only [andB]
  exact phase_gen _ fun h => by rw [parts_w h]
theorem phase_Valid_ok (x : Y.Phase) : phase_Valid x = some (e_B (phaseB x)) := by
  rw [phase_Valid_eq, ratio_Valid_ok, o_B_e, phase_tuned_eq, phase_parts_eq, o_I64_e]
  simp only [andB, o_B_e, Bool.and_assoc]
  exact phase_gen _ fun h => by rw [parts_w h]
def i32D (n : Int) : List D := [.int .i32 n]
def smpB (n : Int) : Bool := decide (n ≥ -8388608) && decide (n ≤ 8388607)
theorem ref04_sample_ok (n : Int) : ref04_sample n = some (e_B (smpB n)) := by rw [ref04_sample_eq, andB]; rfl
theorem sample_is_ok (n : Int) : sample_is n = some (e_B (smpB n)) := by rw [sample_is_eq, andB]; rfl
theorem smp_loop {f : List (List D) → Int → Int → Option (List D)} {g : Int → Option (List D)} (hg : ∀ n, g n = some (e_B (smpB n)))
    (hf : ∀ l0 n1 n2, f l0 n1 n2 = br (decide (n2 < n1)) (br (inB n2 l0.length) (gI IntKind.i32 (l0.getD n2.toNat []) fun n1_1 => o_B (g n1_1) fun b2 => br (!b2) (some (e_B false)) (f l0 n1 (IntKind.i64.wrap (n2 + 1)))) none) (some (e_B true)))
    (ss : List Int) (hl : ss.length < 4611686018427387904) : ∀ (m i : Nat) (hi : i ≤ ss.length), ss.length - i = m → f (ss.map i32D) ss.length i = some (e_B ((ss.drop i).all smpB)) := by
  intro m
  induction m with
  | zero =>
    intro i hi hm
    rw [hf, br_n (by omega), List.drop_of_length_le (by omega)]
    rfl
  | succ m ih =>
    intro i hi hm
    have hlt : i < ss.length := by omega
    rw [hf, br_p (by omega), List.length_map, inB_lt hlt, br_t, toNatN, getD_map _ _ hlt, i32D, gI_e, hg, o_B_e, List.drop_eq_getElem_cons hlt, List.all_cons, w64 (by omega) (by omega)]
    cases smpB ss[i] with
    | false => rfl
    | true => exact ih (i + 1) (by omega) (by omega)
def blockB (c : Int) (ss : List Int) : Bool := decide (1 ≤ c ∧ c ≤ 8 ∧ ss.length % c.toNat = 0 ∧ ss.length / c.toNat ≤ 65536) && ss.all smpB
theorem block_gen {f : Y.Block → Option (List D)} {k : List (List D) → Int → Int → Option (List D)} (ss : List Int) (hk : k (ss.map i32D) ss.length 0 = some (e_B (ss.all smpB)))
    (hf : ∀ a : Y.Block, f a = br (decide (a.Channels < 1)) (some (e_B false)) (br (decide (a.Channels > 8)) (some (e_B false)) (br (decide (a.Channels = 0)) none (br ((↑a.Data.length : Int).tmod a.Channels != 0) (some (e_B false)) (br (decide (a.Channels = 0)) none (br (decide (IntKind.i64.wrap ((↑a.Data.length : Int).tdiv a.Channels) > 65536)) (some (e_B false)) (k a.Data (↑a.Data.length : Int) 0)))))))
    (c : Int) (hl : ss.length < 4611686018427387904) : f ⟨c, ss.map i32D⟩ = some (e_B (blockB c ss)) := by
  rw [hf]
  unfold blockB
  by_cases h1 : c < 1
  · rw [br_p h1, decide_eq_false (by omega)]; rfl
  · by_cases h2 : c > 8
    · rw [br_n h1, br_p h2, decide_eq_false (by omega)]; rfl
    · obtain ⟨q, rfl⟩ : ∃ q : Nat, c = (q : Int) := ⟨c.toNat, by omega⟩
      have hq0 : ¬ ((q : Int) = 0) := by omega
      have hz := Int.natCast_nonneg (ss.length / q)
      rw [br_n h1, br_n h2, br_n hq0, List.length_map, tmodN, toNatN]
      by_cases h3 : ss.length % q = 0
      · have hd := Nat.div_le_self ss.length q
        rw [br_eq' (by rw [h3]; rfl), br_n hq0, tdivN, w64 (by omega) (by omega)]
        by_cases h4 : ss.length / q > 65536
        · rw [br_p (by omega), decide_eq_false (fun h => by have := h.2.2.2; omega)]; rfl
        · rw [br_n (by omega), hk, decide_eq_true ⟨by omega, by omega, h3, by omega⟩]; rfl
      · rw [br_ne' (by omega), decide_eq_false (fun h => h3 h.2.2.1)]; rfl
theorem ref04_Valid_ok (c : Int) (ss : List Int) (hl : ss.length < 4611686018427387904) : ref04_Valid ⟨c, ss.map i32D⟩ = some (e_B (blockB c ss)) :=
  block_gen ss (smp_loop ref04_sample_ok ref04_Valid_k232_eq ss hl _ 0 (by omega) rfl) ref04_Valid_eq c hl
theorem sample_Valid_ok (c : Int) (ss : List Int) (hl : ss.length < 4611686018427387904) : sample_Valid ⟨c, ss.map i32D⟩ = some (e_B (blockB c ss)) :=
  block_gen ss (smp_loop sample_is_ok sample_Valid_k232_eq ss hl _ 0 (by omega) rfl) sample_Valid_eq c hl
def resB (r : Y.Resampler) (ss : List Int) : Bool := phaseB r.Phase && blockB r.Channels ss
theorem ref15_Valid_ok {r : Y.Resampler} {ss : List Int} (hs : r.Rest = ss.map i32D) (hl : ss.length < 4611686018427387904) : ref15_Valid r = some (e_B (resB r ss)) := by
  rw [ref15_Valid_eq, ref14_Valid_ok, o_B_e, ref15_block_eq, o_Block_e, hs, ref04_Valid_ok _ _ hl, o_B_e, andB]; rfl
theorem resample_Valid_ok {r : Y.Resampler} {ss : List Int} (hs : r.Rest = ss.map i32D) (hl : ss.length < 4611686018427387904) : resample_Valid r = some (e_B (resB r ss)) := by
  rw [resample_Valid_eq, phase_Valid_ok, o_B_e, resample_rest_eq, o_Block_e, hs, sample_Valid_ok _ _ hl, o_B_e, andB]; rfl
def waitR (r : Y.Resampler) (ss : List Int) : Int := if resB r ss then ((ss.length / r.Channels.toNat : Nat) : Int) else 0
theorem resB_ch {r : Y.Resampler} {ss : List Int} (h : resB r ss = true) : 1 ≤ r.Channels ∧ r.Channels ≤ 8 ∧ ss.length % r.Channels.toNat = 0 ∧ ss.length / r.Channels.toNat ≤ 65536 := by
  unfold resB blockB at h
  simp only [Bool.and_eq_true, decide_eq_true_eq] at h
  exact h.2.1
theorem wait_gen {r : Y.Resampler} {ss : List Int} (hs : r.Rest = ss.map i32D) (hl : ss.length < 4611686018427387904) :
    (br (!resB r ss) (some (e_I64 0)) (br (decide (r.Channels = 0)) none (some (e_I64 (IntKind.i64.wrap ((↑r.Rest.length : Int).tdiv r.Channels)))))) = some (e_I64 (waitR r ss)) := by
  unfold waitR
  cases h : resB r ss with
  | false => rfl
  | true =>
    obtain ⟨h1, h2, _, _⟩ := resB_ch h
    rw [Bool.not_true, br_f, br_n (by omega), if_pos rfl, hs, List.length_map]
    obtain ⟨q, hq⟩ : ∃ q : Nat, r.Channels = (q : Int) := ⟨r.Channels.toNat, by omega⟩
    have hd := Nat.div_le_self ss.length q
    have hz := Int.natCast_nonneg (ss.length / q)
    rw [hq, tdivN, w64 (by omega) (by omega), toNatN]
theorem ref15_Waiting_ok {r : Y.Resampler} {ss : List Int} (hs : r.Rest = ss.map i32D) (hl : ss.length < 4611686018427387904) : ref15_Waiting r = some (e_I64 (waitR r ss)) := by
  rw [ref15_Waiting_eq, ref15_Valid_ok hs hl, o_B_e]; exact wait_gen hs hl
theorem resample_Waiting_ok {r : Y.Resampler} {ss : List Int} (hs : r.Rest = ss.map i32D) (hl : ss.length < 4611686018427387904) : resample_Waiting r = some (e_I64 (waitR r ss)) := by
  rw [resample_Waiting_eq, resample_Valid_ok hs hl, o_B_e]; exact wait_gen hs hl
def ctlB (a : Y.Control) : Bool := decide (a.Target ≥ 0) && (decide (a.Target ≤ 65536) && (decide (a.Dead ≥ 0) && (decide (a.Dead ≤ 65536) && (decide (a.Gain ≥ 1) && (decide (a.Gain ≤ 4096) && (decide (a.Most ≥ 0) && decide (a.Most ≤ 4096)))))))
theorem ref18_Valid_ok (a : Y.Control) : ref18_Valid a = some (e_B (ctlB a)) := by rw [ref18_Valid_eq]; simp only [andB]; rfl
theorem control_Valid_ok (a : Y.Control) : control_Valid a = some (e_B (ctlB a)) := by rw [control_Valid_eq]; simp only [andB]; rfl
def bridgeB (b : Y.Bridge) (ss : List Int) : Bool := resB b.Resample ss && (ctlB b.Control && (decide (b.Capacity ≥ 1) && (decide (b.Capacity ≤ 65536) && (decide (waitR b.Resample ss ≤ b.Capacity) && (decide (b.Lost ≥ 0) && decide (b.Missed ≥ 0))))))
theorem ref19_Valid_ok {b : Y.Bridge} {ss : List Int} (hs : b.Resample.Rest = ss.map i32D) (hl : ss.length < 4611686018427387904) : ref19_Valid b = some (e_B (bridgeB b ss)) := by
  rw [ref19_Valid_eq, ref15_Valid_ok hs hl, o_B_e, ref18_Valid_ok, o_B_e, ref15_Waiting_ok hs hl, o_I64_e]; simp only [andB]; rfl
theorem bridge_Valid_ok {b : Y.Bridge} {ss : List Int} (hs : b.Resample.Rest = ss.map i32D) (hl : ss.length < 4611686018427387904) : bridge_Valid b = some (e_B (bridgeB b ss)) := by
  rw [bridge_Valid_eq, resample_Valid_ok hs hl, o_B_e, control_Valid_ok, o_B_e, resample_Waiting_ok hs hl, o_I64_e]; simp only [andB]; rfl
end Go.Vm
set_option linter.unusedVariables false
set_option linter.unusedSimpArgs false
namespace Go.Vm
open Go.Proofs
def goR {β α : Type} (step : Nat → β → Option α → Option α) (E : Option α) : Nat → List β → Option α
  | _, [] => E
  | i, s :: ss => step i s (goR step E (i + 1) ss)
theorem range_loop {β α : Type} (enc : β → List D) (ss : List β) (hl : ss.length < 4611686018427387904) {F : Int → Option α} (step : Nat → β → Option α → Option α) (E : Option α) (body : Nat → Option α)
    (hF : ∀ i : Nat, F i = br (decide ((i : Int) < (ss.length : Nat))) (br (inB (i : Int) (ss.map enc).length) (body i) none) E)
    (hs : ∀ (i : Nat) (h : i < ss.length), (ss.map enc).getD i [] = enc ss[i] → IntKind.i64.wrap ((i : Int) + 1) = ((i + 1 : Nat) : Int) → body i = step i ss[i] (F ((i + 1 : Nat) : Int))) :
    ∀ i : Nat, i ≤ ss.length → F i = goR step E i (ss.drop i) := by
  have main : ∀ (m i : Nat), i ≤ ss.length → ss.length - i = m → F i = goR step E i (ss.drop i) := by
    intro m
    induction m with
    | zero =>
      intro i hi hm
      rw [hF, br_n (by omega), List.drop_of_length_le (by omega)]
      rfl
    | succ m ih =>
      intro i hi hm
      have hlt : i < ss.length := by omega
      rw [hF, br_p (by omega), inB_lt (by rw [List.length_map]; exact hlt), br_t, hs i hlt (getD_map enc ss hlt) (by rw [w64 (by omega) (by omega)]; omega), ih (i + 1) (by omega) (by omega), List.drop_eq_getElem_cons hlt]
      rfl
  exact fun i hi => main _ i hi rfl
theorem range_all {β α : Type} (enc : β → List D) (ss : List β) (hl : ss.length < 4611686018427387904) {F : Int → Option α} (step : Nat → β → Option α → Option α) (E : Option α) (body : Nat → Option α)
    (hF : ∀ i : Nat, F i = br (decide ((i : Int) < (ss.length : Nat))) (br (inB (i : Int) (ss.map enc).length) (body i) none) E)
    (hs : ∀ (i : Nat) (h : i < ss.length), (ss.map enc).getD i [] = enc ss[i] → IntKind.i64.wrap ((i : Int) + 1) = ((i + 1 : Nat) : Int) → body i = step i ss[i] (F ((i + 1 : Nat) : Int))) :
    F 0 = goR step E 0 ss := range_loop enc ss hl step E body hF hs 0 (Nat.zero_le _)
theorem goR_all {β : Type} (p : β → Bool) (e : Bool) : ∀ (ss : List β) (i : Nat), goR (fun _ s k => if p s then k else some (e_B false)) (some (e_B e)) i ss = some (e_B (ss.all p && e))
  | [], i => by cases e <;> rfl
  | s :: ss, i => by
    simp only [goR, List.all_cons]
    cases p s with
    | false => rfl
    | true => simpa using goR_all p e ss (i + 1)
theorem goR_any {β : Type} (p : β → Bool) : ∀ (ss : List β) (i : Nat), goR (fun _ s k => if p s then some (e_B true) else k) (some (e_B false)) i ss = some (e_B (ss.any p))
  | [], i => rfl
  | s :: ss, i => by
    simp only [goR, List.any_cons]
    cases p s with
    | true => rfl
    | false => simpa using goR_any p ss (i + 1)
def inSpan (n : Int) (s : Y.Span) : Bool := decide (s.Lo ≤ n) && decide (n ≤ s.Hi)
theorem ref09_Has_loop (n : Int) (ss : List Y.Span) (hl : ss.length < 4611686018427387904) : ref09_Has_k104 n (ss.map Y.Span.enc) ss.length 0 = some (e_B (ss.any (inSpan n))) := by
  rw [range_all (F := fun i => ref09_Has_k104 n (ss.map Y.Span.enc) ss.length i) Y.Span.enc ss hl (fun _ s k => if inSpan n s then some (e_B true) else k) (some (e_B false)) _ (fun i => ref09_Has_k104_eq _ _ _ _) (fun i h e1 e2 => ?_), goR_any]
  rw [toNatN, e1, Y.Span.get_enc, e2]
  unfold inSpan
  by_cases c1 : ss[i].Lo ≤ n
  · rw [br_p c1, decide_eq_true c1, Bool.true_and]
    by_cases c2 : n ≤ ss[i].Hi
    · rw [br_p c2, decide_eq_true c2]; rfl
    · rw [br_n c2, decide_eq_false c2]; rfl
  · rw [br_n c1, decide_eq_false c1]; rfl
end Go.Vm
set_option linter.unusedVariables false
set_option linter.unusedSimpArgs false
namespace Go.Vm
open Go.Proofs
def spanB (s : Y.Span) : Bool := decide (0 ≤ s.Lo) && (decide (s.Lo ≤ s.Hi) && decide (s.Hi ≤ 2147483647))
def spansB : Option Int → List Y.Span → Bool
  | _, [] => true
  | none, s :: ss => spanB s && spansB (some s.Hi) ss
  | some p, s :: ss => spanB s && (decide (p + 1 < s.Lo) && spansB (some s.Hi) ss)
def setB (ss : List Y.Span) : Bool := spansB none ss && decide (ss.length ≤ 64)
theorem intset_fine_ok (s : Y.Span) : intset_fine s = some (e_B (spanB s)) := by rw [intset_fine_eq]; simp only [andB]; rfl
theorem spanB_rng {s : Y.Span} (h : spanB s = true) : 0 ≤ s.Lo ∧ s.Lo ≤ s.Hi ∧ s.Hi ≤ 2147483647 := by
  unfold spanB at h
  simpa only [Bool.and_eq_true, decide_eq_true_eq] using h
theorem len64 (n : Nat) : some (e_B (decide ((n : Int) ≤ 64))) = some (e_B (decide (n ≤ 64))) := by
  congr 3
  exact propext ⟨fun h => by omega, fun h => by omega⟩
theorem intset_Valid_loop (ss : List Y.Span) (hl : ss.length < 4611686018427387904) : ∀ (m i : Nat) (h1 : 1 ≤ i) (hi : i ≤ ss.length), ss.length - i = m → spanB (ss[i - 1]'(by omega)) = true → intset_Valid_k104 (ss.map Y.Span.enc) ss.length i ⟨ss.map Y.Span.enc⟩ = some (e_B (spansB (some (ss[i - 1]'(by omega)).Hi) (ss.drop i) && decide (ss.length ≤ 64))) := by
  intro m
  induction m with
  | zero =>
    intro i h1 hi hm hp
    rw [intset_Valid_k104_eq, br_n (by omega), List.length_map, len64, List.drop_of_length_le (by omega)]
    rfl
  | succ m ih =>
    intro i h1 hi hm hp
    have hlt : i < ss.length := by omega
    rw [intset_Valid_k104_eq, br_p (by omega), List.length_map, inB_lt hlt, br_t, toNatN, getD_map _ _ hlt, Y.Span.get_enc, intset_fine_ok, o_B_e, List.drop_eq_getElem_cons hlt]
    unfold spansB
    cases c1 : spanB ss[i] with
    | false => rfl
    | true =>
      obtain ⟨a1, a2, a3⟩ := spanB_rng hp
      rw [Bool.not_true, br_f, Bool.true_and, br_p (by omega), w64 (by omega) (by omega), show ((i : Int) - 1) = ((i - 1 : Nat) : Int) by omega, inB_lt (show i - 1 < ss.length by omega), br_t, toNatN, getD_map _ _ (by omega), Y.Span.get_enc, w64 (by omega) (by omega)]
      by_cases c3 : (ss[i - 1]'(by omega)).Hi + 1 < ss[i].Lo
      · rw [br_n (by omega), decide_eq_true c3, Bool.true_and, w64 (by omega) (by omega)]
        exact ih (i + 1) (by omega) (by omega) (by omega) c1
      · rw [br_p (by omega), decide_eq_false c3]; rfl
theorem intset_Valid_ok (ss : List Y.Span) (hl : ss.length < 4611686018427387904) : intset_Valid ⟨ss.map Y.Span.enc⟩ = some (e_B (setB ss)) := by
  rw [intset_Valid_eq]
  cases ss with
  | nil => rw [intset_Valid_k104_eq]; rfl
  | cons s ss =>
    rw [intset_Valid_k104_eq, List.length_map]
    have hp : (0 : Nat) < (s :: ss).length := by simp
    rw [br_p (by omega), show (0 : Int) = ((0 : Nat) : Int) from rfl, inB_lt hp, br_t, toNatN, getD_map _ _ hp, Y.Span.get_enc, List.getElem_cons_zero, intset_fine_ok, o_B_e]
    unfold setB spansB
    cases c1 : spanB s with
    | false => rfl
    | true =>
      rw [Bool.not_true, br_f, Bool.true_and, br_n (by omega), w64 (by omega) (by omega)]
      exact intset_Valid_loop (s :: ss) hl _ 1 (by omega) (by simp) rfl c1
theorem ref09_Valid_loop (ss : List Y.Span) (hl : ss.length < 4611686018427387904) : ∀ (m i : Nat) (h1 : 1 ≤ i) (hi : i ≤ ss.length), ss.length - i = m → ref09_Valid_k104 (ss.map Y.Span.enc) ss.length i ⟨ss.map Y.Span.enc⟩ = some (e_B (spansB (some (ss[i - 1]'(by omega)).Hi) (ss.drop i) && decide (ss.length ≤ 64))) := by
  intro m
  induction m with
  | zero =>
    intro i h1 hi hm
    rw [ref09_Valid_k104_eq, br_n (by omega), List.length_map, len64, List.drop_of_length_le (by omega)]
    rfl
  | succ m ih =>
    intro i h1 hi hm
    have hlt : i < ss.length := by omega
    rw [ref09_Valid_k104_eq, br_p (by omega), List.length_map, inB_lt hlt, br_t, toNatN, getD_map _ _ hlt, Y.Span.get_enc, List.drop_eq_getElem_cons hlt]
    unfold spansB spanB
    by_cases c1 : 0 ≤ ss[i].Lo
    · rw [br_n (by omega), decide_eq_true c1, Bool.true_and]
      by_cases c2 : ss[i].Lo ≤ ss[i].Hi
      · rw [br_n (by omega), decide_eq_true c2, Bool.true_and]
        by_cases c4 : ss[i].Hi ≤ 2147483647
        · rw [br_n (by omega), decide_eq_true c4, Bool.true_and, br_p (by omega), w64 (by omega) (by omega), show ((i : Int) - 1) = ((i - 1 : Nat) : Int) by omega, inB_lt (show i - 1 < ss.length by omega), br_t, toNatN, getD_map _ _ (by omega), Y.Span.get_enc, w64 (by omega) (by omega)]
          by_cases c3 : (ss[i - 1]'(by omega)).Hi + 1 < ss[i].Lo
          · rw [br_n (by omega), decide_eq_true c3, Bool.true_and, w64 (by omega) (by omega)]
            exact ih (i + 1) (by omega) (by omega) (by omega)
          · rw [br_p (by omega), decide_eq_false c3]; rfl
        · rw [br_p (by omega), decide_eq_false c4]; rfl
      · rw [br_p (by omega), decide_eq_false c2]; rfl
    · rw [br_p (by omega), decide_eq_false c1]; rfl
theorem ref09_Valid_ok (ss : List Y.Span) (hl : ss.length < 4611686018427387904) : ref09_Valid ⟨ss.map Y.Span.enc⟩ = some (e_B (setB ss)) := by
  rw [ref09_Valid_eq]
  cases ss with
  | nil => rw [ref09_Valid_k104_eq]; rfl
  | cons s ss =>
    rw [ref09_Valid_k104_eq, List.length_map]
    have hp : (0 : Nat) < (s :: ss).length := by simp
    rw [br_p (by omega), show (0 : Int) = ((0 : Nat) : Int) from rfl, inB_lt hp, br_t, toNatN, getD_map _ _ hp, Y.Span.get_enc, List.getElem_cons_zero]
    unfold setB spansB spanB
    by_cases c1 : 0 ≤ s.Lo
    · rw [br_n (by omega), decide_eq_true c1, Bool.true_and]
      by_cases c2 : s.Lo ≤ s.Hi
      · rw [br_n (by omega), decide_eq_true c2, Bool.true_and]
        by_cases c4 : s.Hi ≤ 2147483647
        · rw [br_n (by omega), decide_eq_true c4, Bool.true_and, br_n (by omega), w64 (by omega) (by omega)]
          exact ref09_Valid_loop (s :: ss) hl _ 1 (by omega) (by simp) rfl
        · rw [br_p (by omega), decide_eq_false c4]; rfl
      · rw [br_p (by omega), decide_eq_false c2]; rfl
    · rw [br_p (by omega), decide_eq_false c1]; rfl
def hasB (ss : List Y.Span) (n : Int) : Bool := setB ss && ss.any (inSpan n)
theorem ref09_Has_ok (ss : List Y.Span) (hl : ss.length < 4611686018427387904) (n : Int) : ref09_Has ⟨ss.map Y.Span.enc⟩ n = some (e_B (hasB ss n)) := by
  rw [ref09_Has_eq, ref09_spans_eq, ref09_Valid_ok ss hl, o_B_e]
  unfold hasB
  cases setB ss with
  | false => exact ref09_Has_loop n [] (by simp)
  | true =>
    rw [Bool.not_true, br_f, o_L2_e, List.length_map]
    exact ref09_Has_loop n ss hl
theorem intset_Has_loop (n : Int) (ss : List Y.Span) (hl : ss.length < 4611686018427387904) : ∃ k : Int, slices_IndexFunc_G__intset_Has_1_k104 (ss.map Y.Span.enc) ss.length 0 n = some (e_I64_I64 k n) ∧ (k ≥ 0 ↔ ss.any (inSpan n) = true) := by
  have h : slices_IndexFunc_G__intset_Has_1_k104 (ss.map Y.Span.enc) ss.length 0 n = goR (fun i s k => if inSpan n s then some (e_I64_I64 i n) else k) (some (e_I64_I64 (-1) n)) 0 ss :=
    range_all (F := fun i => slices_IndexFunc_G__intset_Has_1_k104 (ss.map Y.Span.enc) ss.length i n) Y.Span.enc ss hl _ _ _ (fun i => slices_IndexFunc_G__intset_Has_1_k104_eq _ _ _ _) (fun i h e1 e2 => by
      rw [toNatN, e1, Y.Span.get_enc, e2, intset_Has_1_eq]
      unfold inSpan
      by_cases c1 : ss[i].Lo ≤ n
      · rw [br_p c1, o_B_I64_e, decide_eq_true c1, Bool.true_and, br_ite]
      · rw [br_n c1, o_B_I64_e, decide_eq_false c1]; rfl)
  rw [h]
  have main : ∀ (ss : List Y.Span) (i : Nat), ∃ k : Int, goR (fun i s k => if inSpan n s then some (e_I64_I64 i n) else k) (some (e_I64_I64 (-1) n)) i ss = some (e_I64_I64 k n) ∧ (k ≥ 0 ↔ ss.any (inSpan n) = true) := by
    intro ss
    induction ss with
    | nil => intro i; exact ⟨-1, rfl, by simp⟩
    | cons s ss ih =>
      intro i
      simp only [goR, List.any_cons]
      cases inSpan n s with
      | true => exact ⟨i, rfl, by simp⟩
      | false => simpa using ih (i + 1)
  exact main ss 0
theorem intset_Has_ok (ss : List Y.Span) (hl : ss.length < 4611686018427387904) (n : Int) : intset_Has ⟨ss.map Y.Span.enc⟩ n = some (e_B (hasB ss n)) := by
  have key : ∀ ss : List Y.Span, ss.length < 4611686018427387904 → (o_B_I64 (slices_ContainsFunc_G__intset_Has_1 (ss.map Y.Span.enc) n) fun b2 n3 => some (e_B b2)) = some (e_B (ss.any (inSpan n))) := fun ss hl => by
    obtain ⟨k, h1, h2⟩ := intset_Has_loop n ss hl
    rw [slices_ContainsFunc_G__intset_Has_1_eq, slices_IndexFunc_G__intset_Has_1_eq, List.length_map, h1, o_I64_I64_e, o_B_I64_e]
    congr 2
    rw [Bool.eq_iff_iff, decide_eq_true_eq, h2]
  rw [intset_Has_eq, intset_spans_eq, intset_Valid_ok ss hl, o_B_e]
  unfold hasB
  cases setB ss with
  | false => exact key [] (by simp)
  | true => rw [Bool.not_true, br_f, o_L2_e, key ss hl]; rfl
end Go.Vm
set_option linter.unusedVariables false
set_option linter.unusedSimpArgs false
namespace Go.Vm
open Go.Proofs
def allI {β : Type} (p : Nat → β → Bool) : Nat → List β → Bool
  | _, [] => true
  | i, s :: ss => p i s && allI p (i + 1) ss
theorem goR_allI {β : Type} (p : Nat → β → Bool) (E : Option (List D)) (e : Bool) (hE : E = some (e_B e)) : ∀ (ss : List β) (i : Nat), goR (fun i s k => if p i s then k else some (e_B false)) E i ss = some (e_B (allI p i ss && e))
  | [], i => by rw [hE]; rfl
  | s :: ss, i => by
    simp only [goR, allI]
    cases p i s with
    | false => rfl
    | true => simpa using goR_allI p E e hE ss (i + 1)
def i64D (n : Int) : List D := [.int .i64 n]
def mpD (m : List Int) : List (List D) := m.map i64D
theorem len_ne (a b : Nat) (x y : Option (List D)) : br ((a : Int) != (b : Int)) x y = if a = b then y else x := by
  by_cases h : a = b
  · rw [br_eq' (by omega), if_pos h]
  · rw [br_ne' (by omega), if_neg h]
theorem same_loop {f : List (List D) → List (List D) → Int → Int → Option (List D)}
    (hf : ∀ l0 l1 n2 n3, f l0 l1 n2 n3 = br (decide (n3 < n2)) (br (inB n3 l0.length) (gI IntKind.i64 (l0.getD n3.toNat []) fun n1 => br (inB n3 l1.length) (gI IntKind.i64 (l1.getD n3.toNat []) fun n2_1 => br (n1 != n2_1) (some (e_B false)) (f l0 l1 n2 (IntKind.i64.wrap (n3 + 1)))) none) none) (some (e_B true)))
    (a b : List Int) (hl : a.length < 4611686018427387904) (he : a.length = b.length) : f (mpD a) (mpD b) a.length 0 = some (e_B (decide (a = b))) := by
  have h := range_all (F := fun i => f (mpD a) (mpD b) a.length i) i64D a hl (fun i s k => if decide (b[i]? = some s) then k else some (e_B false)) (some (e_B true)) _ (fun i => hf _ _ _ _) (fun i h e1 e2 => by
    have hb : i < b.length := by omega
    rw [toNatN, show (mpD a).getD i [] = i64D a[i] from e1, i64D, gI_e, show (mpD b).length = b.length from List.length_map _, inB_lt hb, br_t, show (mpD b).getD i [] = i64D b[i] from getD_map _ _ hb, i64D, gI_e, e2]
    by_cases c : a[i] = b[i]
    · rw [br_eq' c, if_pos (by rw [List.getElem?_eq_getElem hb, c]; simp)]
    · rw [br_ne' c, if_neg (by rw [List.getElem?_eq_getElem hb]; simpa using fun e => c e.symm)])
  rw [h, goR_allI _ _ true rfl]
  have main : ∀ (a b pre : List Int), a.length = b.length → (allI (fun i s => decide ((pre ++ b)[i]? = some s)) pre.length a && true) = decide (a = b) := by
    intro a
    induction a with
    | nil => intro b pre hb; cases b with
      | nil => rfl
      | cons => cases hb
    | cons x a ih =>
      intro b pre hb
      cases b with
      | nil => cases hb
      | cons y b =>
        simp only [allI, Bool.and_true, List.getElem?_append_right (Nat.le_refl _), Nat.sub_self, List.getElem?_cons_zero, Option.some.injEq]
        have := ih b (pre ++ [y]) (by simpa using hb)
        rw [List.append_assoc, List.singleton_append, List.length_append, List.length_singleton, Bool.and_true] at this
        rw [this, Bool.eq_iff_iff]
        simp only [Bool.and_eq_true, decide_eq_true_eq, List.cons.injEq]
        exact ⟨fun h => ⟨h.1.symm, h.2⟩, fun h => ⟨h.1.symm, h.2⟩⟩
  have := main a b [] he
  rw [List.nil_append, List.length_nil] at this
  rw [this]
theorem ref06_Same_ok (a b : List Int) (hl : a.length < 4611686018427387904) : ref06_Same (mpD a) (mpD b) = some (e_B (decide (a = b))) := by
  rw [ref06_Same_eq, show (mpD a).length = a.length from List.length_map _, show (mpD b).length = b.length from List.length_map _, len_ne]
  by_cases h : a.length = b.length
  · rw [if_pos h, same_loop ref06_Same_k232_eq a b hl h]
  · rw [if_neg h, decide_eq_false fun e => h (by rw [e])]
theorem channels_Same_ok (a b : List Int) (hl : a.length < 4611686018427387904) : channels_Same (mpD a) (mpD b) = some (e_B (decide (a = b))) := by
  rw [channels_Same_eq, slices_Equal_G_int_int_eq, show (mpD a).length = a.length from List.length_map _, show (mpD b).length = b.length from List.length_map _, len_ne]
  by_cases h : a.length = b.length
  · rw [if_pos h, same_loop slices_Equal_G_int_int_k232_eq a b hl h, o_B_e]
  · rw [if_neg h, decide_eq_false fun e => h (by rw [e])]; rfl
def fstI (v : Int) : Nat → List Int → Int
  | _, [] => -1
  | i, s :: ss => if s = v then i else fstI v (i + 1) ss
theorem fstI_mem (v : Int) : ∀ (ss : List Int) (i : Nat), (fstI v i ss ≥ 0 ↔ v ∈ ss)
  | [], i => by simp [fstI]
  | s :: ss, i => by
    unfold fstI
    by_cases c : s = v
    · rw [if_pos c]; exact ⟨fun _ => by simp [c], fun _ => by omega⟩
    · rw [if_neg c, fstI_mem v ss (i + 1), List.mem_cons]
      exact ⟨.inr, fun h => h.resolve_left fun e => c e.symm⟩
theorem fstI_at (v : Int) : ∀ (pre post : List Int) (i : Nat), (fstI v i (pre ++ v :: post) = ((i + pre.length : Nat) : Int) ↔ v ∉ pre)
  | [], post, i => by simp [fstI]
  | s :: pre, post, i => by
    rw [List.cons_append]
    unfold fstI
    by_cases c : s = v
    · rw [if_pos c]
      simp only [List.length_cons, List.mem_cons, c, true_or, not_true_eq_false, iff_false]
      omega
    · have := fstI_at v pre post (i + 1)
      rw [if_neg c, List.length_cons, show i + (pre.length + 1) = i + 1 + pre.length by omega, this, List.mem_cons]
      exact ⟨fun h e => e.elim (fun e => c e.symm) h, fun h e => h (.inr e)⟩
theorem goR_fst (v : Int) : ∀ (ss : List Int) (i : Nat), goR (fun i s k => if s = v then some (e_I64 ((i : Nat) : Int)) else k) (some (e_I64 (-1))) i ss = some (e_I64 (fstI v i ss))
  | [], i => rfl
  | s :: ss, i => by
    simp only [goR, fstI]
    by_cases c : s = v
    · rw [if_pos c, if_pos c]
    · rw [if_neg c, if_neg c]; exact goR_fst v ss (i + 1)
theorem ref06_Index_ok (a : List Int) (hl : a.length < 4611686018427387904) (v : Int) : ref06_Index (mpD a) v = some (e_I64 (fstI v 0 a)) := by
  rw [ref06_Index_eq, show (mpD a).length = a.length from List.length_map _]
  rw [range_all (F := fun i => ref06_Index_k104 v (mpD a) a.length i) i64D a hl (fun i s k => if s = v then some (e_I64 ((i : Nat) : Int)) else k) (some (e_I64 (-1))) _ (fun i => ref06_Index_k104_eq _ _ _ _) (fun i h e1 e2 => by
    rw [toNatN, show (mpD a).getD i [] = i64D a[i] from e1, i64D, gI_e, e2]
    by_cases c : a[i] = v
    · rw [br_eq c, if_pos c]
    · rw [br_ne c, if_neg c]), goR_fst]
theorem slices_Contains_ok (a : List Int) (hl : a.length < 4611686018427387904) (v : Int) : slices_Contains_G_int_int (mpD a) v = some (e_B (decide (v ∈ a))) := by
  rw [slices_Contains_G_int_int_eq, slices_Index_G_int_int_eq, show (mpD a).length = a.length from List.length_map _]
  rw [range_all (F := fun i => slices_Index_G_int_int_k104 (mpD a) v a.length i) i64D a hl (fun i s k => if s = v then some (e_I64 ((i : Nat) : Int)) else k) (some (e_I64 (-1))) _ (fun i => slices_Index_G_int_int_k104_eq _ _ _ _) (fun i h e1 e2 => by
    rw [toNatN, show (mpD a).getD i [] = i64D a[i] from e1, i64D, gI_e, e2]
    by_cases c : a[i] = v
    · rw [br_eq c.symm, if_pos c]
    · rw [br_ne (fun e => c e.symm), if_neg c]), goR_fst, o_I64_e]
  congr 3
  exact propext (fstI_mem v a 0)
def chOk (ms : List Int) (i : Nat) (s : Int) : Bool := decide (1 ≤ s) && (decide (s ≤ 8) && !decide (s ∈ ms.take i))
def chB (ms : List Int) : Bool := decide (1 ≤ ms.length ∧ ms.length ≤ 8) && allI (chOk ms) 0 ms
theorem drop_take (ms : List Int) (i : Nat) : List.drop 0 (List.take i (mpD ms)) = mpD (ms.take i) := by rw [List.drop_zero]; exact List.map_take.symm
theorem channels_Valid_ok (a : List Int) (hl : a.length < 4611686018427387904) : channels_Valid (mpD a) = some (e_B (chB a)) := by
  rw [channels_Valid_eq, show (mpD a).length = a.length from List.length_map _]
  unfold chB
  by_cases h1 : 1 ≤ a.length
  · rw [br_n (by omega)]
    by_cases h2 : a.length ≤ 8
    · rw [br_n (by omega), decide_eq_true ⟨h1, h2⟩, Bool.true_and]
      rw [range_all (F := fun i => channels_Valid_k232 (mpD a) (mpD a) a.length i) i64D a hl (fun i s k => if chOk a i s then k else some (e_B false)) (some (e_B true)) _ (fun i => channels_Valid_k232_eq _ _ _ _) (fun i h e1 e2 => by
        rw [toNatN, show (mpD a).getD i [] = i64D a[i] from e1, i64D, gI_e, e2]
        unfold chOk
        by_cases c1 : 1 ≤ a[i]
        · rw [br_n (by omega), decide_eq_true c1, Bool.true_and]
          by_cases c2 : a[i] ≤ 8
          · rw [br_n (by omega), decide_eq_true c2, Bool.true_and, br_p ⟨by omega, by rw [show (mpD a).length = a.length from List.length_map _]; omega⟩, drop_take, slices_Contains_ok _ (by rw [List.length_take]; omega), o_B_e]
            cases decide (a[i] ∈ a.take i) <;> rfl
          · rw [br_p (by omega), decide_eq_false c2]; rfl
        · rw [br_p (by omega), decide_eq_false c1]; rfl), goR_allI _ _ true rfl, Bool.and_true]
    · rw [br_p (by omega), decide_eq_false (by omega)]; rfl
  · rw [br_p (by omega), decide_eq_false (by omega)]; rfl
theorem ref06_Valid_ok (a : List Int) (hl : a.length < 4611686018427387904) : ref06_Valid (mpD a) = some (e_B (chB a)) := by
  rw [ref06_Valid_eq, show (mpD a).length = a.length from List.length_map _]
  have hE : br (decide (((mpD a).length : Int) ≥ 1)) (some (e_B (decide (((mpD a).length : Int) ≤ 8)))) (some (e_B false)) = some (e_B (decide (1 ≤ a.length ∧ a.length ≤ 8))) := by
    rw [show (mpD a).length = a.length from List.length_map _]
    by_cases h : 1 ≤ a.length
    · rw [br_p (by omega)]
      congr 3
      exact propext ⟨fun h' => ⟨h, by omega⟩, fun h' => by omega⟩
    · rw [br_n (by omega), decide_eq_false (p := 1 ≤ a.length ∧ a.length ≤ 8) (by omega)]
  rw [range_all (F := fun i => ref06_Valid_k104 (mpD a) (mpD a) a.length i) i64D a hl (fun i s k => if chOk a i s then k else some (e_B false)) _ _ (fun i => ref06_Valid_k104_eq _ _ _ _) (fun i h e1 e2 => by
    rw [toNatN, show (mpD a).getD i [] = i64D a[i] from e1, i64D, gI_e, e2, ref06_Index_ok a hl, o_I64_e]
    unfold chOk
    have hf := fstI_at a[i] (a.take i) (a.drop (i + 1)) 0
    rw [← List.drop_eq_getElem_cons h, List.take_append_drop, Nat.zero_add, List.length_take, Nat.min_eq_left (by omega)] at hf
    by_cases c1 : 1 ≤ a[i]
    · rw [br_n (by omega), decide_eq_true c1, Bool.true_and]
      by_cases c2 : a[i] ≤ 8
      · rw [br_n (by omega), decide_eq_true c2, Bool.true_and]
        by_cases c3 : a[i] ∈ a.take i
        · rw [br_ne' (fun e => hf.1 e c3), decide_eq_true c3]; rfl
        · rw [br_eq' (hf.2 c3), decide_eq_false c3]; rfl
      · rw [br_p (by omega), decide_eq_false c2]; rfl
    · rw [br_p (by omega), decide_eq_false c1]; rfl), goR_allI _ _ _ hE]
  unfold chB
  rw [Bool.and_comm]
end Go.Vm
set_option linter.unusedVariables false
set_option linter.unusedSimpArgs false
namespace Go.Vm
open Go.Proofs
structure TBox where
  kinds : Int
  rates : List Y.Span
  maps : List (List Int)
  sizes : List Y.Span
def mapD1 (m : List Int) : List D := [D.list 1 (mpD m)]
def mapsD (ms : List (List Int)) : List (List D) := ms.map mapD1
def TBox.y (b : TBox) : Y.Box := ⟨b.kinds, ⟨b.rates.map Y.Span.enc⟩, mapsD b.maps, ⟨b.sizes.map Y.Span.enc⟩⟩
def Sm {β : Type} (l : List β) : Prop := l.length < 4611686018427387904
def TBox.Sm (b : TBox) : Prop := Vm.Sm b.rates ∧ Vm.Sm b.maps ∧ Vm.Sm b.sizes ∧ ∀ m ∈ b.maps, Vm.Sm m
def boxD (b : TBox) : List D := b.y.enc
theorem mapD1_get {α : Type} (m : List Int) (K : List (List D) → Option α) : gL 1 (mapD1 m) K = K (mpD m) := by simp [gL, mapD1, tL, tE]
theorem maps_len (ms : List (List Int)) : (mapsD ms).length = ms.length := List.length_map _
def withB (ss : List Y.Span) (lo hi : Int) : Bool := match ss with
  | [] => false
  | s :: r => setB (s :: r) && (decide (s.Lo ≥ lo) && decide (((s :: r)[r.length]'(by simp)).Hi ≤ hi))
theorem within_core (ss : List Y.Span) (h0 : 0 < ss.length) (hl : Sm ss) (lo hi : Int) : br (inB 0 (ss.map Y.Span.enc).length) (Y.Span.get ((ss.map Y.Span.enc).getD 0 []) fun x2 => br (decide (x2.Lo ≥ lo)) (br (inB (IntKind.i64.wrap (((ss.map Y.Span.enc).length : Int) - 1)) (ss.map Y.Span.enc).length) (Y.Span.get ((ss.map Y.Span.enc).getD (IntKind.i64.wrap (((ss.map Y.Span.enc).length : Int) - 1)).toNat []) fun x3 => some (e_B (decide (x3.Hi ≤ hi)))) none) (some (e_B false))) none =
    some (e_B (decide (ss[0].Lo ≥ lo) && decide ((ss[ss.length - 1]'(by omega)).Hi ≤ hi))) := by
  unfold Sm at hl
  rw [List.length_map, show (0 : Int) = ((0 : Nat) : Int) from rfl, inB_lt h0, br_t, getD_map _ _ h0, Y.Span.get_enc, w64 (by omega) (by omega), show ((ss.length : Int) - 1) = ((ss.length - 1 : Nat) : Int) by omega, inB_lt (show ss.length - 1 < ss.length by omega), br_t, toNatN, getD_map _ _ (by omega), Y.Span.get_enc, andB]
theorem offer_within_ok (ss : List Y.Span) (hl : Sm ss) (lo hi : Int) : offer_within ⟨ss.map Y.Span.enc⟩ lo hi = some (e_B (withB ss lo hi)) := by
  rw [offer_within_eq]
  cases ss with
  | nil => rfl
  | cons s ss =>
    rw [within_core (s :: ss) (by simp) hl, intset_Valid_ok _ hl, o_B_e, br_p (by simp), andB]
    rfl
theorem ref10_within_ok (ss : List Y.Span) (hl : Sm ss) (lo hi : Int) : ref10_within ⟨ss.map Y.Span.enc⟩ lo hi = some (e_B (withB ss lo hi)) := by
  rw [ref10_within_eq, ref09_Valid_ok _ hl, o_B_e]
  cases ss with
  | nil => rfl
  | cons s ss =>
    rw [within_core (s :: ss) (by simp) hl, br_p (show (((s :: ss).map Y.Span.enc).length : Int) > 0 by simp), andB]
    rfl
theorem ref10_hasMap_ok (ms : List (List Int)) (m : List Int) (hl : Sm ms) (hm : ∀ x ∈ ms, Sm x) : ref10_hasMap (mapsD ms) (mpD m) = some (e_B (decide (m ∈ ms))) := by
  rw [ref10_hasMap_eq, maps_len]
  rw [range_all (F := fun i => ref10_hasMap_k104 (mpD m) (mapsD ms) ms.length i) mapD1 ms hl (fun _ s k => if decide (s = m) then some (e_B true) else k) (some (e_B false)) _ (fun i => ref10_hasMap_k104_eq _ _ _ _) (fun i h e1 e2 => by
    rw [toNatN, show (mapsD ms).getD i [] = mapD1 ms[i] from e1, mapD1_get, ref06_Same_ok _ _ (hm _ (List.getElem_mem h)), o_B_e, e2, br_ite]), goR_any]
  congr 2
  rw [Bool.eq_iff_iff]
  simp
theorem idx_any {β : Type} (p : β → Bool) (A : Nat → List D) (B : List D) : ∀ (ss : List β) (i : Nat), (∃ k : Nat, goR (fun i s k => if p s then some (A i) else k) (some B) i ss = some (A k) ∧ ss.any p = true) ∨ (goR (fun i s k => if p s then some (A i) else k) (some B) i ss = some B ∧ ss.any p = false)
  | [], i => .inr ⟨rfl, rfl⟩
  | s :: ss, i => by
    simp only [goR, List.any_cons]
    cases p s with
    | true => exact .inl ⟨i, rfl, rfl⟩
    | false => simpa using idx_any p A B ss (i + 1)
theorem offer_has_ok (ms : List (List Int)) (m : List Int) (hl : Sm ms) (hm : ∀ x ∈ ms, Sm x) : offer_has (mapsD ms) (mpD m) = some (e_B (decide (m ∈ ms))) := by
  rw [offer_has_eq, slices_ContainsFunc_G__offer_has_1_eq, slices_IndexFunc_G__offer_has_1_eq, maps_len]
  rw [range_all (F := fun i => slices_IndexFunc_G__offer_has_1_k104 (mapsD ms) ms.length i (mpD m)) mapD1 ms hl (fun i s k => if decide (s = m) then some (e_I64_L1 ((i : Nat) : Int) (mpD m)) else k) (some (e_I64_L1 (-1) (mpD m))) _ (fun i => slices_IndexFunc_G__offer_has_1_k104_eq _ _ _ _) (fun i h e1 e2 => by
    rw [toNatN, show (mapsD ms).getD i [] = mapD1 ms[i] from e1, mapD1_get, offer_has_1_eq, channels_Same_ok _ _ (hm _ (List.getElem_mem h)), o_B_e, o_B_L1_e, e2, br_ite])]
  rcases idx_any (fun s : List Int => decide (s = m)) (fun i => e_I64_L1 ((i : Nat) : Int) (mpD m)) (e_I64_L1 (-1) (mpD m)) ms 0 with ⟨k, h1, h2⟩ | ⟨h1, h2⟩
  · rw [h1, o_I64_L1_e, o_B_L1_e, decide_eq_true (show ((k : Int) ≥ 0) by omega), decide_eq_true (by simpa using h2)]
  · rw [h1, o_I64_L1_e, o_B_L1_e, decide_eq_false (p := m ∈ ms) (fun hh => by
      have := List.any_eq_false.1 h2 m hh
      simp at this)]
    rfl
end Go.Vm
set_option linter.unusedVariables false
set_option linter.unusedSimpArgs false
namespace Go.Vm
open Go.Proofs
def badK (k : Int) : Bool := IntKind.i64.wrap (↑(BitVec.ofInt 64 k &&& ~~~BitVec.ofInt 64 254).toNat : Int) != 0
def mapOk (ms : List (List Int)) (i : Nat) (m : List Int) : Bool := chB m && !decide (m ∈ ms.take i)
def len16 (n : Nat) : Bool := decide (1 ≤ n ∧ n ≤ 16)
def boxB (b : TBox) : Bool := !(b.kinds == 0) && (!badK b.kinds && (withB b.rates 1000 768000 && (withB b.sizes 1 65536 && (allI (mapOk b.maps) 0 b.maps && len16 b.maps.length))))
theorem drop_take2 (ms : List (List Int)) (i : Nat) : List.drop 0 (List.take i (mapsD ms)) = mapsD (ms.take i) := by rw [List.drop_zero]; exact List.map_take.symm
theorem len16_e (n : Nat) : br (decide ((n : Int) ≥ 1)) (some (e_B (decide ((n : Int) ≤ 16)))) (some (e_B false)) = some (e_B (len16 n)) := by
  unfold len16
  by_cases h : 1 ≤ n
  · rw [br_p (by omega)]
    congr 3
    exact propext ⟨fun h' => ⟨h, by omega⟩, fun h' => by omega⟩
  · rw [br_n (by omega), decide_eq_false (p := 1 ≤ n ∧ n ≤ 16) (by omega)]
theorem notB (b : Bool) (x : Option (List D)) (c : Bool) (h : x = some (e_B c)) : br (!b) (some (e_B false)) x = some (e_B (b && c)) := by rw [h]; cases b <;> rfl
theorem yesB (b : Bool) (x : Option (List D)) (c : Bool) (h : x = some (e_B c)) : br b (some (e_B false)) x = some (e_B (!b && c)) := by rw [h]; cases b <;> rfl
theorem Sm.take {β : Type} {l : List β} (h : Sm l) (i : Nat) : Sm (l.take i) := by unfold Sm at *; rw [List.length_take]; omega
theorem fine_loop (b : TBox) (h : b.Sm) : offer_fine_k232 (mapsD b.maps) b.maps.length 0 b.y = some (e_B (allI (mapOk b.maps) 0 b.maps && len16 b.maps.length)) := by
  obtain ⟨s1, s2, s3, s4⟩ := h
  have hE : br (decide ((b.y.Maps.length : Int) ≥ 1)) (some (e_B (decide ((b.y.Maps.length : Int) ≤ 16)))) (some (e_B false)) = some (e_B (len16 b.maps.length)) := by rw [show b.y.Maps = mapsD b.maps from rfl, maps_len, len16_e]
  rw [range_all (F := fun i => offer_fine_k232 (mapsD b.maps) b.maps.length i b.y) mapD1 b.maps s2 (fun i s k => if mapOk b.maps i s then k else some (e_B false)) _ _ (fun i => offer_fine_k232_eq _ _ _ _) (fun i h e1 e2 => by
    rw [toNatN, show (mapsD b.maps).getD i [] = mapD1 b.maps[i] from e1, mapD1_get, channels_Valid_ok _ (s4 _ (List.getElem_mem h)), o_B_e, e2, show b.y.Maps = mapsD b.maps from rfl, br_p (show (0 : Int) ≤ (i : Int) ∧ (i : Int) ≤ ((mapsD b.maps).length : Int) by rw [maps_len]; omega), drop_take2, offer_has_ok _ _ (s2.take i) (fun x hx => s4 x (List.mem_of_mem_take hx)), o_B_e]
    unfold mapOk
    cases chB b.maps[i] with
    | false => rfl
    | true => cases decide (b.maps[i] ∈ b.maps.take i) <;> rfl), goR_allI _ _ _ hE]
theorem offer_fine_ok (b : TBox) (h : b.Sm) : offer_fine b.y = some (e_B (boxB b)) := by
  rw [offer_fine_eq, show b.y.Rates = ⟨b.rates.map Y.Span.enc⟩ from rfl, show b.y.Sizes = ⟨b.sizes.map Y.Span.enc⟩ from rfl, show b.y.Maps = mapsD b.maps from rfl, maps_len, fine_loop b h, offer_within_ok _ h.1, offer_within_ok _ h.2.2.1, o_B_e, o_B_e]
  exact yesB _ _ _ (yesB _ _ _ (notB _ _ _ (notB _ _ _ rfl)))
theorem box_loop (b : TBox) (h : b.Sm) : ref10_box_k232 (mapsD b.maps) b.maps.length 0 b.y = some (e_B (allI (mapOk b.maps) 0 b.maps && (withB b.rates 1000 768000 && withB b.sizes 1 65536))) := by
  obtain ⟨s1, s2, s3, s4⟩ := h
  have hE : (o_B (ref10_within b.y.Rates 1000 768000) fun b4 => br b4 (o_B (ref10_within b.y.Sizes 1 65536) fun b5 => some (e_B b5)) (some (e_B false))) = some (e_B (withB b.rates 1000 768000 && withB b.sizes 1 65536)) := by
    rw [show b.y.Rates = ⟨b.rates.map Y.Span.enc⟩ from rfl, show b.y.Sizes = ⟨b.sizes.map Y.Span.enc⟩ from rfl, ref10_within_ok _ s1, o_B_e, ref10_within_ok _ s3, o_B_e, andB]
  rw [range_all (F := fun i => ref10_box_k232 (mapsD b.maps) b.maps.length i b.y) mapD1 b.maps s2 (fun i s k => if mapOk b.maps i s then k else some (e_B false)) _ _ (fun i => ref10_box_k232_eq _ _ _ _) (fun i h e1 e2 => by
    rw [toNatN, show (mapsD b.maps).getD i [] = mapD1 b.maps[i] from e1, mapD1_get, ref06_Valid_ok _ (s4 _ (List.getElem_mem h)), o_B_e, e2, show b.y.Maps = mapsD b.maps from rfl, br_p (show (0 : Int) ≤ (i : Int) ∧ (i : Int) ≤ ((mapsD b.maps).length : Int) by rw [maps_len]; omega), drop_take2, ref10_hasMap_ok _ _ (s2.take i) (fun x hx => s4 x (List.mem_of_mem_take hx)), o_B_e]
    unfold mapOk
    cases chB b.maps[i] with
    | false => rfl
    | true => cases decide (b.maps[i] ∈ b.maps.take i) <;> rfl), goR_allI _ _ _ hE]
theorem ref10_box_ok (b : TBox) (h : b.Sm) : ref10_box b.y = some (e_B (boxB b)) := by
  rw [ref10_box_eq, show b.y.Maps = mapsD b.maps from rfl, maps_len, box_loop b h]
  have hl : ∀ (x : Bool), br (decide ((b.maps.length : Int) < 1)) (some (e_B false)) (br (decide ((b.maps.length : Int) > 16)) (some (e_B false)) (some (e_B x))) = some (e_B (len16 b.maps.length && x)) := fun x => by
    unfold len16
    by_cases h1 : b.maps.length < 1
    · rw [br_p (by omega), decide_eq_false (by omega)]; rfl
    · rw [br_n (by omega)]
      by_cases h2 : b.maps.length > 16
      · rw [br_p (by omega), decide_eq_false (by omega)]; rfl
      · rw [br_n (by omega), decide_eq_true ⟨by omega, by omega⟩]; rfl
  rw [hl]
  refine (yesB _ _ _ (yesB _ _ _ rfl)).trans ?_
  unfold boxB
  show some (e_B (!(b.kinds == 0) && (!badK b.kinds && (len16 b.maps.length && (allI (mapOk b.maps) 0 b.maps && (withB b.rates 1000 768000 && withB b.sizes 1 65536)))))) = _
  generalize len16 b.maps.length = p
  generalize allI (mapOk b.maps) 0 b.maps = q
  generalize withB b.rates 1000 768000 = r
  generalize withB b.sizes 1 65536 = s
  cases p <;> cases q <;> cases r <;> cases s <;> rfl
end Go.Vm
set_option linter.unusedVariables false
set_option linter.unusedSimpArgs false
namespace Go.Vm
open Go.Proofs
def boxesD (l : List TBox) : List (List D) := l.map boxD
def BSm (l : List TBox) : Prop := Sm l ∧ ∀ b ∈ l, b.Sm
def offB (l : List TBox) : Bool := l.all boxB && decide (l.length ≤ 64)
theorem boxes_len (l : List TBox) : (boxesD l).length = l.length := List.length_map _
theorem boxD_get {α : Type} (b : TBox) (K : Y.Box → Option α) : Y.Box.get (boxD b) K = K b.y := rfl
theorem ref10_Valid_ok (l : List TBox) (h : BSm l) : ref10_Valid (boxesD l) = some (e_B (offB l)) := by
  rw [ref10_Valid_eq, boxes_len]
  rw [range_all (F := fun i => ref10_Valid_k104 (boxesD l) (boxesD l) l.length i) boxD l h.1 (fun i s k => if boxB s then k else some (e_B false)) _ _ (fun i => ref10_Valid_k104_eq _ _ _ _) (fun i hi e1 e2 => by
    rw [toNatN, show (boxesD l).getD i [] = boxD l[i] from e1, boxD_get, ref10_box_ok _ (h.2 _ (List.getElem_mem hi)), o_B_e, e2]
    cases boxB l[i] <;> rfl), boxes_len, len64, goR_all]
  rfl
theorem offer_Valid_ok (l : List TBox) (h : BSm l) : offer_Valid (boxesD l) = some (e_B (offB l)) := by
  rw [offer_Valid_eq, slices_ContainsFunc_G__offer_Valid_1_eq, slices_IndexFunc_G__offer_Valid_1_eq, boxes_len]
  rw [range_all (F := fun i => slices_IndexFunc_G__offer_Valid_1_k104 (boxesD l) l.length i) boxD l h.1 (fun i s k => if !boxB s then some (e_I64 ((i : Nat) : Int)) else k) (some (e_I64 (-1))) _ (fun i => slices_IndexFunc_G__offer_Valid_1_k104_eq _ _ _) (fun i hi e1 e2 => by
    rw [toNatN, show (boxesD l).getD i [] = boxD l[i] from e1, boxD_get, offer_Valid_1_eq, offer_fine_ok _ (h.2 _ (List.getElem_mem hi)), o_B_e, o_B_e, e2, br_ite])]
  have hn : l.all boxB = !(l.any fun s => !boxB s) := by
    induction l with
    | nil => rfl
    | cons x l ih =>
      have := ih ⟨by have := h.1; unfold Sm at *; simp at this; omega, fun b hb => h.2 b (by simp [hb])⟩
      rw [List.all_cons, List.any_cons, this]
      cases boxB x <;> rfl
  unfold offB
  rw [hn]
  rcases idx_any (fun s : TBox => !boxB s) (fun i => e_I64 ((i : Nat) : Int)) (e_I64 (-1)) l 0 with ⟨k, h1, h2⟩ | ⟨h1, h2⟩
  · rw [h1, h2, o_I64_e, o_B_e, decide_eq_true (show ((k : Int) ≥ 0) by omega), andB]
    simp
  · rw [h1, h2, o_I64_e, o_B_e, andB]
    congr 2
    rw [Bool.eq_iff_iff]
    simp
    omega
end Go.Vm
set_option linter.unusedVariables false
set_option linter.unusedSimpArgs false
namespace Go.Vm
open Go.Proofs
def kindB (a b : Int) : Bool := decide (b ≥ 1) && (decide (b ≤ 7) && IntKind.i64.wrap (↑(BitVec.ofInt 64 (a.fdiv (2 ^ min b.toNat 64)) &&& BitVec.ofInt 64 1).toNat : Int) == 1)
theorem kind_core (a b : Int) : br (decide (b ≥ 1)) (br (decide (b ≤ 7)) (br (decide (b < 0)) none (some (e_B (IntKind.i64.wrap (↑(BitVec.ofInt 64 (a.fdiv (2 ^ min b.toNat 64)) &&& BitVec.ofInt 64 1).toNat : Int) == 1)))) (some (e_B false))) (some (e_B false)) = some (e_B (kindB a b)) := by
  unfold kindB
  by_cases h1 : b ≥ 1
  · rw [br_p h1, decide_eq_true h1, br_n (show ¬ b < 0 by omega), andB]; rfl
  · rw [br_n h1, decide_eq_false h1]; rfl
theorem ref10_kind_ok (a b : Int) : ref10_kind a b = some (e_B (kindB a b)) := by rw [ref10_kind_eq, kind_core]
theorem offer_kind_ok (a : Y.Box) (b : Int) : offer_kind a b = some (e_B (kindB a.Kinds b)) := by rw [offer_kind_eq, kind_core]
def chIn (c : Y.Choice) (m : List Int) (b : TBox) : Bool := kindB b.kinds c.Format.Kind && (hasB b.rates c.Format.Rate && (decide (m ∈ b.maps) && hasB b.sizes c.Size))
def choB (l : List TBox) (c : Y.Choice) (m : List Int) : Bool := offB l && l.any (chIn c m)
theorem ref10_in_ok {c : Y.Choice} {m : List Int} (hm : c.Format.Map = mpD m) (b : TBox) (h : b.Sm) : ref10_in b.y c = some (e_B (chIn c m b)) := by
  rw [ref10_in_eq, ref10_kind_ok, o_B_e, hm, show b.y.Rates = ⟨b.rates.map Y.Span.enc⟩ from rfl, show b.y.Sizes = ⟨b.sizes.map Y.Span.enc⟩ from rfl, show b.y.Maps = mapsD b.maps from rfl, ref09_Has_ok _ h.1, o_B_e, ref10_hasMap_ok _ _ h.2.1 h.2.2.2, o_B_e, ref09_Has_ok _ h.2.2.1, o_B_e]
  simp only [andB]
  rfl
theorem andC (b c : Bool) (x : Y.Choice) : br b (some (e_B_Choice c x)) (some (e_B_Choice false x)) = some (e_B_Choice (b && c) x) := by cases b <;> rfl
theorem offer_Has_1_ok {c : Y.Choice} {m : List Int} (hm : c.Format.Map = mpD m) (b : TBox) (h : b.Sm) : offer_Has_1 b.y c = some (e_B_Choice (chIn c m b) c) := by
  rw [offer_Has_1_eq, offer_kind_ok, o_B_e, hm, show b.y.Rates = ⟨b.rates.map Y.Span.enc⟩ from rfl, show b.y.Sizes = ⟨b.sizes.map Y.Span.enc⟩ from rfl, show b.y.Maps = mapsD b.maps from rfl, intset_Has_ok _ h.1, o_B_e, offer_has_ok _ _ h.2.1 h.2.2.2, o_B_e, intset_Has_ok _ h.2.2.1, o_B_e]
  simp only [andC]
  rfl
theorem ref10_Has_ok {c : Y.Choice} {m : List Int} (hm : c.Format.Map = mpD m) (l : List TBox) (h : BSm l) : ref10_Has (boxesD l) c = some (e_B (choB l c m)) := by
  have key : ∀ l : List TBox, BSm l → ref10_Has_k104 (boxesD l) ((boxesD l).length : Int) 0 c = some (e_B (l.any (chIn c m))) := fun l h => by
    rw [boxes_len, range_all (F := fun i => ref10_Has_k104 (boxesD l) l.length i c) boxD l h.1 (fun i s k => if chIn c m s then some (e_B true) else k) (some (e_B false)) _ (fun i => ref10_Has_k104_eq _ _ _ _) (fun i hi e1 e2 => by
      rw [toNatN, show (boxesD l).getD i [] = boxD l[i] from e1, boxD_get, ref10_in_ok hm _ (h.2 _ (List.getElem_mem hi)), o_B_e, e2, br_ite]), goR_any]
  rw [ref10_Has_eq, ref10_list_eq, ref10_Valid_ok l h, o_B_e]
  unfold choB
  cases offB l with
  | false => exact key [] ⟨by unfold Sm; simp, by simp⟩
  | true => rw [Bool.not_true, br_f, o_L4_e, key l h]; rfl
theorem offer_Has_ok {c : Y.Choice} {m : List Int} (hm : c.Format.Map = mpD m) (l : List TBox) (h : BSm l) : offer_Has (boxesD l) c = some (e_B (choB l c m)) := by
  have key : ∀ l : List TBox, BSm l → (o_B_Choice (slices_ContainsFunc_G__offer_Has_1 (boxesD l) c) fun b2 x3 => some (e_B b2)) = some (e_B (l.any (chIn c m))) := fun l h => by
    rw [slices_ContainsFunc_G__offer_Has_1_eq, slices_IndexFunc_G__offer_Has_1_eq, boxes_len]
    rw [range_all (F := fun i => slices_IndexFunc_G__offer_Has_1_k104 (boxesD l) l.length i c) boxD l h.1 (fun i s k => if chIn c m s then some (e_I64_Choice ((i : Nat) : Int) c) else k) (some (e_I64_Choice (-1) c)) _ (fun i => slices_IndexFunc_G__offer_Has_1_k104_eq _ _ _ _) (fun i hi e1 e2 => by
      rw [toNatN, show (boxesD l).getD i [] = boxD l[i] from e1, boxD_get, offer_Has_1_ok hm _ (h.2 _ (List.getElem_mem hi)), o_B_Choice_e, e2, br_ite])]
    rcases idx_any (chIn c m) (fun i => e_I64_Choice ((i : Nat) : Int) c) (e_I64_Choice (-1) c) l 0 with ⟨k, h1, h2⟩ | ⟨h1, h2⟩
    · rw [h1, h2, o_I64_Choice_e, o_B_Choice_e, decide_eq_true (show ((k : Int) ≥ 0) by omega)]
    · rw [h1, h2, o_I64_Choice_e, o_B_Choice_e]; rfl
  rw [offer_Has_eq, offer_boxes_eq, offer_Valid_ok l h, o_B_e]
  unfold choB
  cases offB l with
  | false => exact key [] ⟨by unfold Sm; simp, by simp⟩
  | true => rw [Bool.not_true, br_f, o_L4_e, key l h]; rfl
end Go.Vm
set_option linter.unusedVariables false
set_option linter.unusedSimpArgs false
namespace Go.Vm
open Go.Proofs
def lowN (n : Int) : Int := IntKind.u8.wrap (↑(BitVec.ofInt 8 n ||| BitVec.ofInt 8 32).toNat : Int)
def letB (n : Int) : Bool := (decide (n ≥ 97) && decide (n ≤ 122)) || (decide (n ≥ 65) && decide (n ≤ 90))
def othB (n : Int) : Bool := (decide (n ≥ 48) && decide (n ≤ 57)) || (n == 45 || (n == 46 || n == 95))
def nameB (i : Nat) (x : UInt8) : Bool := letB (x.toNat : Int) || (!(((i : Nat) : Int) == 0) && othB (x.toNat : Int))
theorem low_let : ∀ k : Fin 256, (decide (lowN (k.val : Int) ≥ 97) && decide (lowN (k.val : Int) ≤ 122)) = letB (k.val : Int) := by decide +kernel
theorem low_let' (x : UInt8) : (decide (lowN (x.toNat : Int) ≥ 97) && decide (lowN (x.toNat : Int) ≤ 122)) = letB (x.toNat : Int) := low_let ⟨x.toNat, x.toNat_lt⟩
theorem ref02_letter_ok (n : Int) : ref02_letter n = some (e_B (letB n)) := by
  rw [ref02_letter_eq]
  unfold letB
  cases decide (n ≥ 97) <;> cases decide (n ≤ 122) <;> cases decide (n ≥ 65) <;> cases decide (n ≤ 90) <;> rfl
def bytesL (s : ByteArray) : List UInt8 := s.data.toList
def strB (s : ByteArray) : Bool := allI nameB 0 (bytesL s) && (!s.toList == [] && decide (s.size ≤ 64))
theorem str_loop {α : Type} (s : ByteArray) (hl : s.size ≤ 9223372036854775807) {F : Int → Option α} (step : Nat → UInt8 → Option α → Option α) (E : Option α) (body : Nat → Option α)
    (hF : ∀ i : Nat, F i = br (decide ((i : Int) < (s.size : Nat))) (body i) E)
    (hs : ∀ (i : Nat) (x : UInt8), i < s.size → s.data.toList.getD i 0 = x → inB (i : Int) s.size = true → IntKind.i64.wrap ((i : Int) + 1) = ((i + 1 : Nat) : Int) → body i = step i x (F ((i + 1 : Nat) : Int))) : F 0 = goR step E 0 (bytesL s) := by
  have hz : (bytesL s).length = s.size := by unfold bytesL; simp
  have main : ∀ (m i : Nat), i ≤ s.size → s.size - i = m → F i = goR step E i ((bytesL s).drop i) := by
    intro m
    induction m with
    | zero =>
      intro i hi hm
      rw [hF, br_n (by omega), List.drop_of_length_le (by omega)]
      rfl
    | succ m ih =>
      intro i hi hm
      have hlt : i < (bytesL s).length := by omega
      rw [hF, br_p (by omega), hs i (bytesL s)[i] (by omega) (by rw [List.getD_eq_getElem?_getD]; exact congrArg (fun o => Option.getD o 0) (List.getElem?_eq_getElem hlt)) (inB_lt (by omega)) (by rw [w64 (by omega) (by omega)]; omega), ih (i + 1) (by omega) (by omega), List.drop_eq_getElem_cons hlt]
      rfl
  exact main _ 0 (Nat.zero_le _) rfl
theorem endB (s : ByteArray) : br (!s.toList == []) (some (e_B (decide ((s.size : Int) ≤ 64)))) (some (e_B false)) = some (e_B (!s.toList == [] && decide (s.size ≤ 64))) := by rw [len64, andB]
theorem words_Name_ok (s : ByteArray) (hl : s.size ≤ 9223372036854775807) : words_Name s = some (e_B (strB s)) := by
  rw [words_Name_eq]
  rw [str_loop (F := fun i => words_Name_k104 s s.size i) s hl (fun i x k => if nameB i x then k else some (e_B false)) _ _ (fun i => words_Name_k104_eq _ _ _) (fun i x hi e1 e2 e3 => by
    rw [toNatN, e1, e2, e3]
    simp only [br_t]
    unfold nameB
    rw [← low_let' x]
    unfold othB
    generalize words_Name_k104 s s.size _ = K
    unfold lowN
    generalize decide (IntKind.u8.wrap (↑(BitVec.ofInt 8 (x.toNat : Int) ||| BitVec.ofInt 8 32).toNat : Int) ≥ 97) = p
    generalize decide (IntKind.u8.wrap (↑(BitVec.ofInt 8 (x.toNat : Int) ||| BitVec.ofInt 8 32).toNat : Int) ≤ 122) = q
    generalize decide ((x.toNat : Int) ≥ 48) = d
    generalize decide ((x.toNat : Int) ≤ 57) = e
    generalize ((x.toNat : Int) == 45) = f
    generalize ((x.toNat : Int) == 46) = g
    generalize ((x.toNat : Int) == 95) = u
    generalize ((i : Int) == 0) = z
    cases p <;> cases q <;> cases d <;> cases e <;> cases f <;> cases g <;> cases u <;> cases z <;> rfl), goR_allI _ _ _ (endB s)]
  rfl
theorem ref02_Name_ok (s : ByteArray) (hl : s.size ≤ 9223372036854775807) : ref02_Name s = some (e_B (strB s)) := by
  rw [ref02_Name_eq]
  rw [str_loop (F := fun i => ref02_Name_k208 s i) s hl (fun i x k => if nameB i x then k else some (e_B false)) _ _ (fun i => ref02_Name_k208_eq _ _) (fun i x hi e1 e2 e3 => by
    rw [toNatN, e1, e2, e3, ref02_letter_ok, o_B_e, br_t]
    unfold nameB othB
    generalize ref02_Name_k208 s _ = K
    have h1 : decide ((x.toNat : Int) < 48) = !decide ((x.toNat : Int) ≥ 48) := by rw [← decide_not]; congr 1; exact propext ⟨fun h => by omega, fun h => by omega⟩
    have h2 : decide ((x.toNat : Int) > 57) = !decide ((x.toNat : Int) ≤ 57) := by rw [← decide_not]; congr 1; exact propext ⟨fun h => by omega, fun h => by omega⟩
    rw [h1, h2]
    unfold bne
    generalize letB (x.toNat : Int) = p
    generalize decide ((x.toNat : Int) ≥ 48) = d
    generalize decide ((x.toNat : Int) ≤ 57) = e
    generalize ((x.toNat : Int) == 45) = f
    generalize ((x.toNat : Int) == 46) = g
    generalize ((x.toNat : Int) == 95) = u
    generalize ((i : Int) == 0) = z
    cases p <;> cases d <;> cases e <;> cases f <;> cases g <;> cases u <;> cases z <;> rfl), goR_allI _ _ _ (endB s)]
  rfl
end Go.Vm
set_option linter.unusedVariables false
set_option linter.unusedSimpArgs false
namespace Go.Vm
open Go.Proofs
theorem nandB (b c : Bool) : br (!b) (some (e_B false)) (some (e_B c)) = some (e_B (b && c)) := by cases b <;> rfl
theorem lt_not (a b : Int) : decide (a < b) = !decide (a ≥ b) := by rw [← decide_not]; congr 1; exact propext ⟨fun h => by omega, fun h => by omega⟩
theorem gt_not (a b : Int) : decide (a > b) = !decide (a ≤ b) := by rw [← decide_not]; congr 1; exact propext ⟨fun h => by omega, fun h => by omega⟩
def numsB (d : Y.Descriptor) : Bool := decide (d.Domain ≥ 0) && (decide (d.Domain ≤ 65535) && (decide (d.Latency ≥ 0) && (decide (d.Latency ≤ 1048576) && (decide (d.Drift ≥ 0) && (decide (d.Drift ≤ 2048) && (decide (d.Jitter ≥ 0) && decide (d.Jitter ≤ 4096)))))))
def descB (d : Y.Descriptor) (l : List TBox) : Bool := strB d.Name && ((d.Direction == 1 || d.Direction == 2) && (numsB d && (decide (1 ≤ l.length ∧ l.length ≤ 8) && offB l)))
theorem len8 (n : Nat) (x : Bool) : (decide ((n : Int) ≥ 1) && (decide ((n : Int) ≤ 8) && x)) = (decide (1 ≤ n ∧ n ≤ 8) && x) := by
  rw [← Bool.and_assoc]
  congr 1
  rw [Bool.eq_iff_iff]
  simp
  omega
theorem descriptor_Valid_ok {d : Y.Descriptor} {l : List TBox} (hb : d.Boxes = boxesD l) (h : BSm l) (hn : d.Name.size ≤ 9223372036854775807) : descriptor_Valid d = some (e_B (descB d l)) := by
  rw [descriptor_Valid_eq, words_Name_ok _ hn, o_B_e, hb, offer_Valid_ok l h, o_B_e, boxes_len]
  simp only [lt_not, gt_not, nandB, andB, len8]
  unfold descB numsB bne
  simp only [Bool.and_assoc]
  generalize (decide (d.Domain ≥ 0) && _) = X
  cases strB d.Name <;> cases (d.Direction == 1) <;> cases (d.Direction == 2) <;> rfl
theorem ref11_Valid_ok {d : Y.Descriptor} {l : List TBox} (hb : d.Boxes = boxesD l) (h : BSm l) (hn : d.Name.size ≤ 9223372036854775807) : ref11_Valid d = some (e_B (descB d l)) := by
  rw [ref11_Valid_eq, ref02_Name_ok _ hn, o_B_e, hb, ref10_Valid_ok l h, o_B_e, boxes_len]
  simp only [andB, len8]
  unfold descB numsB
  simp only [Bool.and_assoc]
  generalize (decide (d.Domain ≥ 0) && _) = X
  cases strB d.Name <;> cases (d.Direction == 1) <;> cases (d.Direction == 2) <;> rfl
end Go.Vm
set_option linter.unusedVariables false
set_option linter.unusedSimpArgs false
namespace Go.Vm
open Go.Proofs
structure DevTy (d : Y.Device) (l : List TBox) (m : List Int) (ss : List Y.Segment) (rest : List Int) : Prop where
  hb : d.Descriptor.Boxes = boxesD l
  bs : BSm l
  hn : d.Descriptor.Name.size ≤ 9223372036854775807
  hm : d.Choice.Format.Map = mpD m
  ms : Sm m
  hs : d.Clock.Segments = ss.map Y.Segment.enc
  sss : Sm ss
  hr : d.Bridge.Resample.Rest = rest.map i32D
  rs : Sm rest
  rate : d.Choice.Format.Rate ≤ 9223372036854775807
  mast : d.Rate ≤ 9223372036854775807
def nomR (d : Y.Device) : Y.Ratio × Int := mkR d.Choice.Format.Rate d.Rate
def baseR (d : Y.Device) : Y.Ratio := if d.Descriptor.Direction = 1 then (invR (nomR d).1).1 else (nomR d).1
section
variable {d : Y.Device} {l : List TBox} {m : List Int} {ss : List Y.Segment} {rest : List Int}
theorem ref21_nominal_ok (h : DevTy d l m ss rest) : ref21_nominal d = some (e_Ratio_I64 (nomR d).1 (nomR d).2) := by
  rw [ref21_nominal_eq, ref03_Make_ok h.rate h.mast, o_Ratio_I64_e]; rfl
theorem ref21_Base_ok (h : DevTy d l m ss rest) : ref21_Base d = some (e_Ratio (baseR d)) := by
  rw [ref21_Base_eq, ref21_nominal_ok h, o_Ratio_I64_e, ref03_Inverse_ok, o_Ratio_I64_e]
  unfold baseR
  by_cases c : d.Descriptor.Direction = 1
  · rw [br_eq c, if_pos c]
  · rw [br_ne c, if_neg c]
theorem unit_nominal_ok (h : DevTy d l m ss rest) : device_unit_nominal ⟨d⟩ = some (e_Ratio (nomR d).1) := by
  rw [device_unit_nominal_eq, ratio_Make_ok h.rate h.mast, o_Ratio_I64_e]; rfl
theorem unit_base_ok (h : DevTy d l m ss rest) : device_unit_base ⟨d⟩ = some (e_Ratio (baseR d)) := by
  rw [device_unit_base_eq, device_unit_playback_eq, o_B_e, unit_nominal_ok h, o_Ratio_e, o_Ratio_e, ratio_Inverse_ok, o_Ratio_I64_e]
  unfold baseR
  by_cases c : d.Descriptor.Direction = 1
  · rw [if_pos c, show (d.Descriptor.Direction == 1) = true by simp [c]]; rfl
  · rw [if_neg c, show (d.Descriptor.Direction == 1) = false by simp [c]]; rfl
def setPB (d : Y.Device) : Bool := decide (d.Rate ≥ 8000) && (decide (d.Rate ≤ 192000) && (decide (d.Period ≥ 16) && decide (d.Period ≤ 8192)))
def tailB (d : Y.Device) (m : List Int) (rest : List Int) : Bool := decide (d.Since ≥ 0) && (decide (d.Since ≤ 1099511627776) && (bridgeB d.Bridge rest && ((d.Bridge.Resample.Channels == (m.length : Int)) && (d.Bridge.Resample.Phase.Base.Num == (baseR d).Num && (d.Bridge.Resample.Phase.Base.Den == (baseR d).Den && true)))))
def devB (d : Y.Device) (l : List TBox) (m : List Int) (ss : List Y.Segment) (rest : List Int) : Bool := descB d.Descriptor l && (choB l d.Choice m && (setPB d && (clockB ss && tailB d m rest)))
theorem ref21_Valid_ok (h : DevTy d l m ss rest) : ref21_Valid d = some (e_B (devB d l m ss rest)) := by
  have e1 : ref13_Valid d.Clock = some (e_B (clockB ss)) := by
    rw [show d.Clock = ⟨ss.map Y.Segment.enc⟩ by rw [← h.hs]]; exact ref13_Valid_ok ss h.sss
  rw [ref21_Valid_eq, ref11_Valid_ok h.hb h.bs h.hn, o_B_e, h.hb, ref10_Has_ok h.hm l h.bs, o_B_e, e1, o_B_e, ref19_Valid_ok h.hr h.rs, o_B_e, ref21_Base_ok h, o_Ratio_e, h.hm, show (mpD m).length = m.length from List.length_map _]
  simp only [andB]
  unfold devB setPB tailB
  simp only [Bool.and_assoc]
theorem device_Valid_ok (h : DevTy d l m ss rest) : device_Valid d = some (e_B (devB d l m ss rest)) := by
  have e1 : clock_Valid d.Clock = some (e_B (clockB ss)) := by
    rw [show d.Clock = ⟨ss.map Y.Segment.enc⟩ by rw [← h.hs]]; exact clock_Valid_ok ss h.sss
  rw [device_Valid_eq, device_unit_valid_eq, descriptor_Valid_ok h.hb h.bs h.hn, o_B_e, h.hb, offer_Has_ok h.hm l h.bs, o_B_e, device_unit_set_eq, e1, o_B_e, bridge_Valid_ok h.hr h.rs, o_B_e, device_unit_ports_eq, o_I64_e, unit_base_ok h, o_Ratio_e]
  show (o_B _ _) = _
  rw [show (Y.Device_unit.mk d).Device.Choice.Format.Map.length = m.length by rw [show (Y.Device_unit.mk d).Device.Choice.Format.Map = mpD m from h.hm]; exact List.length_map _]
  simp only [andB, o_B_e]
  unfold devB setPB tailB
  simp only [Bool.and_assoc]
end
end Go.Vm
set_option linter.unusedVariables false
set_option linter.unusedSimpArgs false
namespace Go.Vm
open Go.Proofs
theorem clone_core {A : List (List D) → List D} (a : List (List D)) (k : Nat) (h : (0 + a.length) * k ≤ 140737488355328) :
    br (decide (a.length = 0)) (both (some (A [])) (br (decide ((0 + a.length) * k ≤ 140737488355328)) (some (A ([] ++ a))) none)) (br (decide ((0 + a.length) * k ≤ 140737488355328)) (some (A ([] ++ a))) none) = some (A a) := by
  rw [decide_eq_true h, br_t, List.nil_append]
  by_cases c : a.length = 0
  · rw [br_p c, List.eq_nil_of_length_eq_zero c, both_self]
  · rw [br_n c]
theorem clone_box {a : List (List D)} (h : a.length ≤ 1000000000) : slices_Clone_G_api_Box_api_Box a = some (e_L4 a) := by
  rw [slices_Clone_G_api_Box_api_Box_eq]; exact clone_core (A := e_L4) a 80 (by omega)
theorem clone_span {a : List (List D)} (h : a.length ≤ 1000000000) : slices_Clone_G_api_Span_api_Span a = some (e_L2 a) := by
  rw [slices_Clone_G_api_Span_api_Span_eq]; exact clone_core (A := e_L2) a 16 (by omega)
theorem clone_maps {a : List (List D)} (h : a.length ≤ 1000000000) : slices_Clone_G_int_int_114 a = some (e_L1 a) := by
  rw [slices_Clone_G_int_int_114_eq]; exact clone_core (A := e_L1) a 24 (by omega)
theorem clone_map {a : List (List D)} (h : a.length ≤ 1000000000) : slices_Clone_G_int_int_115 a = some (e_L1 a) := by
  rw [slices_Clone_G_int_int_115_eq]; exact clone_core (A := e_L1) a 8 (by omega)
theorem clone_seg {a : List (List D)} (h : a.length ≤ 1000000000) : slices_Clone_G_api_Segment_api_Segment a = some (e_L3 a) := by
  rw [slices_Clone_G_api_Segment_api_Segment_eq]; exact clone_core (A := e_L3) a 24 (by omega)
theorem clone_smp {a : List (List D)} (h : a.length ≤ 1000000000) : slices_Clone_G_int32_int32 a = some (e_L1 a) := by
  rw [slices_Clone_G_int32_int32_eq]; exact clone_core (A := e_L1) a 4 (by omega)
def Few {β : Type} (l : List β) : Prop := l.length ≤ 1000000000
structure FewDev (l : List TBox) (m : List Int) (ss : List Y.Segment) (rest : List Int) : Prop where
  hl : Few l
  hb : ∀ b ∈ l, Few b.rates ∧ Few b.sizes ∧ Few b.maps ∧ ∀ x ∈ b.maps, Few x
  hm : Few m
  hs : Few ss
  hr : Few rest
theorem set_same {β : Type} {l : List β} {i : Nat} {x : β} (h : i < l.length) (e : x = l[i]) : l.set i x = l := by rw [e, List.set_getElem_self]
theorem own_maps (n0 n1 n2 : Int) (x5 x6 : Y.Device) (n7 : Int) (x8 x9 : Y.IntSet) (r10 : List (List D)) (ms : List (List Int)) (hl : Few ms) (hm : ∀ x ∈ ms, Few x) :
    ∀ (k i : Nat), i ≤ ms.length → ms.length - i = k → device_own_k478440 n0 n1 n2 ms.length i x5 x6 n7 x8 x9 r10 (mapsD ms) = device_own_k478440 n0 n1 n2 ms.length ms.length x5 x6 n7 x8 x9 r10 (mapsD ms) := by
  intro k
  induction k with
  | zero => intro i hi hk; rw [show i = ms.length by omega]
  | succ k ih =>
    intro i hi hk
    have hlt : i < ms.length := by omega
    unfold Few at *
    rw [device_own_k478440_eq, br_p (by omega), maps_len, inB_lt hlt, br_t, toNatN, show (mapsD ms).getD i [] = mapD1 ms[i] from getD_map _ _ hlt]
    rw [show [(mapD1 ms[i]).getD 0 D.bad] = mapD1 ms[i] from rfl, mapD1_get, clone_map (by unfold mpD; rw [List.length_map]; exact hm _ (List.getElem_mem hlt)), o_L1_e, br_t, w64 (by omega) (by omega)]
    rw [show D.list 1 (mpD ms[i]) :: List.drop 1 (mapD1 ms[i]) = mapD1 ms[i] from rfl, set_same (by rw [maps_len]; exact hlt) (by unfold mapsD; rw [List.getElem_map])]
    exact ih (i + 1) (by omega) (by omega)
theorem own_boxes (x2 x3 : Y.Device) (l : List TBox) (hl : Few l) (hb : ∀ b ∈ l, Few b.rates ∧ Few b.sizes ∧ Few b.maps ∧ ∀ x ∈ b.maps, Few x) :
    ∀ (k i : Nat), i ≤ l.length → l.length - i = k → device_own_k232 l.length i x2 x3 (boxesD l) = device_own_k232 l.length l.length x2 x3 (boxesD l) := by
  intro k
  induction k with
  | zero => intro i hi hk; rw [show i = l.length by omega]
  | succ k ih =>
    intro i hi hk
    have hlt : i < l.length := by omega
    obtain ⟨h1, h2, h3, h4⟩ := hb _ (List.getElem_mem hlt)
    have hl' : l.length ≤ 1000000000 := hl
    rw [device_own_k232_eq, br_p (by omega), boxes_len, inB_lt hlt, br_t, toNatN, show (boxesD l).getD i [] = boxD l[i] from getD_map _ _ hlt]
    rw [show sub (boxD l[i]) 0 4 = boxD l[i] from rfl, boxD_get]
    rw [show l[i].y.Rates.Spans = l[i].rates.map Y.Span.enc from rfl, show l[i].y.Sizes.Spans = l[i].sizes.map Y.Span.enc from rfl, show l[i].y.Maps = mapsD l[i].maps from rfl]
    rw [clone_span (by rw [List.length_map]; exact h1), o_L2_e, clone_span (by rw [List.length_map]; exact h2), o_L2_e, clone_maps (by rw [maps_len]; exact h3), o_L1_e, maps_len]
    rw [show (0 : Int) = ((0 : Nat) : Int) from rfl, own_maps _ _ _ _ _ _ _ _ _ _ h3 h4 _ 0 (by omega) rfl, device_own_k478440_eq, br_n (by omega), boxes_len, inB_lt hlt, br_t, w64 (by omega) (by omega), toNatN]
    rw [show (boxesD l).getD i [] = boxD l[i] from getD_map _ _ hlt, set_same (by rw [boxes_len]; exact hlt) (by unfold boxesD; rw [List.getElem_map]; rfl)]
    exact ih (i + 1) (by omega) (by omega)
theorem device_own_ok {d : Y.Device} {l : List TBox} {m : List Int} {ss : List Y.Segment} {rest : List Int} (h : DevTy d l m ss rest) (hf : FewDev l m ss rest) : device_own d = some (e_Device d) := by
  obtain ⟨f1, f2, f3, f4, f5⟩ := hf
  unfold Few at f3 f4 f5
  have f1' : l.length ≤ 1000000000 := f1
  rw [device_own_eq, h.hb, clone_box (by rw [boxes_len]; exact f1), o_L4_e, boxes_len, show (0 : Int) = ((0 : Nat) : Int) from rfl, own_boxes _ _ _ f1 f2 _ 0 (by omega) rfl, device_own_k232_eq, br_n (by omega)]
  rw [h.hm, clone_map (by unfold mpD; rw [List.length_map]; exact f3), o_L1_e, h.hs, clone_seg (by rw [List.length_map]; exact f4), o_L3_e, h.hr, clone_smp (by rw [List.length_map]; exact f5), o_L1_e]
  rw [← h.hb, ← h.hm, ← h.hs, ← h.hr]
end Go.Vm
set_option linter.unusedVariables false
set_option linter.unusedSimpArgs false
namespace Go.Vm
open Go.Proofs
theorem rat_eq {r s : Y.Ratio} (hr : RatOk r) (hs : RatOk s) (h : r.Num * s.Den = s.Num * r.Den) : r = s := by
  obtain ⟨a, b, e1, e2, p1, p2, _, _⟩ := rat_nat hr
  obtain ⟨c, d, e3, e4, p3, p4, _, _⟩ := rat_nat hs
  have g1 := hr.2.2.2.2
  have g2 := hs.2.2.2.2
  rw [e1, e2, toNatN, toNatN] at g1
  rw [e3, e4, toNatN, toNatN] at g2
  rw [e1, e2, e3, e4, mulN, mulN] at h
  have h' : a * d = c * b := by omega
  have k1 : a ∣ c := (Nat.Coprime.dvd_of_dvd_mul_right (k := a) (n := b) (m := c) g1 ⟨d, h'.symm⟩)
  have k2 : c ∣ a := (Nat.Coprime.dvd_of_dvd_mul_right (k := c) (n := d) (m := a) g2 ⟨b, h'⟩)
  have hac : a = c := Nat.dvd_antisymm k1 k2
  subst hac
  have hbd : d = b := Nat.eq_of_mul_eq_mul_left p1 h'
  subst hbd
  cases r; cases s
  simp only at e1 e2 e3 e4
  rw [e1, e2, e3, e4]
theorem mkR_in {a b : Int} (ha : 1 ≤ a) (hb : 1 ≤ b) (ha' : a ≤ 68719476736) (hb' : b ≤ 68719476736) : (mkR a b).2 = 0 ∧ (mkR a b).1.Num ≤ a ∧ (mkR a b).1.Den ≤ b := by
  have hp := Nat.gcd_pos_of_pos_left b.toNat (show 0 < a.toNat by omega)
  unfold mkR
  rw [if_neg (by omega)]
  generalize Nat.gcd a.toNat b.toNat = g at *
  have h1 : a / (g : Int) ≤ a := Int.ediv_le_self _ (by omega)
  have h2 : b / (g : Int) ≤ b := Int.ediv_le_self _ (by omega)
  rw [if_neg (by omega)]
  exact ⟨rfl, h1, h2⟩
theorem RatOk.pos {r : Y.Ratio} (h : RatOk r) : 1 ≤ r.Num ∧ 1 ≤ r.Den := ⟨h.1, h.2.1⟩
structure Fit (d : Y.Device) : Prop where
  r0 : 1000 ≤ d.Choice.Format.Rate
  r1 : d.Choice.Format.Rate ≤ 768000
  m0 : 8000 ≤ d.Rate
  m1 : d.Rate ≤ 192000
  p0 : 16 ≤ d.Period
  p1 : d.Period ≤ 8192
  dir : d.Descriptor.Direction = 1 ∨ d.Descriptor.Direction = 2
  l0 : 0 ≤ d.Descriptor.Latency
  l1 : d.Descriptor.Latency ≤ 1048576
  d0 : 0 ≤ d.Descriptor.Drift
  d1 : d.Descriptor.Drift ≤ 2048
  j0 : 0 ≤ d.Descriptor.Jitter
  j1 : d.Descriptor.Jitter ≤ 4096
def inR (d : Y.Device) : Y.Ratio := if d.Descriptor.Direction = 1 then ⟨d.Period, 1⟩ else (mkR (d.Period * d.Choice.Format.Rate) d.Rate).1
def jitR (d : Y.Device) : Int := if d.Descriptor.Direction = 1 then (ceR d.Descriptor.Jitter (baseR d)).1 + 1 else d.Descriptor.Jitter + 1
section
variable {d : Y.Device} {l : List TBox} {m : List Int} {ss : List Y.Segment} {rest : List Int}
theorem Fit.nom (h : Fit d) : RatOk (nomR d).1 ∧ (nomR d).2 = 0 ∧ (nomR d).1.Num * d.Rate = d.Choice.Format.Rate * (nomR d).1.Den ∧ (nomR d).1.Num ≤ d.Choice.Format.Rate ∧ (nomR d).1.Den ≤ d.Rate := by
  obtain ⟨h1, h2, h3⟩ := mkR_in (a := d.Choice.Format.Rate) (b := d.Rate) (by have := h.r0; omega) (by have := h.m0; omega) (by have := h.r1; omega) (by have := h.m1; omega)
  obtain ⟨h4, h5, _⟩ := mkR_ok h1
  exact ⟨h4, h1, h5, h2, h3⟩
theorem Fit.base (h : Fit d) : RatOk (baseR d) ∧ (baseR d).Num ≤ 768000 ∧ (baseR d).Den ≤ 768000 ∧
    (if d.Descriptor.Direction = 1 then baseR d = ⟨(nomR d).1.Den, (nomR d).1.Num⟩ else baseR d = (nomR d).1) := by
  obtain ⟨h1, _, _, h2, h3⟩ := h.nom
  have := h.r1
  have := h.m1
  unfold baseR invR
  by_cases c : d.Descriptor.Direction = 1
  · rw [if_pos c, if_pos c, if_pos h1]
    exact ⟨h1.inv, by simp only; omega, by simp only; omega, rfl⟩
  · rw [if_neg c, if_neg c]
    exact ⟨h1, by omega, by omega, rfl⟩
theorem Fit.inp (h : Fit d) : RatOk (inR d) ∧ (if d.Descriptor.Direction = 1 then inR d = ⟨d.Period, 1⟩ else (inR d).Num * d.Rate = d.Period * d.Choice.Format.Rate * (inR d).Den) ∧ (inR d).Den ≤ 192000 ∧ (inR d).Num ≤ 6291456000 := by
  have := h.r0; have := h.r1; have := h.m0; have := h.m1; have := h.p0; have := h.p1
  have hm : d.Period * d.Choice.Format.Rate ≤ 8192 * 768000 := Int.mul_le_mul h.p1 h.r1 (by omega) (by omega)
  have hm0 : 1 ≤ d.Period * d.Choice.Format.Rate := by
    have : 1 * 1 ≤ d.Period * d.Choice.Format.Rate := Int.mul_le_mul (by omega) (by omega) (by omega) (by omega)
    omega
  unfold inR
  by_cases c : d.Descriptor.Direction = 1
  · rw [if_pos c, if_pos c]
    exact ⟨⟨by simp only; omega, by simp only; omega, by simp only; omega, by simp only; omega, by simp⟩, rfl, by simp only; omega, by simp only; omega⟩
  · rw [if_neg c, if_neg c]
    obtain ⟨h1, h2, h3⟩ := mkR_in (a := d.Period * d.Choice.Format.Rate) (b := d.Rate) hm0 (by omega) (by omega) (by omega)
    obtain ⟨h4, h5, _⟩ := mkR_ok h1
    exact ⟨h4, h5, by omega, by omega⟩
theorem unit_inputs_ok (hf : Fit d) : device_unit_inputs ⟨d⟩ = some (e_Ratio (inR d)) := by
  have := hf.r0; have := hf.r1; have := hf.m0; have := hf.m1; have := hf.p0; have := hf.p1
  have hm : d.Period * d.Choice.Format.Rate ≤ 8192 * 768000 := Int.mul_le_mul hf.p1 hf.r1 (by omega) (by omega)
  have hm0 : 0 ≤ d.Period * d.Choice.Format.Rate := Int.mul_nonneg (by omega) (by omega)
  rw [device_unit_inputs_eq, device_unit_playback_eq, o_B_e]
  show br (d.Descriptor.Direction == 1) (some (e_Ratio ⟨d.Period, 1⟩)) (o_Ratio_I64 (ratio_Make (IntKind.i64.wrap (d.Period * d.Choice.Format.Rate)) d.Rate) _) = _
  rw [w64 (by omega) (by omega), ratio_Make_ok (by omega) (by omega), o_Ratio_I64_e]
  unfold inR
  by_cases c : d.Descriptor.Direction = 1
  · rw [br_eq c, if_pos c]
  · rw [br_ne c, if_neg c]
theorem mul_whole {p : Int} {r : Y.Ratio} (hr : RatOk r) (h0 : 1 ≤ p) (h1 : p ≤ 8192) (h2 : r.Num ≤ 768000) : ∃ s : Y.Ratio, ref03_Mul ⟨p, 1⟩ r = some (e_Ratio_I64 s 0) ∧ RatOk s ∧ s.Num * r.Den = p * r.Num * s.Den := by
  obtain ⟨nu, de, e1, e2, q1, q2, q3, q4⟩ := rat_nat hr
  obtain ⟨k, rfl⟩ : ∃ k : Nat, p = (k : Int) := ⟨p.toNat, by omega⟩
  have hw : RatOk ⟨(k : Int), 1⟩ := ⟨by simp only; omega, by simp only; omega, by simp only; omega, by simp only; omega, by simp⟩
  have hc : Nat.gcd nu de = 1 := by have := hr.2.2.2.2; rwa [e1, e2, toNatN, toNatN] at this
  have hg := Nat.gcd_pos_of_pos_left de (show 0 < k by omega)
  obtain ⟨x, hx⟩ := Nat.gcd_dvd_left k de
  obtain ⟨y, hy⟩ := Nat.gcd_dvd_right k de
  have hxy : Nat.gcd (k / Nat.gcd k de) (de / Nat.gcd k de) = 1 := by rw [Nat.gcd_div (Nat.gcd_dvd_left _ _) (Nat.gcd_dvd_right _ _), Nat.div_self hg]
  have g1 : ref03_gcd (k : Int) r.Den = some (e_I64 (Nat.gcd k de : Nat)) := by rw [e2]; exact ref03_gcd_ok k de
  have g2 : ref03_gcd r.Num 1 = some (e_I64 (1 : Nat)) := by rw [e1, show (1 : Int) = ((1 : Nat) : Int) from rfl, ref03_gcd_ok, Nat.gcd_one_right]
  rw [ref03_Mul_eq, ref03_Valid_ok, o_B_e, decide_eq_true hw, Bool.not_true, br_f, ref03_Valid_ok, o_B_e, decide_eq_true hr, Bool.not_true, br_f, g1, o_I64_e, g2, o_I64_e]
  have d1 : k / Nat.gcd k de = x := Nat.div_eq_of_eq_mul_right hg hx
  have d2 : de / Nat.gcd k de = y := Nat.div_eq_of_eq_mul_right hg hy
  rw [d1, d2] at hxy
  have hx' : x ≤ k := by rw [← d1]; exact Nat.div_le_self _ _
  have hy' : y ≤ de := by rw [← d2]; exact Nat.div_le_self _ _
  have hy0 : 0 < y := Nat.pos_of_ne_zero fun e => by subst e; omega
  have hx0 : 0 < x := Nat.pos_of_ne_zero fun e => by subst e; omega
  have hxn : x * nu ≤ 8192 * 768000 := Nat.mul_le_mul (by omega) (by omega)
  have hxn0 : 0 < x * nu := Nat.mul_pos hx0 q1
  have hdvn : 68719476736 / nu ≥ 68719476736 / 768000 := Nat.div_le_div_left (by omega) q1
  have hdvn' : 68719476736 / nu ≤ 68719476736 := Nat.div_le_self _ _
  have hdvy : 68719476736 / y ≥ 1 := (Nat.le_div_iff_mul_le hy0).2 (by omega)
  have hdvy' : 68719476736 / y ≤ 68719476736 := Nat.div_le_self _ _
  rw [br_n (by omega), br_n (by omega), br_n (by omega), br_n (by omega)]
  rw [e1, e2, tdivN, tdivN, tdivN, Nat.div_one, d1, d2, w64 (n := (nu : Int)) (by omega) (by omega), br_n (by omega), w64 (n := (x : Int)) (by omega) (by omega), w64 (n := (y : Int)) (by omega) (by omega)]
  rw [show Int.tdiv 68719476736 (nu : Int) = ((68719476736 / nu : Nat) : Int) from tdivN 68719476736 nu, show Int.tdiv 68719476736 (y : Int) = ((68719476736 / y : Nat) : Int) from tdivN 68719476736 y]
  rw [show Int.tdiv 1 ((1 : Nat) : Int) = 1 from rfl, w64 (n := ((68719476736 / nu : Nat) : Int)) (by omega) (by omega), br_n (by omega), br_n (by omega), w64 (n := ((68719476736 / y : Nat) : Int)) (by omega) (by omega), w64 (n := 1) (by omega) (by omega), br_n (by omega)]
  rw [mulN, w64 (n := ((x * nu : Nat) : Int)) (by omega) (by omega), Int.one_mul, w64 (n := (y : Int)) (by omega) (by omega)]
  refine ⟨_, rfl, ⟨by simp only; omega, by simp only; omega, by simp only; omega, by simp only; omega, ?_⟩, ?_⟩
  · simp only [toNatN]
    exact Nat.Coprime.mul_left hxy (Nat.Coprime.coprime_dvd_right ⟨Nat.gcd k de, by rw [Nat.mul_comm]; exact hy⟩ hc)
  · simp only
    simp only [mulN]
    congr 1
    generalize Nat.gcd k de = g at hx hy
    rw [hx, hy]
    simp only [Nat.mul_assoc, Nat.mul_left_comm, Nat.mul_comm]
theorem ref21_Inputs_ok (ht : DevTy d l m ss rest) (hf : Fit d) : ref21_Inputs d = some (e_Ratio (inR d)) := by
  rw [ref21_Inputs_eq]
  obtain ⟨h1, h2, h3, h4, h5⟩ := hf.nom
  obtain ⟨i1, i2, _, _⟩ := hf.inp
  by_cases c : d.Descriptor.Direction = 1
  · rw [br_ne (by omega)]
    unfold inR
    rw [if_pos c]
  · rw [if_neg c] at i2
    rw [br_eq (by have := hf.dir; omega), ref21_nominal_ok ht, o_Ratio_I64_e]
    obtain ⟨s, e, hs, hx⟩ := mul_whole (p := d.Period) h1 (by have := hf.p0; omega) hf.p1 (by have := hf.r1; omega)
    rw [e, o_Ratio_I64_e]
    congr 2
    refine rat_eq hs i1 ?_
    have p1 := h1.pos
    have p2 := hf.m0
    refine Int.eq_of_mul_eq_mul_right (a := (nomR d).1.Den * d.Rate) (by have := Int.mul_pos (show 0 < (nomR d).1.Den by omega) (show 0 < d.Rate by omega); omega) ?_
    calc s.Num * (inR d).Den * ((nomR d).1.Den * d.Rate) = (s.Num * (nomR d).1.Den) * (inR d).Den * d.Rate := by simp only [Int.mul_assoc, Int.mul_left_comm, Int.mul_comm]
      _ = (d.Period * (nomR d).1.Num * s.Den) * (inR d).Den * d.Rate := by rw [hx]
      _ = d.Period * ((nomR d).1.Num * d.Rate) * s.Den * (inR d).Den := by simp only [Int.mul_assoc, Int.mul_left_comm, Int.mul_comm]
      _ = d.Period * (d.Choice.Format.Rate * (nomR d).1.Den) * s.Den * (inR d).Den := by rw [h3]
      _ = (d.Period * d.Choice.Format.Rate * (inR d).Den) * s.Den * (nomR d).1.Den := by simp only [Int.mul_assoc, Int.mul_left_comm, Int.mul_comm]
      _ = ((inR d).Num * d.Rate) * s.Den * (nomR d).1.Den := by rw [i2]
      _ = (inR d).Num * s.Den * ((nomR d).1.Den * d.Rate) := by simp only [Int.mul_assoc, Int.mul_left_comm, Int.mul_comm]
theorem ceR_in {n : Int} {r : Y.Ratio} (hr : RatOk r) (h0 : 0 ≤ n) (h1 : n ≤ 67108864) : (ceR n r).2 = 0 ∧ 0 ≤ (ceR n r).1 ∧ (ceR n r).1 ≤ n * r.Num ∧ (ceR n r).1 * r.Den < n * r.Num + r.Den ∧ n * r.Num ≤ (ceR n r).1 * r.Den := by
  obtain ⟨nu, de, e1, e2, p1, p2, p3, p4⟩ := rat_nat hr
  obtain ⟨k, rfl⟩ : ∃ k : Nat, n = (k : Int) := ⟨n.toNat, by omega⟩
  obtain ⟨c1, c2⟩ := ce_fl (n := (k : Int)) hr
  obtain ⟨f1, f2⟩ := flq_nat (u := k) e1 e2
  have hb : k * nu ≤ 67108864 * 68719476736 := Nat.mul_le_mul (by omega) p3
  have hd := Nat.div_le_self (k * nu) de
  have hm := Nat.mod_lt (k * nu) p2
  have hdm := Nat.div_add_mod (k * nu) de
  have hle : -flq (-(k : Int)) r ≤ (k * nu : Nat) ∧ 0 ≤ -flq (-(k : Int)) r ∧ -flq (-(k : Int)) r * de < (k * nu : Nat) + de ∧ ((k * nu : Nat) : Int) ≤ -flq (-(k : Int)) r * de := by
    rw [c1, f1, f2]
    generalize hq : k * nu / de = q at *
    generalize k * nu % de = w at *
    generalize hkn : k * nu = kn at *
    split
    · have : kn ≠ 0 := fun e => by subst e; omega
      have e : ((q : Int) + 1) * de = ((de * q : Nat) : Int) + de := by rw [Int.add_mul, Int.one_mul, mulN, Nat.mul_comm]
      rw [e]
      refine ⟨?_, by omega, by omega, by omega⟩
      by_cases h : q + 1 ≤ kn
      · omega
      · exfalso
        have : q = kn := by omega
        subst this
        have : q ≤ de * q := Nat.le_mul_of_pos_left _ p2
        omega
    · rw [mulN, Nat.mul_comm]
      exact ⟨by omega, by omega, by omega, by omega⟩
  rw [e1, e2, mulN]
  unfold ceR
  rw [if_neg (not_not_intro hr), if_neg (by omega), if_pos ⟨by omega, by omega⟩]
  exact ⟨rfl, hle.2.1, hle.1, hle.2.2.1, hle.2.2.2⟩
theorem jit_in (hf : Fit d) : 1 ≤ jitR d ∧ jitR d ≤ 786433 := by
  obtain ⟨h1, h2, h3, h4⟩ := hf.base
  have := hf.j0; have := hf.j1; have := hf.m0; have := hf.m1; have := hf.r0; have := hf.r1
  unfold jitR
  by_cases c : d.Descriptor.Direction = 1
  · rw [if_pos c]
    rw [if_pos c] at h4
    obtain ⟨g1, g2, g3, g4, g5⟩ := ceR_in (n := d.Descriptor.Jitter) h1 (by omega) (by omega)
    refine ⟨by omega, ?_⟩
    obtain ⟨n1, _, n3, n4, n5⟩ := hf.nom
    rw [h4] at g4 g5
    simp only at g4 g5
    have hp := n1.pos
    rw [h4]
    generalize (ceR d.Descriptor.Jitter ⟨(nomR d).1.Den, (nomR d).1.Num⟩).1 = x at *
    generalize (nomR d).1.Num = nn at *
    generalize (nomR d).1.Den = dd at *
    have e1 : x * nn * d.Rate < (d.Descriptor.Jitter * dd + nn) * d.Rate := Int.mul_lt_mul_of_pos_right g4 (by omega)
    have e2 : x * nn * d.Rate = x * d.Choice.Format.Rate * dd := by rw [Int.mul_assoc, n3, Int.mul_assoc]
    have e3 : (d.Descriptor.Jitter * dd + nn) * d.Rate = (d.Descriptor.Jitter * d.Rate + d.Choice.Format.Rate) * dd := by
      rw [Int.add_mul, Int.add_mul, n3, Int.mul_assoc, Int.mul_assoc, Int.mul_comm dd]
    rw [e2, e3] at e1
    have e4 : x * d.Choice.Format.Rate < d.Descriptor.Jitter * d.Rate + d.Choice.Format.Rate := Int.lt_of_mul_lt_mul_right e1 (by omega)
    have e5 : d.Descriptor.Jitter * d.Rate ≤ 4096 * 192000 := Int.mul_le_mul (by omega) (by omega) (by omega) (by omega)
    by_cases hx : x ≤ 786432
    · omega
    · exfalso
      have e6 : 786433 * d.Choice.Format.Rate ≤ x * d.Choice.Format.Rate := Int.mul_le_mul_of_nonneg_right (by omega) (by omega)
      omega
  · rw [if_neg c]
    omega
theorem unit_jitter_ok (ht : DevTy d l m ss rest) (hf : Fit d) : device_unit_jitter ⟨d⟩ = some (e_I64 (jitR d)) := by
  rw [device_unit_jitter_eq, device_unit_playback_eq, o_B_e]
  show br (!(d.Descriptor.Direction == 1)) (some (e_I64 (IntKind.i64.wrap (d.Descriptor.Jitter + 1)))) (o_Ratio (device_unit_base ⟨d⟩) fun x2 => o_I64_I64 (ratio_Ceil d.Descriptor.Jitter x2) _) = _
  rw [unit_base_ok ht, o_Ratio_e, ratio_Ceil_ok, o_I64_I64_e]
  have hb := jit_in hf
  have := hf.j0; have := hf.j1
  unfold jitR at *
  by_cases c : d.Descriptor.Direction = 1
  · rw [if_pos c] at hb ⊢
    rw [c, beq_self_eq_true, Bool.not_true, br_f, w64 (by omega) (by omega)]
  · rw [if_neg c] at hb ⊢
    rw [beq_eq_false_iff_ne.2 c, Bool.not_false, br_t, w64 (by omega) (by omega)]
theorem ref21_Jitter_ok (ht : DevTy d l m ss rest) (hf : Fit d) : ref21_Jitter d = some (e_I64 (jitR d)) := by
  rw [ref21_Jitter_eq, ref21_Base_ok ht, o_Ratio_e, ref03_Ceil_ok, o_I64_I64_e]
  have hb := jit_in hf
  have := hf.j0; have := hf.j1
  unfold jitR at *
  by_cases c : d.Descriptor.Direction = 1
  · rw [if_pos c] at hb ⊢
    rw [br_ne (by omega), w64 (by omega) (by omega)]
  · rw [if_neg c] at hb ⊢
    rw [br_eq (by have := hf.dir; omega), w64 (by omega) (by omega)]
end
end Go.Vm
set_option linter.unusedVariables false
set_option linter.unusedSimpArgs false
namespace Go.Vm
open Go.Proofs
theorem spansB_some {p : Int} : ∀ {ss : List Y.Span}, spansB (some p) ss = true → ∀ t ∈ ss, p < t.Lo ∧ spanB t = true
  | [], _, t, ht => by cases ht
  | s :: r, h, t, ht => by
    simp only [spansB, Bool.and_eq_true, decide_eq_true_eq] at h
    obtain ⟨h1, h2, h3⟩ := h
    have hs := spanB_rng h1
    rcases List.mem_cons.1 ht with rfl | ht
    · exact ⟨by omega, h1⟩
    · obtain ⟨a, b⟩ := spansB_some h3 t ht
      exact ⟨by omega, b⟩
theorem spansB_last {o : Option Int} : ∀ {ss : List Y.Span}, spansB o ss = true → ∀ t ∈ ss, ∀ h : ss ≠ [], t.Hi ≤ (ss.getLast h).Hi
  | [], _, t, ht, h => by cases ht
  | s :: r, hb, t, ht, h => by
    have h2 : spansB (some s.Hi) r = true := by
      cases o <;> simp only [spansB, Bool.and_eq_true] at hb
      · exact hb.2
      · exact hb.2.2
    cases r with
    | nil =>
      rcases List.mem_cons.1 ht with rfl | ht
      · exact Int.le_refl _
      · cases ht
    | cons u r =>
      rw [List.getLast_cons (by simp)]
      rcases List.mem_cons.1 ht with rfl | ht
      · have h3 := spansB_last h2 u List.mem_cons_self (by simp)
        obtain ⟨a, b⟩ := spansB_some h2 u List.mem_cons_self
        have := spanB_rng b
        omega
      · exact spansB_last h2 t ht (by simp)
theorem setB_len {ss : List Y.Span} (h : setB ss = true) : ss.length ≤ 64 := by
  simp only [setB, Bool.and_eq_true, decide_eq_true_eq] at h
  exact h.2
theorem withB_set {ss : List Y.Span} {lo hi : Int} (h : withB ss lo hi = true) : setB ss = true := by
  cases ss with
  | nil => cases h
  | cons s r =>
    simp only [withB, Bool.and_eq_true] at h
    exact h.1
theorem withB_has {ss : List Y.Span} {lo hi n : Int} (h : withB ss lo hi = true) (hn : hasB ss n = true) : lo ≤ n ∧ n ≤ hi := by
  cases ss with
  | nil => cases h
  | cons s r =>
    simp only [withB, Bool.and_eq_true, decide_eq_true_eq] at h
    obtain ⟨h1, h2, h3⟩ := h
    simp only [hasB, Bool.and_eq_true, List.any_eq_true, inSpan, decide_eq_true_eq] at hn
    obtain ⟨_, t, ht, h4, h5⟩ := hn
    simp only [setB, Bool.and_eq_true] at h1
    have h6 := spansB_last h1.1 t ht (by simp)
    have e : (s :: r).getLast (by simp) = (s :: r)[r.length]'(by simp) := by rw [List.getLast_eq_getElem]; simp
    rw [e] at h6
    have h7 : s.Lo ≤ t.Lo := by
      rcases List.mem_cons.1 ht with rfl | ht
      · exact Int.le_refl _
      · have hb := h1.1
        simp only [spansB, Bool.and_eq_true] at hb
        have := spansB_some hb.2 t ht
        have := spanB_rng hb.1
        omega
    exact ⟨by omega, by omega⟩
theorem allI_all {β : Type} {p : Nat → β → Bool} : ∀ {ss : List β} {i : Nat}, allI p i ss = true → ∀ s ∈ ss, ∃ k, p k s = true
  | [], _, _, s, hs => by cases hs
  | x :: r, i, h, s, hs => by
    simp only [allI, Bool.and_eq_true] at h
    rcases List.mem_cons.1 hs with rfl | hs
    · exact ⟨i, h.1⟩
    · exact allI_all h.2 s hs
theorem chB_rng {m : List Int} (h : chB m = true) : 1 ≤ m.length ∧ m.length ≤ 8 ∧ ∀ x ∈ m, 1 ≤ x ∧ x ≤ 8 := by
  simp only [chB, Bool.and_eq_true, decide_eq_true_eq] at h
  refine ⟨h.1.1, h.1.2, fun x hx => ?_⟩
  obtain ⟨k, hk⟩ := allI_all h.2 x hx
  simp only [chOk, Bool.and_eq_true, decide_eq_true_eq] at hk
  exact ⟨hk.1, hk.2.1⟩
structure BoxFit (b : TBox) : Prop where
  rs : withB b.rates 1000 768000 = true
  sz : withB b.sizes 1 65536 = true
  mn : 1 ≤ b.maps.length ∧ b.maps.length ≤ 16
  ms : ∀ m ∈ b.maps, chB m = true
theorem boxB_fit {b : TBox} (h : boxB b = true) : BoxFit b := by
  simp only [boxB, Bool.and_eq_true, len16, decide_eq_true_eq] at h
  obtain ⟨_, _, h1, h2, h3, h4⟩ := h
  refine ⟨h1, h2, h4, fun m hm => ?_⟩
  obtain ⟨k, hk⟩ := allI_all h3 m hm
  simp only [mapOk, Bool.and_eq_true] at hk
  exact hk.1
theorem offB_fit {l : List TBox} (h : offB l = true) : l.length ≤ 64 ∧ ∀ b ∈ l, BoxFit b := by
  simp only [offB, Bool.and_eq_true, decide_eq_true_eq, List.all_eq_true] at h
  exact ⟨h.2, fun b hb => boxB_fit (h.1 b hb)⟩
theorem choB_fit {l : List TBox} {c : Y.Choice} {m : List Int} (h : choB l c m = true) : 1000 ≤ c.Format.Rate ∧ c.Format.Rate ≤ 768000 ∧ chB m = true ∧ 1 ≤ c.Format.Kind ∧ c.Format.Kind ≤ 7 ∧ 1 ≤ c.Size ∧ c.Size ≤ 65536 := by
  simp only [choB, Bool.and_eq_true, List.any_eq_true] at h
  obtain ⟨h1, b, hb, h2⟩ := h
  have hf := (offB_fit h1).2 b hb
  simp only [chIn, Bool.and_eq_true, decide_eq_true_eq, kindB] at h2
  obtain ⟨⟨k1, k2, _⟩, h3, h4, h5⟩ := h2
  have r := withB_has hf.rs h3
  have s := withB_has hf.sz h5
  exact ⟨r.1, r.2, hf.ms m h4, k1, k2, s.1, s.2⟩
theorem numsB_fit {d : Y.Descriptor} (h : numsB d = true) : 0 ≤ d.Latency ∧ d.Latency ≤ 1048576 ∧ 0 ≤ d.Drift ∧ d.Drift ≤ 2048 ∧ 0 ≤ d.Jitter ∧ d.Jitter ≤ 4096 := by
  simp only [numsB, Bool.and_eq_true, decide_eq_true_eq] at h
  omega
theorem descB_fit {d : Y.Descriptor} {l : List TBox} (h : descB d l = true) : (d.Direction = 1 ∨ d.Direction = 2) ∧ (0 ≤ d.Latency ∧ d.Latency ≤ 1048576 ∧ 0 ≤ d.Drift ∧ d.Drift ≤ 2048 ∧ 0 ≤ d.Jitter ∧ d.Jitter ≤ 4096) ∧ l.length ≤ 8 ∧ (∀ b ∈ l, BoxFit b) := by
  simp only [descB, Bool.and_eq_true, Bool.or_eq_true, beq_iff_eq, decide_eq_true_eq] at h
  obtain ⟨_, h1, h2, h3, h4⟩ := h
  exact ⟨h1, numsB_fit h2, h3.2, (offB_fit h4).2⟩
theorem fit_of {d : Y.Device} {l : List TBox} {m : List Int} (h1 : descB d.Descriptor l = true) (h2 : choB l d.Choice m = true) (h3 : setPB d = true) : Fit d := by
  obtain ⟨a1, ⟨a2, a3, a4, a5, a6, a7⟩, a8, a9⟩ := descB_fit h1
  obtain ⟨b1, b2, _⟩ := choB_fit h2
  simp only [setPB, Bool.and_eq_true, decide_eq_true_eq] at h3
  obtain ⟨c1, c2, c3, c4⟩ := h3
  exact ⟨b1, b2, c1, c2, c3, c4, a1, a2, a3, a4, a5, a6, a7⟩
theorem few_of {d : Y.Device} {l : List TBox} {m : List Int} {ss : List Y.Segment} {rest : List Int} (h1 : descB d.Descriptor l = true) (h2 : choB l d.Choice m = true) (h3 : clockB ss = true) (h4 : Few rest) : FewDev l m ss rest := by
  obtain ⟨a1, a2, a8, a9⟩ := descB_fit h1
  obtain ⟨b1, b2, b3, _⟩ := choB_fit h2
  have := chB_rng b3
  simp only [clockB, Bool.and_eq_true, decide_eq_true_eq] at h3
  unfold Few at *
  refine ⟨by unfold Few; omega, fun b hb => ?_, by unfold Few; omega, by unfold Few; omega, h4⟩
  have f := a9 b hb
  have f1 := setB_len (withB_set f.rs)
  have f2 := setB_len (withB_set f.sz)
  have f3 := f.mn
  unfold Few
  refine ⟨by omega, by omega, by omega, fun x hx => ?_⟩
  have := chB_rng (f.ms x hx)
  omega
theorem resB_few {r : Y.Resampler} {rest : List Int} (h : resB r rest = true) : rest.length ≤ 524288 := by
  obtain ⟨h1, h2, h3, h4⟩ := resB_ch h
  obtain ⟨q, hq⟩ : ∃ q : Nat, r.Channels = (q : Int) := ⟨r.Channels.toNat, by omega⟩
  rw [hq, toNatN] at h3 h4
  have hd := Nat.div_add_mod rest.length q
  have : q * (rest.length / q) ≤ 8 * 65536 := Nat.mul_le_mul (by omega) h4
  omega
structure DevFit (d : Y.Device) (l : List TBox) (m : List Int) (ss : List Y.Segment) (rest : List Int) : Prop where
  fit : Fit d
  few : FewDev l m ss rest
  ck : clockB ss = true
  s0 : 0 ≤ d.Since
  s1 : d.Since ≤ 1099511627776
  br : bridgeB d.Bridge rest = true
  ch : d.Bridge.Resample.Channels = (m.length : Int)
  base : d.Bridge.Resample.Phase.Base = baseR d
  mp : chB m = true
theorem devB_fit {d : Y.Device} {l : List TBox} {m : List Int} {ss : List Y.Segment} {rest : List Int} (h : devB d l m ss rest = true) : DevFit d l m ss rest := by
  simp only [devB, tailB, Bool.and_eq_true, decide_eq_true_eq, beq_iff_eq] at h
  obtain ⟨h1, h2, h3, h4, h5, h6, h7, h8, h9, h10, _⟩ := h
  have hr : resB d.Bridge.Resample rest = true := by
    simp only [bridgeB, Bool.and_eq_true] at h7
    exact h7.1
  have hl := resB_few hr
  refine ⟨fit_of h1 h2 h3, few_of h1 h2 h4 (by unfold Few; omega), h4, by omega, by omega, h7, h8, ?_, (choB_fit h2).2.2.1⟩
  cases hb : d.Bridge.Resample.Phase.Base
  cases hc : baseR d
  rw [hb, hc] at h9 h10
  simp only at h9 h10
  rw [h9, h10]
theorem own_of {d : Y.Device} {l : List TBox} {m : List Int} {ss : List Y.Segment} {rest : List Int} (ht : DevTy d l m ss rest) (h : devB d l m ss rest = true) : device_own d = some (e_Device d) := device_own_ok ht (devB_fit h).few
end Go.Vm
set_option linter.unusedVariables false
set_option linter.unusedSimpArgs false
namespace Go.Vm
open Go.Proofs
def stepP (p : Y.Phase) : Int := p.Base.Num * (65536 + p.Adjust)
def partsP (p : Y.Phase) : Int := p.Base.Den * 65536
def aheadP (p : Y.Phase) (n : Int) : Int := p.Frac + n * stepP p
structure PhFit (p : Y.Phase) : Prop where
  ok : RatOk p.Base
  n1 : p.Base.Num ≤ 768000
  d1 : p.Base.Den ≤ 768000
  a0 : -4096 ≤ p.Adjust
  a1 : p.Adjust ≤ 4096
  p0 : 0 ≤ p.Pos
  p1 : p.Pos ≤ 1125899906842624
  f0 : 0 ≤ p.Frac
  f1 : p.Frac < p.Base.Den * 65536
theorem phaseB_fit {p : Y.Phase} (h : phaseB p = true) : PhFit p := by
  simp only [phaseB, Bool.and_eq_true, decide_eq_true_eq] at h
  obtain ⟨h1, h2, h3, h4, h5, h6, h7, h8, h9⟩ := h
  exact ⟨h1, h2, h3, h4, h5, h6, h7, h8, h9⟩
theorem PhFit.valid {p : Y.Phase} (h : PhFit p) : phaseB p = true := by
  simp only [phaseB, Bool.and_eq_true, decide_eq_true_eq]
  exact ⟨h.ok, h.n1, h.d1, h.a0, h.a1, h.p0, h.p1, h.f0, h.f1⟩
section
variable {p : Y.Phase}
theorem PhFit.step (h : PhFit p) : 61440 ≤ stepP p ∧ stepP p ≤ 53477376000 := by
  have := h.ok.pos
  have a1 : 1 * 61440 ≤ p.Base.Num * (65536 + p.Adjust) := Int.mul_le_mul (by omega) (by have := h.a0; omega) (by omega) (by omega)
  have a2 : p.Base.Num * (65536 + p.Adjust) ≤ 768000 * 69632 := Int.mul_le_mul h.n1 (by have := h.a1; omega) (by have := h.a0; omega) (by omega)
  unfold stepP
  omega
theorem PhFit.parts (h : PhFit p) : 65536 ≤ partsP p ∧ partsP p ≤ 50331648000 ∧ p.Frac < partsP p := by
  have := h.ok.pos
  have := h.d1
  have := h.f1
  unfold partsP
  omega
theorem PhFit.ahead (h : PhFit p) {n : Int} (h0 : 0 ≤ n) (h1 : n ≤ 65537) : 0 ≤ aheadP p n ∧ aheadP p n ≤ 3504800000000000 := by
  obtain ⟨s0, s1⟩ := h.step
  obtain ⟨q0, q1, q2⟩ := h.parts
  have := h.f0
  have a1 : n * stepP p ≤ 65537 * 53477376000 := Int.mul_le_mul h1 s1 (by omega) (by omega)
  have a2 : 0 ≤ n * stepP p := Int.mul_nonneg h0 (by omega)
  unfold aheadP
  omega
theorem parts_wP (h : PhFit p) : IntKind.i64.wrap (p.Base.Den * 65536) = partsP p := by
  obtain ⟨q0, q1, q2⟩ := h.parts
  unfold partsP at *
  exact w64 (by omega) (by omega)
theorem phase_ahead_ok (h : PhFit p) {n : Int} (h0 : 0 ≤ n) (h1 : n ≤ 65537) : phase_ahead p n = some (e_I64 (aheadP p n)) := by
  obtain ⟨a0, a1⟩ := h.ahead h0 h1
  have := h.ok.pos
  have := h.a0; have := h.a1; have := h.f0; have := h.f1; have := h.d1
  have b1 : n * p.Base.Num ≤ 65537 * 768000 := Int.mul_le_mul h1 h.n1 (by omega) (by omega)
  have b2 : 0 ≤ n * p.Base.Num := Int.mul_nonneg h0 (by omega)
  have e : n * p.Base.Num * (65536 + p.Adjust) = n * stepP p := by unfold stepP; rw [Int.mul_assoc]
  have : p.Frac + n * stepP p = aheadP p n := rfl
  rw [phase_ahead_eq, w64 (n := n * p.Base.Num) (by omega) (by omega), w64 (n := 65536 + p.Adjust) (by omega) (by omega), e, w64 (n := n * stepP p) (by omega) (by omega), this, w64 (by omega) (by omega)]
theorem phase_parts_ok (h : PhFit p) : phase_parts p = some (e_I64 (partsP p)) := by rw [phase_parts_eq, parts_wP h]
theorem divP (h : PhFit p) {x : Int} (h0 : 0 ≤ x) : x.tdiv (partsP p) = x / partsP p ∧ x.tmod (partsP p) = x % partsP p ∧ 0 ≤ x / partsP p ∧ x / partsP p ≤ x ∧ 0 ≤ x % partsP p ∧ x % partsP p < partsP p := by
  obtain ⟨q0, q1, q2⟩ := h.parts
  exact ⟨Int.tdiv_eq_ediv_of_nonneg h0, Int.tmod_eq_emod_of_nonneg h0, Int.ediv_nonneg h0 (by omega), Int.ediv_le_self _ h0, Int.emod_nonneg _ (by omega), Int.emod_lt_of_pos _ (by omega)⟩
def atR (p : Y.Phase) (n : Int) : Int × Int × Int := if phaseB p = true then if n < 0 ∨ n > 65536 then (0, 0, 2) else (p.Pos + aheadP p n / partsP p, aheadP p n % partsP p, 0) else (0, 0, 1)
theorem phase_check_ok (p : Y.Phase) (n : Int) : phase_check p n = some (e_I64 (if phaseB p = true then if n < 0 ∨ n > 65536 then 2 else 0 else 1)) := by
  rw [phase_check_eq, phase_Valid_ok, o_B_e]
  cases hb : phaseB p with
  | false => rfl
  | true =>
    rw [Bool.not_true, br_f, if_pos rfl]
    by_cases h1 : n < 0
    · rw [br_p h1, if_pos (.inl h1)]
    · rw [br_n h1]
      by_cases h2 : n > 65536
      · rw [br_p h2, if_pos (.inr h2)]
      · rw [br_n h2, if_neg (by omega)]
theorem phase_At_ok (p : Y.Phase) (n : Int) : phase_At p n = some (e_I64_I64_I64 (atR p n).1 (atR p n).2.1 (atR p n).2.2) := by
  rw [phase_At_eq, phase_check_ok, o_I64_e]
  unfold atR
  cases hb : phaseB p with
  | false => rfl
  | true =>
    have h := phaseB_fit hb
    rw [if_pos rfl, if_pos rfl]
    by_cases h1 : n < 0 ∨ n > 65536
    · rw [if_pos h1, if_pos h1]; rfl
    · obtain ⟨a0, a1⟩ := h.ahead (n := n) (by omega) (by omega)
      obtain ⟨q0, q1, q2⟩ := h.parts
      obtain ⟨e1, e2, e3, e4, e5, e6⟩ := divP h a0
      have := h.p0; have := h.p1
      rw [if_neg h1, if_neg h1, br_eq' rfl, phase_ahead_ok h (by omega) (by omega), o_I64_e, phase_parts_ok h, o_I64_e, o_I64_e, br_n (by omega), br_n (by omega), e1, e2, w64 (n := aheadP p n / partsP p) (by omega) (by omega), w64 (by omega) (by omega)]
def zPhase : Y.Phase := ⟨⟨0, 0⟩, 0, 0, 0⟩
def advR (p : Y.Phase) (n : Int) : Y.Phase × Int := if (atR p n).2.2 = 0 then if (atR p n).1 > 1125899906842624 then (zPhase, 2) else (⟨p.Base, p.Adjust, (atR p n).1, (atR p n).2.1⟩, 0) else (zPhase, (atR p n).2.2)
theorem phase_Advance_ok (p : Y.Phase) (n : Int) : phase_Advance p n = some (e_Phase_I64 (advR p n).1 (advR p n).2) := by
  rw [phase_Advance_eq, phase_At_ok, o_I64_I64_I64_e]
  unfold advR
  by_cases h : (atR p n).2.2 = 0
  · rw [br_eq h, if_pos h]
    by_cases h1 : (atR p n).1 > 1125899906842624
    · rw [br_p h1, if_pos h1]; rfl
    · rw [br_n h1, if_neg h1, br_eq' h]
  · rw [br_ne h, br_ne' h, if_neg h]; rfl
def retR (p : Y.Phase) (n : Int) : Y.Phase × Int := if phaseB p = true then if n < -4096 ∨ n > 4096 then (zPhase, 2) else (⟨p.Base, n, p.Pos, p.Frac⟩, 0) else (zPhase, 1)
theorem phase_Retune_ok (p : Y.Phase) (n : Int) : phase_Retune p n = some (e_Phase_I64 (retR p n).1 (retR p n).2) := by
  rw [phase_Retune_eq, phase_Valid_ok, o_B_e, phase_tuned_eq, andB, o_B_e]
  unfold retR
  cases hb : phaseB p with
  | false => rfl
  | true =>
    rw [Bool.not_true, br_f, if_pos rfl]
    by_cases h1 : n < -4096
    · rw [decide_eq_false (show ¬ n ≥ -4096 by omega), if_pos (.inl h1)]; rfl
    · rw [decide_eq_true (show n ≥ -4096 by omega), Bool.true_and]
      by_cases h2 : n > 4096
      · rw [decide_eq_false (show ¬ n ≤ 4096 by omega), if_pos (.inr h2)]; rfl
      · rw [decide_eq_true (show n ≤ 4096 by omega), if_neg (by omega)]; rfl
theorem max_if (a b : Int) : (bif true then if b > a then b else a else if b < a then b else a) = max a b := by
  simp only [cond_true]
  omega
theorem min_if (a b : Int) : (bif false then if b > a then b else a else if b < a then b else a) = min a b := by
  simp only [cond_false]
  omega
def needP (p : Y.Phase) (n : Int) : Int := if n = 0 then 0 else max (aheadP p (n - 1) / partsP p + 2) (aheadP p n / partsP p)
theorem PhFit.need (h : PhFit p) {n : Int} (h0 : 0 ≤ n) (h1 : n ≤ 65537) : 0 ≤ needP p n ∧ needP p n ≤ 3504800000000002 := by
  unfold needP
  by_cases c : n = 0
  · rw [if_pos c]; omega
  · rw [if_neg c]
    have a := h.ahead (n := n) h0 h1
    have b := h.ahead (n := n - 1) (by omega) (by omega)
    have c := divP h a.1
    have d := divP h b.1
    omega
theorem phase_need_ok (h : PhFit p) {n : Int} (h0 : 0 ≤ n) (h1 : n ≤ 65537) : phase_need p n = some (e_I64 (needP p n)) := by
  rw [phase_need_eq]
  unfold needP
  by_cases c : n = 0
  · rw [br_eq c, if_pos c]
  · obtain ⟨q0, q1, q2⟩ := h.parts
    have a := h.ahead (n := n) h0 h1
    have b := h.ahead (n := n - 1) (by omega) (by omega)
    obtain ⟨e1, e2, e3, e4, e5, e6⟩ := divP h a.1
    obtain ⟨f1, f2, f3, f4, f5, f6⟩ := divP h b.1
    rw [br_ne c, if_neg c, w64 (n := n - 1) (by omega) (by omega), phase_ahead_ok h (by omega) (by omega), o_I64_e, phase_parts_ok h, o_I64_e, br_n (by omega), phase_ahead_ok h h0 h1, o_I64_e, o_I64_e, br_n (by omega), max_if, e1, f1]
    rw [w64 (n := aheadP p (n - 1) / partsP p) (by omega) (by omega), w64 (n := aheadP p (n - 1) / partsP p + 2) (by omega) (by omega), w64 (n := aheadP p n / partsP p) (by omega) (by omega)]
def needR (p : Y.Phase) (n : Int) : Int × Int := if phaseB p = true then if n < 0 ∨ n > 65536 then (0, 2) else (needP p n, 0) else (0, 1)
theorem phase_Need_ok (p : Y.Phase) (n : Int) : phase_Need p n = some (e_I64_I64 (needR p n).1 (needR p n).2) := by
  rw [phase_Need_eq, phase_check_ok, o_I64_e]
  unfold needR
  cases hb : phaseB p with
  | false => rfl
  | true =>
    rw [if_pos rfl, if_pos rfl]
    by_cases h1 : n < 0 ∨ n > 65536
    · rw [if_pos h1, if_pos h1]; rfl
    · rw [if_neg h1, if_neg h1, br_eq' rfl, phase_need_ok (phaseB_fit hb) (by omega) (by omega), o_I64_e]
theorem PhFit.mono (h : PhFit p) {a b : Int} (ha : 0 ≤ a) (hab : a ≤ b) (hb : b ≤ 65537) : needP p a ≤ needP p b := by
  have hn := h.need (n := b) (by omega) hb
  unfold needP at *
  by_cases c : a = 0
  · rw [if_pos c]; omega
  · rw [if_neg c, if_neg (show ¬ b = 0 by omega)]
    obtain ⟨q0, q1, q2⟩ := h.parts
    obtain ⟨s0, s1⟩ := h.step
    have m1 : aheadP p a ≤ aheadP p b := by
      unfold aheadP
      have := Int.mul_le_mul_of_nonneg_right hab (show 0 ≤ stepP p by omega)
      omega
    have m2 : aheadP p (a - 1) ≤ aheadP p (b - 1) := by
      unfold aheadP
      have := Int.mul_le_mul_of_nonneg_right (show a - 1 ≤ b - 1 by omega) (show 0 ≤ stepP p by omega)
      omega
    have k1 := Int.ediv_le_ediv (show 0 < partsP p by omega) m1
    have k2 := Int.ediv_le_ediv (show 0 < partsP p by omega) m2
    omega
def topN (p : Y.Phase) (n : Int) : Nat → Nat
  | 0 => 0
  | k + 1 => if needP p ((k + 1 : Nat) : Int) ≤ n then k + 1 else topN p n k
def mkN (p : Y.Phase) (n : Int) : Nat := topN p n 65536
theorem topN_is {n : Int} : ∀ (K k : Nat), k ≤ K → (k = 0 ∨ needP p (k : Int) ≤ n) → (∀ j : Nat, k < j → j ≤ K → ¬ needP p (j : Int) ≤ n) → topN p n K = k
  | 0, k, h, _, _ => by simp only [topN]; omega
  | K + 1, k, h, h1, h2 => by
    simp only [topN]
    by_cases c : k = K + 1
    · subst c
      rw [if_pos (h1.resolve_left (by omega))]
    · rw [if_neg (h2 (K + 1) (by omega) (Nat.le_refl _))]
      exact topN_is K k (by omega) h1 fun j a b => h2 j a (by omega)
theorem topN_spec {n : Int} : ∀ (K : Nat), topN p n K ≤ K ∧ (topN p n K = 0 ∨ needP p (topN p n K : Int) ≤ n) ∧ ∀ j : Nat, topN p n K < j → j ≤ K → ¬ needP p (j : Int) ≤ n
  | 0 => ⟨Nat.le_refl _, .inl rfl, fun j a b => by simp only [topN] at a; omega⟩
  | K + 1 => by
    simp only [topN]
    by_cases c : needP p ((K + 1 : Nat) : Int) ≤ n
    · rw [if_pos c]
      exact ⟨Nat.le_refl _, .inr c, fun j a b => by omega⟩
    · rw [if_neg c]
      obtain ⟨a, b, d⟩ := topN_spec (n := n) K
      refine ⟨by omega, b, fun j x y => ?_⟩
      by_cases e : j = K + 1
      · subst e; exact c
      · exact d j x (by omega)
theorem mkN_le (p : Y.Phase) (n : Int) : mkN p n ≤ 65536 := (topN_spec (p := p) (n := n) 65536).1
theorem mkN_need (p : Y.Phase) {n : Int} (hn : 0 ≤ n) : needP p (mkN p n : Int) ≤ n := by
  rcases (topN_spec (p := p) (n := n) 65536).2.1 with h | h
  · unfold mkN; rw [h]; exact hn
  · exact h
def makR (p : Y.Phase) (n : Int) : Int × Int := if phaseB p = true then if n < 0 ∨ n > 1099511627776 then (0, 2) else ((mkN p n : Nat), 0) else (0, 1)
theorem half_ok {a : Nat} (h : a < 1000000) : (IntKind.u64.wrap (IntKind.i64.wrap (a : Int))).fdiv (2 ^ 1) = ((a / 2 : Nat) : Int) := by
  rw [w64 (by omega) (by omega), wu64N (by omega), fdivP]
theorem search_loop (h : PhFit p) (n : Int) : ∀ (m i j : Nat), j - i ≤ m → i ≤ j → j ≤ 65536 → (i = 0 ∨ needP p (i : Int) ≤ n) → (∀ k : Nat, j < k → k ≤ 65536 → ¬ needP p (k : Int) ≤ n) →
    sort_Search__phase_Make_1_k224 i j p n = some (e_I64_Phase_I64 (mkN p n : Nat) p n) := by
  intro m
  induction m with
  | zero =>
    intro i j h1 h2 h3 h4 h5
    rw [sort_Search__phase_Make_1_k224_eq, br_n (by omega), show mkN p n = i from topN_is _ _ (by omega) h4 fun k a b => h5 k (by omega) b]
  | succ m ih =>
    intro i j h1 h2 h3 h4 h5
    rw [sort_Search__phase_Make_1_k224_eq]
    by_cases c : i < j
    · rw [br_p (by omega), addN, half_ok (by omega), w64 (n := (((i + j) / 2 : Nat) : Int)) (by omega) (by omega), phase_Make_1_eq, w64 (n := (((i + j) / 2 : Nat) : Int) + 1) (by omega) (by omega), phase_need_ok h (by omega) (by omega), o_I64_e, o_B_Phase_I64_e]
      have e : (((i + j) / 2 : Nat) : Int) + 1 = (((i + j) / 2 + 1 : Nat) : Int) := by omega
      rw [e]
      by_cases d : needP p (((i + j) / 2 + 1 : Nat) : Int) ≤ n
      · rw [decide_eq_false (by omega), Bool.not_false, br_t]
        exact ih _ _ (by omega) (by omega) h3 (.inr d) h5
      · rw [decide_eq_true (by omega), Bool.not_true, br_f]
        refine ih _ _ (by omega) (by omega) (by omega) h4 fun k a b hk => d ?_
        exact Int.le_trans (h.mono (by omega) (by omega) (by omega)) hk
    · rw [br_n (by omega), show mkN p n = i from topN_is _ _ (by omega) h4 fun k a b => h5 k (by omega) b]
theorem phase_Make_ok (p : Y.Phase) (n : Int) : phase_Make p n = some (e_I64_I64 (makR p n).1 (makR p n).2) := by
  rw [phase_Make_eq, phase_Valid_ok, o_B_e]
  unfold makR
  cases hb : phaseB p with
  | false => rfl
  | true =>
    rw [Bool.not_true, br_f, if_pos rfl]
    by_cases h1 : n < 0
    · rw [br_p h1, if_pos (.inl h1)]
    · rw [br_n h1]
      by_cases h2 : n > 1099511627776
      · rw [br_p h2, if_pos (.inr h2)]
      · rw [br_n h2, if_neg (by omega), sort_Search__phase_Make_1_eq]
        have := search_loop (phaseB_fit hb) n 65536 0 65536 (by omega) (by omega) (by omega) (.inl rfl) (fun k a b => by omega)
        rw [show (0 : Int) = ((0 : Nat) : Int) from rfl, show (65536 : Int) = ((65536 : Nat) : Int) from rfl, this, o_I64_Phase_I64_e]
end
def adjR (c : Y.Control) (f : Int) : Int := if ctlB c = true ∧ 0 ≤ f ∧ f ≤ 2147483647 then if f - c.Target > c.Dead then min c.Most ((f - c.Target - c.Dead) * c.Gain) else if f - c.Target < -c.Dead then -(min c.Most ((c.Target - f - c.Dead) * c.Gain)) else 0 else 0
structure CtlFit (c : Y.Control) : Prop where
  t0 : 0 ≤ c.Target
  t1 : c.Target ≤ 65536
  d0 : 0 ≤ c.Dead
  d1 : c.Dead ≤ 65536
  g0 : 1 ≤ c.Gain
  g1 : c.Gain ≤ 4096
  m0 : 0 ≤ c.Most
  m1 : c.Most ≤ 4096
theorem ctlB_fit {c : Y.Control} (h : ctlB c = true) : CtlFit c := by
  simp only [ctlB, Bool.and_eq_true, decide_eq_true_eq] at h
  obtain ⟨h1, h2, h3, h4, h5, h6, h7, h8⟩ := h
  exact ⟨h1, h2, h3, h4, h5, h6, h7, h8⟩
theorem CtlFit.prod {c : Y.Control} (h : CtlFit c) {x : Int} (h0 : 0 ≤ x) (h1 : x ≤ 4294967296) : 0 ≤ x * c.Gain ∧ x * c.Gain ≤ 17592186044416 := by
  have := h.g0
  have a : x * c.Gain ≤ 4294967296 * 4096 := Int.mul_le_mul h1 h.g1 (by omega) (by omega)
  exact ⟨Int.mul_nonneg h0 (by omega), by omega⟩
theorem Adjust_1_ok {c : Y.Control} (h : CtlFit c) {x : Int} (h0 : 0 ≤ x) (h1 : x ≤ 4294967296) : control_Adjust_1 x c = some (e_I64_Control (min c.Most (max 0 (x - c.Dead) * c.Gain)) c) := by
  have := h.d0; have := h.d1
  obtain ⟨p0, p1⟩ := h.prod (x := max 0 (x - c.Dead)) (by omega) (by omega)
  rw [control_Adjust_1_eq, w64 (n := x - c.Dead) (by omega) (by omega), max_if, w64 (by omega) (by omega), min_if]
theorem control_Adjust_ok (c : Y.Control) (f : Int) : control_Adjust c f = some (e_I64 (adjR c f)) := by
  rw [control_Adjust_eq, control_Valid_ok, o_B_e]
  unfold adjR
  cases hc : ctlB c with
  | false => rw [if_neg (show ¬ (false = true ∧ 0 ≤ f ∧ f ≤ 2147483647) by simp)]; rfl
  | true =>
    have h := ctlB_fit hc
    have := h.t0; have := h.t1; have := h.d0; have := h.d1; have := h.m0; have := h.m1
    rw [Bool.not_true, br_f]
    by_cases h1 : f < 0
    · rw [br_p h1, if_neg (show ¬ (true = true ∧ 0 ≤ f ∧ f ≤ 2147483647) by omega)]
    · rw [br_n h1]
      by_cases h2 : f > 2147483647
      · rw [br_p h2, if_neg (show ¬ (true = true ∧ 0 ≤ f ∧ f ≤ 2147483647) by omega)]
      · rw [br_n h2, if_pos (show true = true ∧ 0 ≤ f ∧ f ≤ 2147483647 from ⟨rfl, by omega, by omega⟩)]
        by_cases h3 : f < c.Target
        · obtain ⟨p0, p1⟩ := h.prod (x := max 0 (c.Target - f - c.Dead)) (by omega) (by omega)
          rw [br_p h3, w64 (n := c.Target - f) (by omega) (by omega), Adjust_1_ok h (by omega) (by omega), o_I64_Control_e, if_neg (by omega)]
          by_cases h4 : f - c.Target < -c.Dead
          · rw [if_pos h4, show max 0 (c.Target - f - c.Dead) = c.Target - f - c.Dead by omega] at *
            rw [w64 (by omega) (by omega), Int.zero_sub]
          · rw [if_neg h4, show max 0 (c.Target - f - c.Dead) = 0 by omega, Int.zero_mul, w64 (by omega) (by omega)]
            congr 2
            omega
        · rw [br_n h3, w64 (n := f - c.Target) (by omega) (by omega), Adjust_1_ok h (by omega) (by omega), o_I64_Control_e]
          by_cases h4 : f - c.Target > c.Dead
          · rw [if_pos h4, show max 0 (f - c.Target - c.Dead) = f - c.Target - c.Dead by omega]
          · rw [if_neg h4, if_neg (by omega), show max 0 (f - c.Target - c.Dead) = 0 by omega, Int.zero_mul]
            congr 2
            omega
theorem adjR_rng {c : Y.Control} {f : Int} : -4096 ≤ adjR c f ∧ adjR c f ≤ 4096 := by
  unfold adjR
  by_cases h : ctlB c = true ∧ 0 ≤ f ∧ f ≤ 2147483647
  · rw [if_pos h]
    have hc := ctlB_fit h.1
    have := hc.m0; have := hc.m1; have := hc.t0; have := hc.t1; have := hc.d0; have := hc.d1
    by_cases h3 : f - c.Target > c.Dead
    · obtain ⟨p0, p1⟩ := hc.prod (x := f - c.Target - c.Dead) (by omega) (by omega)
      rw [if_pos h3]; omega
    · rw [if_neg h3]
      by_cases h4 : f - c.Target < -c.Dead
      · obtain ⟨p0, p1⟩ := hc.prod (x := c.Target - f - c.Dead) (by omega) (by omega)
        rw [if_pos h4]; omega
      · rw [if_neg h4]; omega
  · rw [if_neg h]; omega
end Go.Vm
