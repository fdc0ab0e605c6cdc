/- The plain law: AnalyserExplains. -/
import Derived.Test.Ytgjingnobdhdfaaa1Law6
set_option linter.unusedVariables false
set_option linter.unusedSimpArgs false
namespace Go.Vm
open Go.Proofs

/-- The round over the facts, for one glitch. -/
noncomputable def J4 (l0 : List (List D)) (d1 : D) (d2 : Int) (l r : List (List D)) (i n6 n7 n8 n9 n10 n11 : Int) (n12 n13 : Int) (g r15 r16 : List (List D)) : Option (List D) :=
  Kf 4 2196016788280 { tm := [V.one (C.d (D.list 4 l0)), V.one (C.d d1), V.one (C.own 11264 0), V.one (C.d (.int .i64 d2)), V.one (C.d (.list 4 l)), V.one (C.d (.list 2 r)), V.one (C.d (D.int IntKind.i64 i)), V.one (C.own 53248 0), V.one (C.d (D.int IntKind.i64 n6)), V.one (C.d (D.int IntKind.i64 n7)), V.one (C.own 61440 0), V.one (C.d (D.int IntKind.i64 n8)), V.one (C.d (D.int IntKind.i64 n9)), V.one (C.d (D.int IntKind.i64 n10)), V.one (C.d (D.int IntKind.i64 n11)), V.one (C.d (D.int IntKind.i64 n12)), V.one (C.d (D.int IntKind.i64 n13))], bx := [], tk := [{ e := 0, fz := true, et := 30, esz := 6, rows := g }, { e := 0, fz := false, et := 2, esz := 1, rows := r15 }, { e := 0, fz := false, et := 26, esz := 1, rows := r16 }] }
/-- The round over the glitches. -/
noncomputable def H4 (l0 : List (List D)) (d1 : D) (d2 : Int) (l r : List (List D)) (n5 n6 n7 n8 n9 n10 : Int) (g r15 r16 : List (List D)) : Option (List D) :=
  Kf 4 4289095288 { tm := [V.one (C.d (D.list 4 l0)), V.one (C.d d1), V.one (C.own 11264 0), V.one (C.d (.int .i64 d2)), V.one (C.d (.list 4 l)), V.one (C.d (.list 2 r)), V.one (C.own 53248 0), V.one (C.d (D.int IntKind.i64 n5)), V.one (C.d (D.int IntKind.i64 n6)), V.one (C.own 61440 0), V.one (C.d (D.int IntKind.i64 n7)), V.one (C.d (D.int IntKind.i64 n8)), V.one (C.d (D.int IntKind.i64 n9)), V.one (C.d (D.int IntKind.i64 n10))], bx := [], tk := [{ e := 0, fz := true, et := 30, esz := 6, rows := g }, { e := 0, fz := false, et := 2, esz := 1, rows := r15 }, { e := 0, fz := false, et := 26, esz := 1, rows := r16 }] }

theorem j4_loop {l0 l r g r15 r16 : List (List D)} {d1 : D} {d2 i n6 n7 n8 n9 n10 n11 : Int} (hl : FaOk l) (hlen : (l.length : Int) ≤ 9223372036854775807) (hg : GlOk g) (h0 : 0 ≤ i) (hi : i < (g.length : Int)) (hw : IntKind.i64.wrap (n11 + 1) = n11 + 1) : ∀ (m : Nat) (k : Int), 0 ≤ k → k ≤ l.length → ((l.length : Int) - k).toNat = m →
    J4 l0 d1 d2 l r i n6 n7 n8 n9 n10 n11 l.length k g r15 r16 = H4 l0 d1 d2 l r n6 n7 n8 n9 n10 (n11 + 1) g r15 r16 := by
  intro m
  obtain ⟨c2, c3, c4, c5, c6, c7, hrow⟩ := hg _ (getD_mem h0 hi)
  induction m with
  | zero =>
    intro k q0 q1 hm
    unfold J4 H4
    rw [Kf_eq, f4_k2196016788280, decide_eq_false (show ¬ k < (l.length : Int) by omega), hw]
    rfl
  | succ m ih =>
    intro k q0 q1 hm
    have hk : k < (l.length : Int) := by omega
    obtain ⟨a0, a1, a2, a3, hfa⟩ := hl _ (getD_mem q0 hk)
    obtain ⟨q, e1, e2, _⟩ := rel_ok a0 a1 a2 a3 c2 c3 c4 c5 c6 c7
    unfold faA glA at e1 e2
    have hwk : IntKind.i64.wrap (k + 1) = k + 1 := wrap64 (by omega) (by omega)
    have next := ih (k + 1) (by omega) (by omega) (by omega)
    unfold J4 H4 at *
    rw [Kf_eq, f4_k2196016788280, decide_eq_true hk, inB_true h0 hi, hrow]
    simp only [br, takeL, true_or, if_true, inB_true q0 hk, hfa, List.getD_cons_zero, List.getD_cons_succ, e1, e2, obind, takeB, hwk]
    cases q <;> exact next

/-- The round over the two lists of facts. -/
noncomputable def G4 (l0 : List (List D)) (d1 : D) (d2 n3 n4 n5 n6 : Int) (g r8 r9 : List (List D)) : Option (List D) :=
  Kf 4 4188568 { tm := [V.one (C.d (D.list 4 l0)), V.one (C.d d1), V.one (C.own 11264 0), V.one (C.d (.int .i64 d2)), V.one (C.own 53248 0), V.one (C.d (D.int IntKind.i64 n3)), V.one (C.d (D.int IntKind.i64 n4)), V.one (C.own 61440 0), V.one (C.d (D.int IntKind.i64 n5)), V.one (C.d (D.int IntKind.i64 n6))], bx := [], tk := [{ e := 0, fz := true, et := 30, esz := 6, rows := g }, { e := 0, fz := false, et := 2, esz := 1, rows := r8 }, { e := 0, fz := false, et := 26, esz := 1, rows := r9 }] }

theorem h4_loop {l0 l r g r15 r16 : List (List D)} {d1 : D} {d2 n6 n7 n8 n9 : Int} (hl : FaOk l) (hlen : (l.length : Int) ≤ 9223372036854775807) (hg : GlOk g) (hgl : g.length ≤ 1000000) (hr : ExOk l d2 g r) (hrl : r.length = g.length) (hw : IntKind.i64.wrap (n9 + 1) = n9 + 1) : ∀ (m : Nat) (i : Int), 0 ≤ i → i ≤ g.length → ((g.length : Int) - i).toNat = m →
    H4 l0 d1 d2 l r n6 n7 n8 n9 g.length i g r15 r16 = G4 l0 d1 d2 n6 n7 n8 (n9 + 1) g r15 r16 := by
  intro m
  induction m with
  | zero =>
    intro i q0 q1 hm
    unfold H4 G4
    rw [Kf_eq, f4_k4289095288, decide_eq_false (show ¬ i < (g.length : Int) by omega), hw]
    rfl
  | succ m ih =>
    intro i q0 q1 hm
    have hi : i < (g.length : Int) := by omega
    obtain ⟨c2, c3, c4, c5, c6, c7, hrow⟩ := hg _ (getD_mem q0 hi)
    have hri : r[i.toNat]? = some (r.getD i.toNat []) := by
      have : i.toNat < r.length := by omega
      simp [List.getD, List.getElem?_eq_getElem this]
    obtain ⟨q, hq1, _, hq2⟩ := hr _ _ hri
    rw [hrow] at hq2
    have hwi : IntKind.i64.wrap (i + 1) = i + 1 := wrap64 (by omega) (by omega)
    have next := ih (i + 1) (by omega) (by omega) (by omega)
    have jump := j4_loop (l0 := l0) (r := r) (r15 := r15) (r16 := r16) (d1 := d1) (d2 := d2) (n6 := n6) (n7 := n7) (n8 := n8) (n9 := n9) (n10 := (g.length : Int)) hl hlen hg q0 hi hwi _ 0 (by omega) (by omega) rfl
    rw [next] at jump
    rw [← jump]
    unfold H4 J4
    rw [Kf_eq, f4_k4289095288, decide_eq_true hi, inB_true q0 hi, hrow]
    simp only [br, List.getD_cons_zero, List.getD_cons_succ, hq2, obind, takeL, true_or, if_true, inB_true q0 (show i < (r.length : Int) by omega), hq1, exA, takeI, takeB, beq_self_eq_true, Bool.and_true, Bool.not_true, takeR]

/-- The round over the two horizons. -/
noncomputable def F4 (l0 : List (List D)) (d1 : D) (n2 n3 : Int) (g r5 : List (List D)) : Option (List D) :=
  Kf 4 16360 { tm := [V.one (C.d (D.list 4 l0)), V.one (C.d d1), V.one (C.own 11264 0), V.one (C.own 53248 0), V.one (C.d (D.int IntKind.i64 n2)), V.one (C.d (D.int IntKind.i64 n3))], bx := [], tk := [{ e := 0, fz := true, et := 30, esz := 6, rows := g }, { e := 0, fz := false, et := 2, esz := 1, rows := r5 }] }

theorem g4_step {l0 l g r8 r9 : List (List D)} {d1 : D} {d2 n3 n4 n5 n6 : Int} (hl : FaOk l) (hlen : (l.length : Int) ≤ 9223372036854775807) (hg : GlOk g) (hgl : g.length ≤ 1000000) (h0 : 0 ≤ n6) (h1 : n6 < n5) (h2 : n6 < (r9.length : Int)) (h3 : n6 < 1000) (hrow : r9.getD n6.toNat [] = [.list 4 l]) :
    G4 l0 d1 d2 n3 n4 n5 n6 g r8 r9 = G4 l0 d1 d2 n3 n4 n5 (n6 + 1) g r8 r9 := by
  obtain ⟨r, hrl, hr, e1, e2⟩ := all_ok hl hlen hg hgl d2
  have hrows := hr.rows
  have e3 := same_ok hrows (by omega)
  obtain ⟨k, e4, e5⟩ := inside_ok hrows (by omega)
  have hw : IntKind.i64.wrap (n6 + 1) = n6 + 1 := wrap64 (by omega) (by omega)
  have := h4_loop (l0 := l0) (r15 := r8) (r16 := r9) (d1 := d1) (d2 := d2) (n6 := n3) (n7 := n4) (n8 := n5) (n9 := n6) hl hlen hg hgl hr hrl hw _ 0 (by omega) (by omega) rfl
  rw [← this]
  unfold G4 H4
  rw [Kf_eq, f4_k4188568, decide_eq_true h1, inB_true h0 h2, hrow]
  simp only [br, List.getD_cons_zero, List.getD_cons_succ, e1, e2, e3, e4, e5, obind, takeB, takeI, if_true, Bool.not_true, bne_self_eq_false]

theorem g4_end {l0 g r8 r9 : List (List D)} {d1 : D} {d2 n3 n4 n5 n6 : Int} (h : ¬ n6 < n5) (hw : IntKind.i64.wrap (n4 + 1) = n4 + 1) : G4 l0 d1 d2 n3 n4 n5 n6 g r8 r9 = F4 l0 d1 n3 (n4 + 1) g r8 := by
  unfold G4 F4
  rw [Kf_eq, f4_k4188568, decide_eq_false h, hw]
  rfl

theorem f4_step {l0 f g r5 : List (List D)} {n2 n3 a : Int} (hl0 : FaOk l0) (hlen0 : (l0.length : Int) ≤ 9223372036854775807) (hf : FaOk f) (hlenf : (f.length : Int) ≤ 9223372036854775807) (hg : GlOk g) (hgl : g.length ≤ 1000000) (h0 : 0 ≤ n3) (h1 : n3 < n2) (h2 : n3 < (r5.length : Int)) (h3 : n3 < 1000) (hrow : r5.getD n3.toNat [] = [.int .i64 a]) :
    F4 l0 (.list 4 f) n2 n3 g r5 = F4 l0 (.list 4 f) n2 (n3 + 1) g r5 := by
  have hw : IntKind.i64.wrap (n3 + 1) = n3 + 1 := wrap64 (by omega) (by omega)
  have a1 := g4_step (l0 := l0) (r8 := r5) (r9 := [[.list 4 f], [.list 4 l0]]) (d1 := .list 4 f) (d2 := a) (n3 := n2) (n4 := n3) (n5 := 2) (n6 := 0) hf hlenf hg hgl (by omega) (by omega) (by simp) (by omega) rfl
  have a2 := g4_step (l0 := l0) (r8 := r5) (r9 := [[.list 4 f], [.list 4 l0]]) (d1 := .list 4 f) (d2 := a) (n3 := n2) (n4 := n3) (n5 := 2) (n6 := 0 + 1) hl0 hlen0 hg hgl (by omega) (by omega) (by simp) (by omega) rfl
  have a3 := g4_end (l0 := l0) (g := g) (r8 := r5) (r9 := [[.list 4 f], [.list 4 l0]]) (d1 := .list 4 f) (d2 := a) (n3 := n2) (n4 := n3) (n5 := 2) (n6 := 0 + 1 + 1) (by omega) hw
  rw [← a3, ← a2, ← a1]
  unfold F4 G4
  rw [Kf_eq, f4_k16360, decide_eq_true h1, inB_true h0 h2, hrow]
  rfl
theorem f4_end {l0 g r5 : List (List D)} {d1 : D} {n2 n3 : Int} (h : ¬ n3 < n2) : F4 l0 d1 n2 n3 g r5 = some [.bool true] := by
  unfold F4
  rw [Kf_eq, f4_k16360, decide_eq_false h]
  rfl

theorem fin4 {l0 f g : List (List D)} {d : Int} (hl0 : FaOk l0) (hlen0 : (l0.length : Int) ≤ 9223372036854775807) (hf : FaOk f) (hlenf : (f.length : Int) ≤ 9223372036854775807) (hg : GlOk g) (hgl : g.length ≤ 1000000) :
    F4 l0 (.list 4 f) 2 0 g [[.int .i64 d], [.int .i64 (d.tmod 15)]] = some [.bool true] := by
  rw [f4_step hl0 hlen0 hf hlenf hg hgl (by omega) (by omega) (by simp) (by omega) rfl, f4_step (n3 := 0 + 1) hl0 hlen0 hf hlenf hg hgl (by omega) (by omega) (by simp) (by omega) rfl, f4_end (by omega)]

/-- The glitches drawn. -/
noncomputable def E4 (l0 l1 : List (List D)) (d : Int) (f cs : List (List D)) (n p : Int) (r : List (List D)) : Option (List D) :=
  Kf 4 8144 { tm := [V.one (C.d (D.list 4 l0)), V.one (C.d (D.list 6 l1)), V.one (C.d (D.int IntKind.i64 d)), V.one (C.ptr 32769 0 0), V.one (C.d (.list 4 f)), V.one (C.own 11264 0), V.one (C.d (.int .i64 n))], bx := [[C.d (.list 1 cs), C.d (.int .i64 p)]], tk := [{ e := 0, fz := true, et := 30, esz := 6, rows := r }] }
theorem e4_loop {l0 l1 f cs : List (List D)} {d : Int} (hl0 : FaOk l0) (hlen0 : (l0.length : Int) ≤ 9223372036854775807) (hf : FaOk f) (hlenf : (f.length : Int) ≤ 9223372036854775807) (hl1 : GlOk l1) (hlen1 : l1.length ≤ 1000) (hcs : InOk cs) (hcl : (cs.length : Int) ≤ 9223372036854775807) :
    ∀ (n : Nat) (p : Int) (r : List (List D)), 0 ≤ p → p ≤ 9223372036854775807 → GlOk r → r.length + n ≤ 1000 → E4 l0 l1 d f cs n p r = some [.bool true] := by
  intro n
  induction n with
  | zero =>
    intro p r hp hp' hr hrl
    have hg : GlOk (r ++ l1) := fun row h => by
      rcases List.mem_append.1 h with h | h
      · exact hr row h
      · exact hl1 row h
    have := fin4 (d := d) hl0 hlen0 hf hlenf hg (by simp; omega)
    unfold E4
    unfold F4 at this
    rw [Kf_eq, f4_k8144, decide_eq_true (show (r.length + l1.length) * 48 ≤ 140737488355328 by omega)]
    exact this
  | succ n ih =>
    intro p r hp hp' hr hrl
    obtain ⟨c2, c3, c4, c5, c6, c7, p1, h1, h2, h3⟩ := glitch_ok hcs hcl hp hp'
    have next := ih p1 (r ++ [[.int .i64 c2, .int .i64 c3, .int .i64 c4, .int .i64 c5, .int .u64 c6, .int .i64 c7]]) h2 h3 (fun row h => by
      rcases List.mem_append.1 h with h | h
      · exact hr row h
      · exact ⟨_, _, _, _, _, _, List.mem_singleton.1 h⟩) (by simp; omega)
    have hw : IntKind.i64.wrap (((n + 1 : Nat) : Int) - 1) = (n : Int) := by rw [wrap64 (by omega) (by omega)]; omega
    unfold E4 at *
    unfold Deck at h1
    rw [Kf_eq, f4_k8144, decide_eq_true (show (r.length + 1) * 48 ≤ 140737488355328 by omega)]
    simp only [takeI, if_true]
    rw [decide_eq_true (show ((n + 1 : Nat) : Int) > 0 by omega), h1, hw]
    simp only [br, obind, List.getD_cons_zero, List.getD_cons_succ]
    exact next

theorem explains_ok {a0 b1 c2 : List (List D)} {d3 : Int} (h0 : InOk a0) (h0l : (a0.length : Int) ≤ 9223372036854775807) (h1 : FaOk b1) (h2 : GlOk c2) : Cf 4 [.v [.list 1 a0], .v [.list 4 b1], .v [.list 6 c2], .v [.int .i64 d3]] = some [.bool true] := by
  have hs := sane_ok
  rw [Cf_eq, f4_eq, hs]
  simp only [obind, List.getD_cons_zero, takeB, Bool.not_true, br_ite, Bool.false_eq_true, if_false, decide_eq_true_eq]
  split
  · rfl
  · split
    · rfl
    · rename_i hb hc
      have h6 : Cf 6 [.v [.list 1 a0]] = some [.list 1 a0, .int .i64 0] := by rw [Cf_eq, f6_eq]
      obtain ⟨r, p1, q1, q2, q3, q4, q5⟩ := facts_ok h0 h0l (p := 0) (by omega) (by omega)
      obtain ⟨n, p2, s1, s2, s3, s4, s5⟩ := next_ok h0 h0l (n := 6) q4 q5 (by omega) (by omega)
      unfold Deck at q3 s1
      simp only [h6, List.getD_cons_zero, List.getD_cons_succ, q3, s1]
      have := e4_loop (d := d3) h1 (by omega) q1 (by omega) h2 (by omega) h0 h0l n.toNat p2 [] s2 s3 (fun row h => by cases h) (by simp; omega)
      rw [show ((n.toNat : Nat) : Int) = n by omega] at this
      exact this
end Go.Vm
