/- A call carried out: the caller's state behind it. -/
import Derived.Test.YtgjingnobdhdfaaVmCall
set_option linter.unusedVariables false
set_option linter.unusedSimpArgs false
namespace Go.Vm

variable {nt : Nat} {w0 : World} {S : Sp} {w : World} {A : As} {fr : Fr} {tmps : Array Value} {P : Program}

theorem upds_get {α : Type} (f : Nat → Option α) : ∀ (l : List (Nat × α)) (t : Nat), (upds f l t = f t ∧ ∀ v, (t, v) ∉ l) ∨ ∃ v, (t, v) ∈ l ∧ upds f l t = some v
  | [], t => .inl ⟨rfl, fun v h => by cases h⟩
  | (k, x) :: l, t => by
    by_cases h : t = k
    · subst h
      exact .inr ⟨x, List.mem_cons_self, upds_same _ _ _ _⟩
    · rw [upds_ne _ _ _ h]
      rcases upds_get f l t with ⟨h1, h2⟩ | ⟨v, h1, h2⟩
      · exact .inl ⟨h1, fun v hv => by
          rcases List.mem_cons.1 hv with hv | hv
          · injection hv with e1 _; exact h e1
          · exact h2 v hv⟩
      · exact .inr ⟨v, List.mem_cons_of_mem _ h1, h2⟩
theorem upds_append {α : Type} (f : Nat → Option α) (a b : List (Nat × α)) : upds f (a ++ b) = upds (upds f b) a := by
  induction a with
  | nil => rfl
  | cons x a ih => obtain ⟨k, v⟩ := x; simp only [List.cons_append, upds, ih]

theorem distinct_eq : ∀ {rs : List Ref} {a b : Ref}, distinct (rs.map Ref.key) = true → a ∈ rs → b ∈ rs → a.key = b.key → a = b
  | r :: rs, a, b, hd, ha, hb, he => by
    simp only [List.map_cons] at hd
    obtain ⟨h1, h2⟩ := distinct_cons hd
    rcases List.mem_cons.1 ha with ha' | ha'
    · rcases List.mem_cons.1 hb with hb' | hb'
      · rw [ha', hb']
      · exact absurd (List.mem_map.2 ⟨b, hb', by rw [← he, ha']⟩) h1
    · rcases List.mem_cons.1 hb with hb' | hb'
      · exact absurd (List.mem_map.2 ⟨a, ha', by rw [he, hb']⟩) h1
      · exact distinct_eq h2 ha' hb' he

/-- What is known of new cells at a region. -/
def NewAt (w : World) (Im : Pl) (k o n : Nat) (new : List D) : Prop := new.length = n ∧ ∀ (q : Nat) (d : D), new[q]? = some d → ∃ u, w.cell? (at_ k (o + q)) = some u ∧ Rd w Im d u

theorem wb_ok {w' : World} {Im' : Pl} {r : List D} : ∀ {rs : List Ref} {m : Nat} {qs : List D}, RefsOk w' Im' (rs.map (regOf A fr)) qs → (∀ (i : Nat) (d : D), qs[i]? = some d → r[m + i]? = some d) → (∀ x ∈ rs, RefOk A fr x) →
    (∀ s b', (s, b') ∈ (writeB fr r m rs).1 → ∃ e off n b new, Ref.b s e off n ∈ rs ∧ fr.bx s = some b ∧ b.e = e ∧ b' = ⟨e, splice b.cs off (new.map C.d)⟩ ∧ NewAt w' Im' (A.β s).block ((A.β s).off + off) n new) ∧
    (∀ t k', (t, k') ∈ (writeB fr r m rs).2 → ∃ e i off n y g new, Ref.t t e i off n ∈ rs ∧ fr.tk t = some y ∧ A.ω t = some g ∧ k' = { y with rows := y.rows.set i (splice (y.rows.getD i []) off new) } ∧ NewAt w' Im' g (i * y.esz + off) n new) ∧
    (∀ s e off n, Ref.b s e off n ∈ rs → ∃ b', (s, b') ∈ (writeB fr r m rs).1) ∧ (∀ t e i off n, Ref.t t e i off n ∈ rs → ∃ k', (t, k') ∈ (writeB fr r m rs).2)
  | [], m, qs, h, hr, ho => by
    refine ⟨fun s b h => ?_, fun s b h => ?_, fun s e off n h => ?_, fun t e i off n h => ?_⟩
    · simp [writeB] at h
    · simp [writeB] at h
    · cases h
    · cases h
  | x :: rs, m, qs, h, hr, ho => by
    simp only [List.map_cons] at h
    cases h with
    | @cons _ _ cs ds hl hc hs =>
      have hgot : ∀ q, q < cs.length → r.getD (m + q) .bad = cs[q]! := fun q hq => by
        have := hr q _ (by rw [List.getElem?_append_left hq]; exact List.getElem?_eq_getElem hq)
        rw [getElem!_pos cs q hq]
        simp [List.getD, this]
      have hrest : ∀ (i : Nat) (d : D), ds[i]? = some d → r[m + cs.length + i]? = some d := fun i d hi => by
        rw [Nat.add_assoc]
        exact hr (cs.length + i) d (by rw [List.getElem?_append_right (by omega), Nat.add_sub_cancel_left]; exact hi)
      have hcs : ∀ n, cs.length = n → ((List.range n).map fun i => r.getD (m + i) .bad) = cs := fun n hn => by
        subst hn
        apply List.ext_getElem?
        intro q
        by_cases hq : q < cs.length
        · rw [List.getElem?_map, List.getElem?_range hq, List.getElem?_eq_getElem hq]
          simp only [Option.map_some]
          rw [hgot q hq, getElem!_pos cs q hq]
        · rw [List.getElem?_eq_none (by simp; omega), List.getElem?_eq_none (by omega)]
      cases x with
      | b s e off n =>
        have hl' : cs.length = n := hl
        obtain ⟨g1, g2, g3, g4⟩ := wb_ok (m := m + n) hs (by rw [← hl']; exact hrest) fun x hx => ho x (List.mem_cons_of_mem _ hx)
        obtain ⟨b, hb, he, hbl⟩ := ho _ List.mem_cons_self
        simp only [writeB, hb]
        refine ⟨fun s' b' hm => ?_, fun t k' hm => ?_, fun s' e' off' n' hm => ?_, fun t e' i' off' n' hm => ?_⟩
        · rcases List.mem_cons.1 hm with hm | hm
          · injection hm with e1 e2
            subst e1
            refine ⟨e, off, n, b, cs, List.mem_cons_self, hb, he, ?_, hl', hc⟩
            rw [e2]
            have := hcs n hl'
            congr 2
            rw [← this, List.map_map]; rfl
          · obtain ⟨e', off', n', b2, new, q1, q2⟩ := g1 s' b' hm
            exact ⟨e', off', n', b2, new, List.mem_cons_of_mem _ q1, q2⟩
        · obtain ⟨e', i', off', n', y, g, new, q1, q2⟩ := g2 t k' hm
          exact ⟨e', i', off', n', y, g, new, List.mem_cons_of_mem _ q1, q2⟩
        · rcases List.mem_cons.1 hm with hm | hm
          · injection hm with e1
            subst e1
            exact ⟨_, List.mem_cons_self⟩
          · obtain ⟨b', hb'⟩ := g3 s' e' off' n' hm
            exact ⟨b', List.mem_cons_of_mem _ hb'⟩
        · rcases List.mem_cons.1 hm with hm | hm
          · cases hm
          · exact g4 t e' i' off' n' hm
      | t t e i off n =>
        have hl' : cs.length = n := hl
        obtain ⟨g1, g2, g3, g4⟩ := wb_ok (m := m + n) hs (by rw [← hl']; exact hrest) fun x hx => ho x (List.mem_cons_of_mem _ hx)
        obtain ⟨y, g, hy, he, hf, hi, hbl, hg⟩ := ho _ List.mem_cons_self
        simp only [regOf, hg, hy, Option.getD_some, Option.map_some] at hc
        simp only [writeB, hy]
        refine ⟨fun s' b' hm => ?_, fun t' k' hm => ?_, fun s' e' off' n' hm => ?_, fun t' e' i' off' n' hm => ?_⟩
        · obtain ⟨e', off', n', b2, new, q1, q2⟩ := g1 s' b' hm
          exact ⟨e', off', n', b2, new, List.mem_cons_of_mem _ q1, q2⟩
        · rcases List.mem_cons.1 hm with hm | hm
          · injection hm with e1 e2
            subst e1
            exact ⟨e, i, off, n, y, g, cs, List.mem_cons_self, hy, hg, by rw [e2, hcs n hl'], hl', hc⟩
          · obtain ⟨e', i', off', n', y2, g', new, q1, q2⟩ := g2 t' k' hm
            exact ⟨e', i', off', n', y2, g', new, List.mem_cons_of_mem _ q1, q2⟩
        · rcases List.mem_cons.1 hm with hm | hm
          · cases hm
          · exact g3 s' e' off' n' hm
        · rcases List.mem_cons.1 hm with hm | hm
          · injection hm with e1
            subst e1
            exact ⟨_, List.mem_cons_self⟩
          · obtain ⟨b', hb'⟩ := g4 t' e' i' off' n' hm
            exact ⟨b', List.mem_cons_of_mem _ hb'⟩

/-- Behind a call: what it wrote by addresses stands in the frame. -/
theorem St.callStep (h : St nt w0 S w A fr tmps) {w' : World} {Im' : Pl} {rs : List Ref} {qs r : List D} {m : Nat} (hk : Keep (regsPl (rs.map (regOf A fr))) w w') (hro : ∀ x ∈ rs, RefOk A fr x) (hd : distinct (rs.map Ref.key) = true)
    (hi1 : ∀ k o, A.Im k o → Im' k o) (hi2 : ∀ k o, Im' k o → A.Im k o ∨ w.heap.size ≤ k) (hi3 : ∀ k o, Im' k o → ∃ u, w'.cell? (at_ k o) = some u) (hrf : RefsOk w' Im' (rs.map (regOf A fr)) qs) (hr : ∀ (i : Nat) (d : D), qs[i]? = some d → r[m + i]? = some d) :
    ∀ fr', fr' = { fr with bx := upds fr.bx (writeB fr r m rs).1, tk := upds fr.tk (writeB fr r m rs).2 } →
    ∀ A', A' = { A with Im := Im', own := fun k o => if k < w.heap.size then A.own k o else .none } → Upd w0 S w A fr w' A' fr' (regsPl (rs.map (regOf A fr))) ∧ St nt w0 S w' A' fr' tmps := by
  intro fr' hfr A' hA
  subst hfr hA
  obtain ⟨wb1, wb2, wb3, wb4⟩ := wb_ok (r := r) (m := m) hrf hr hro
  have im' : ∀ k o, Im' k o → k < w.heap.size → A.Im k o := fun k o hh hlt => (hi2 k o hh).resolve_right (by omega)
  have u : Upd w0 S w A fr w' { A with Im := Im', own := fun k o => if k < w.heap.size then A.own k o else .none } { fr with bx := upds fr.bx (writeB fr r m rs).1, tk := upds fr.tk (writeB fr r m rs).2 } (regsPl (rs.map (regOf A fr))) := by
    refine ⟨hk, fun k o hT => ?_, fun k o hi hT => ?_, rfl, hi1, fun k o hlt _ => by simp [hlt], fun s b hb => ?_, fun t k ht => ?_⟩
    · obtain ⟨x, hx, hh⟩ := regs_mem hT
      exact (reg_own h (hro x hx) hh).2.1
    · obtain ⟨x, hx, hh⟩ := regs_mem hT
      exact reg_im h (hro x hx) (ks := []) (fun t ht => by cases ht) hh (.inl hi)
    · rcases upds_get fr.bx (writeB fr r m rs).1 s with ⟨q1, _⟩ | ⟨b', q1, q2⟩
      · exact ⟨b, q1.trans hb, .inr ⟨rfl, rfl⟩⟩
      · obtain ⟨e, off, n, b2, new, _, p2, p3, rfl, _⟩ := wb1 s b' q1
        rw [hb] at p2; injection p2 with p2; subst p2
        exact ⟨_, q2, .inr ⟨p3.symm, rfl⟩⟩
    · rcases upds_get fr.tk (writeB fr r m rs).2 t with ⟨q1, _⟩ | ⟨k', q1, q2⟩
      · exact ⟨k, q1.trans ht, .inr ⟨rfl, rfl, rfl, rfl, rfl⟩⟩
      · obtain ⟨e, i, off, n, y, g, new, _, p2, _, rfl, _⟩ := wb2 t k' q1
        rw [ht] at p2; injection p2 with p2; subst p2
        exact ⟨_, q2, .inr ⟨rfl, rfl, rfl, by simp, rfl⟩⟩
  refine ⟨u, h.of_upd u (fun s b hb => ?_) (fun t k ht => ?_) (fun k o hh => ?_) (fun k o hh => (hi2 k o hh).imp id fun q => Nat.le_trans h.keep.size q)⟩
  · rcases upds_get fr.bx (writeB fr r m rs).1 s with ⟨q1, q2⟩ | ⟨b', q1, q2⟩
    · have hb' := q1.symm.trans hb
      refine .inl ⟨hb', rfl, fun j hj hT => ?_⟩
      obtain ⟨x, hx, hh⟩ := regs_mem hT
      have e1 := (reg_own h (hro x hx) hh).1
      rw [(h.bx s b hb').own j hj] at e1
      cases x with
      | b s' e off n =>
        injection e1 with e1
        subst e1
        obtain ⟨b2, hb2⟩ := wb3 _ _ _ _ hx
        exact q2 b2 hb2
      | t t e i off n => cases e1
    · have hb' : b' = b := by have := q2.symm.trans hb; injection this
      subst hb'
      obtain ⟨e, off, n, b0, new, p1, p2, p3, rfl, pl, pn⟩ := wb1 s b' q1
      have hbo := h.bx s b0 p2
      obtain ⟨b1, hb1, he1, hl1⟩ := hro _ p1
      rw [p2] at hb1; injection hb1 with hb1; subst hb1
      have hsp : off + (new.map C.d).length ≤ b0.cs.length := by rw [List.length_map]; omega
      have hlen := splice_len b0.cs off (new.map C.d) hsp
      have inT : ∀ j, j < b0.cs.length → regsPl (rs.map (regOf A fr)) (A.β s).block ((A.β s).off + j) → off ≤ j ∧ j < off + n := fun j hj hT => by
        obtain ⟨x, hx, hh⟩ := regs_mem hT
        have e1 := (reg_own h (hro x hx) hh).1
        rw [hbo.own j hj] at e1
        cases x with
        | b s' e' off' n' =>
          injection e1 with e1
          subst e1
          have := distinct_eq hd hx p1 rfl
          injection this with _ _ q3 q4
          subst q3 q4
          obtain ⟨_, r1, r2⟩ := hh
          simp only [regOf] at r1 r2
          omega
        | t t e i off n => cases e1
      refine .inr ⟨fun j c hc => ?_, fun j hj => ?_, fun j hj => ?_, fun j hj => hbo.may j (by simpa [hlen] using hj), fun hp => ?_⟩
      · have hc : (splice b0.cs off (new.map C.d))[j]? = some c := hc
        have hj : j < b0.cs.length := by have := (List.getElem?_eq_some_iff.1 hc).1; omega
        by_cases h1 : off ≤ j ∧ j < off + n
        · rw [splice_mid _ _ _ hsp h1.1 (by rw [List.length_map]; omega), List.getElem?_map] at hc
          obtain ⟨d, hd', rfl⟩ := Option.map_eq_some_iff.1 hc
          obtain ⟨v, hv, hrd⟩ := pn _ d hd'
          rw [show (A.β s).off + off + (j - off) = (A.β s).off + j by omega] at hv
          exact ⟨v, hv, hrd.one, hrd⟩
        · have hc' : b0.cs[j]? = some c := by
            rw [← hc]
            by_cases h2 : j < off
            · exact (splice_lo _ _ _ hsp h2).symm
            · exact (splice_hi _ _ _ hsp (by rw [List.length_map]; omega)).symm
          obtain ⟨v, hv, hrc⟩ := hbo.cell j c hc'
          exact ⟨v, hk.cell_some hv fun hT => h1 (inT j hj hT), u.rc h hrc⟩
      · have hj' : j < b0.cs.length := by simpa [hlen] using hj
        obtain ⟨v, hv, _⟩ := hbo.cell j _ (List.getElem?_eq_getElem hj')
        show w'.frozen? (at_ (A.β s).block ((A.β s).off + j)) = false
        rw [hk.frozen (cell_lt hv)]
        exact hbo.free j hj'
      · have hj' : j < b0.cs.length := by simpa [hlen] using hj
        obtain ⟨v, hv, _⟩ := hbo.cell j _ (List.getElem?_eq_getElem hj')
        simp only [cell_lt hv, if_true]
        exact hbo.own j hj'
      · obtain ⟨q1, q2, q3, q4⟩ := hbo.whole hp
        exact ⟨q1, q2, Nat.lt_of_lt_of_le q3 hk.size, fun o => by simp only [q3, if_true]; exact q4 o⟩
  · rcases upds_get fr.tk (writeB fr r m rs).2 t with ⟨q1, q2⟩ | ⟨k', q1, q2⟩
    · have ht' := q1.symm.trans ht
      refine .inl ⟨⟨k, ht', rfl, rfl, rfl⟩, rfl, rfl, fun g hg o hT => ?_⟩
      obtain ⟨x, hx, hh⟩ := regs_mem hT
      have e1 := (reg_own h (hro x hx) hh).1
      rw [(h.tk t k ht').own g hg o] at e1
      cases x with
      | t t' e i off n =>
        injection e1 with e1
        subst e1
        obtain ⟨b2, hb2⟩ := wb4 _ _ _ _ _ hx
        exact q2 b2 hb2
      | b s e off n => cases e1
    · have hk' : k' = k := by have := q2.symm.trans ht; injection this
      subst hk'
      obtain ⟨e, i, off, n, y, g, new, p1, p2, p3, rfl, pl, pn⟩ := wb2 t k' q1
      obtain ⟨y1, g1, hy1, he1, hf1, hi1', hl1, hg1⟩ := hro _ p1
      rw [p2] at hy1; injection hy1 with hy1; subst hy1
      rw [p3] at hg1; injection hg1 with hg1; subst hg1
      have hto := h.tk t y p2
      have hrel := hto.rel
      rw [p3] at hrel
      obtain ⟨e0, e1, e2, cap, cur, e3, e4, e5, e6, e7, e8⟩ := hrel
      have hrow : y.rows[i]? = some (y.rows.getD i []) := by simp [List.getD, List.getElem?_eq_getElem hi1']
      have hrl : (y.rows.getD i []).length = y.esz := e2 _ (List.mem_of_getElem? hrow)
      have hsp : off + new.length ≤ (y.rows.getD i []).length := by omega
      have inT : ∀ o, regsPl (rs.map (regOf A fr)) g o → i * y.esz + off ≤ o ∧ o < i * y.esz + off + n := fun o hT => by
        obtain ⟨x, hx, hh⟩ := regs_mem hT
        have e1 := (reg_own h (hro x hx) hh).1
        rw [hto.own g p3 o] at e1
        cases x with
        | t t' e' i' off' n' =>
          injection e1 with e1
          subst e1
          have := distinct_eq hd hx p1 rfl
          injection this with _ _ q3 q4 q5
          subst q3 q4 q5
          obtain ⟨_, r1, r2⟩ := hh
          simp only [regOf, p2, Option.map_some, Option.getD_some] at r1 r2
          exact ⟨r1, r2⟩
        | b s e off n => cases e1
      obtain ⟨cur', c1, c2, c3⟩ := keep_row hk e4
      have hglt : g < w.heap.size := (Array.getElem?_eq_some_iff.1 e4).1
      refine .inr ⟨?_, fun x hx o => ?_⟩
      · show TokRel w' Im' w0.heap.size _ (A.τ t) (A.ω t)
        rw [p3]
        refine ⟨e0, e1, fun row hrow' => ?_, cap, cur', by simpa using e3, c1, by simpa using e5, e6, by rw [c2]; exact e7, fun i' row hi' j d hj => ?_⟩
        · rcases List.mem_or_eq_of_mem_set hrow' with hm | rfl
          · exact e2 row hm
          · rw [splice_len _ _ _ hsp]; exact hrl
        · show ∃ u, cur'[i' * y.esz + j]? = some u ∧ _
          have old : ∀ row0, y.rows[i']? = some row0 → row0[j]? = some d → ¬ (i' = i ∧ off ≤ j ∧ j < off + n) → ∃ u, cur'[i' * y.esz + j]? = some u ∧ Rd w' Im' d u := fun row0 r1 r2 r3 => by
            obtain ⟨u', s1, s2⟩ := e8 i' row0 r1 j d r2
            refine ⟨u', ?_, u.rd h s2⟩
            rw [← c3]
            refine hk.cell_some (by simp [World.cell?, e4, s1]) fun hT => ?_
            have hin := inT _ hT
            have hrin := row_in e2 r1 r2
            apply r3
            by_cases hii : i' = i
            · subst hii; exact ⟨rfl, by omega, by omega⟩
            · exfalso
              rcases Nat.lt_or_gt_of_ne hii with hlt | hgt
              · have : i' * y.esz + y.esz ≤ i * y.esz := by rw [← Nat.succ_mul]; exact Nat.mul_le_mul_right _ hlt
                omega
              · have : i * y.esz + y.esz ≤ i' * y.esz := by rw [← Nat.succ_mul]; exact Nat.mul_le_mul_right _ hgt
                omega
          by_cases hii : i' = i
          · subst hii
            rw [List.getElem?_set_self hi1'] at hi'
            injection hi' with hi'
            subst hi'
            by_cases hin : off ≤ j ∧ j < off + n
            · rw [splice_mid _ _ _ hsp hin.1 (by omega)] at hj
              obtain ⟨v, hv, hrd⟩ := pn _ d hj
              rw [show i' * y.esz + off + (j - off) = i' * y.esz + j by omega, c3] at hv
              exact ⟨v, hv, hrd⟩
            · refine old _ hrow ?_ fun hh => hin hh.2
              rw [← hj]
              by_cases hlo : j < off
              · exact (splice_lo _ _ _ hsp hlo).symm
              · exact (splice_hi _ _ _ hsp (by omega)).symm
          · rw [List.getElem?_set_ne (Ne.symm hii)] at hi'
            exact old row hi' hj fun hh => hii hh.1
      · have hx' : g = x := by have : A.ω t = some x := hx; rw [p3] at this; injection this
        subst hx'
        simp only [hglt, if_true]
        exact hto.own g p3 o
  · refine ⟨hi3 k o hh, fun s => ?_, fun t x q1 q2 q3 => ?_⟩
    · by_cases hlt : k < w.heap.size
      · simp only [hlt, if_true]; exact (h.im k o (im' k o hh hlt)).nob s
      · simp [hlt]
    · by_cases hlt : k < w.heap.size
      · simp only [hlt, if_true] at q1
        have hI := (h.im k o (im' k o hh hlt)).tok t
        rcases upds_get fr.tk (writeB fr r m rs).2 t with ⟨g1, _⟩ | ⟨k', g1, g2⟩
        · exact hI x q1 (g1.symm.trans q2) q3
        · have hk' : k' = x := by have := g2.symm.trans q2; injection this
          subst hk'
          obtain ⟨e, i, off, n, y, g, new, _, p2, _, rfl, _⟩ := wb2 t k' g1
          have := hI y q1 p2 q3
          exact ⟨this.1, by simpa using this.2⟩
      · simp [hlt] at q1

end Go.Vm
