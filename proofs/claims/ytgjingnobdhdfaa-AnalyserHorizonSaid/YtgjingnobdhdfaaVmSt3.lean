/- Stores and appends: how the state goes on. -/
import Derived.Test.YtgjingnobdhdfaaVmSt2
set_option linter.unusedVariables false
set_option linter.unusedSimpArgs false
namespace Go.Vm

variable {nt : Nat} {w0 : World} {S : Sp} {w : World} {A : As} {fr : Fr} {tmps : Array Value} {P : Program}

theorem keep_setCell (w : World) (k o : Nat) (v : Value) : Keep (fun i j => i = k ∧ j = o) w (w.setCell (at_ k o) v) := by
  refine ⟨rfl, rfl, rfl, by simp, fun i hi => ?_⟩
  by_cases h : i = k
  · subst h
    cases ho : w.heap[i]? with
    | none => exact absurd ho (by simp [hi])
    | some obj =>
      cases obj with
      | cells c t fz =>
        refine .inr ⟨c, c.setIfInBounds o v, t, fz, rfl, ?_, by simp, fun j hj => ?_⟩
        · have hv : w.heap[i] = .cells c t fz := (Array.getElem?_eq_some_iff.1 ho).2
          simp only [World.setCell]
          rw [Array.getElem?_eq_getElem (by simpa using hi), Array.getElem_modify]
          simp [hv]
        · exact Array.getElem?_setIfInBounds_ne (fun e => hj ⟨rfl, e.symm⟩)
      | _ =>
        refine .inl ?_
        have hv := (Array.getElem?_eq_some_iff.1 ho).2
        simp only [World.setCell]
        rw [Array.getElem?_eq_getElem (by simpa using hi), Array.getElem_modify]
        simp [hv]
  · exact .inl (RowKit.Below.heap_setCell w (at_ k o) v i h)
theorem keep_setCells (k : Nat) : ∀ (vs : List Value) (o : Nat) (w : World), Keep (fun i j => i = k ∧ o ≤ j ∧ j < o + vs.length) w (w.setCells k o vs)
  | [], o, w => Keep.refl _ _
  | v :: vs, o, w => by
    refine Keep.trans ((keep_setCell w k o v).mono fun i j _ h => ⟨h.1, by omega, by simp; omega⟩) (keep_setCells k vs (o + 1) _) fun i j _ h => ⟨h.1, by omega, ?_⟩
    have := h.2.2
    simp; omega

theorem splice_len {β : Type} (l : List β) (off : Nat) (new : List β) (h : off + new.length ≤ l.length) : (splice l off new).length = l.length := by
  simp only [splice, List.length_append, List.length_take, List.length_drop]; omega
theorem splice_lo {β : Type} (l : List β) (off : Nat) (new : List β) (h : off + new.length ≤ l.length) {j : Nat} (hj : j < off) : (splice l off new)[j]? = l[j]? := by
  simp only [splice]
  rw [List.append_assoc, List.getElem?_append_left (by rw [List.length_take]; omega), List.getElem?_take, if_pos hj]
theorem splice_mid {β : Type} (l : List β) (off : Nat) (new : List β) (h : off + new.length ≤ l.length) {j : Nat} (h1 : off ≤ j) (h2 : j < off + new.length) : (splice l off new)[j]? = new[j - off]? := by
  simp only [splice]
  rw [List.append_assoc, List.getElem?_append_right (by rw [List.length_take]; omega), List.length_take, Nat.min_eq_left (by omega), List.getElem?_append_left (by omega)]
theorem splice_hi {β : Type} (l : List β) (off : Nat) (new : List β) (h : off + new.length ≤ l.length) {j : Nat} (h1 : off + new.length ≤ j) : (splice l off new)[j]? = l[j]? := by
  simp only [splice]
  rw [List.getElem?_append_right (by rw [List.length_append, List.length_take]; omega), List.length_append, List.length_take, Nat.min_eq_left (by omega), List.getElem?_drop]
  congr 1; omega

theorem RCs.one {cs : List C} {vs : List Value} (h : RCs fr w A cs vs) : ∀ v ∈ vs, v.oneCell' = true := fun v hv => by
  obtain ⟨j, hj⟩ := List.getElem?_of_mem hv
  obtain ⟨c, _, hc⟩ := getVs h hj
  rw [← oneC_eq]; exact hc.1

/-- What is stored in cells that are there and not frozen. -/
theorem run_storeCells' {k o : Nat} {vs : List Value} (hc : ∀ j, j < vs.length → (w.cell? (at_ k (o + j))).isSome = true) (hf : ∀ j, j < vs.length → w.frozen? (at_ k (o + j)) = false) (h1 : ∀ v ∈ vs, v.oneCell' = true) :
    (storeCells (at_ k o) vs).run P w = .ok () (w.setCells k o vs) := by
  have := run_storeCells_cells (P := P) k o vs 0 w (by simpa using hc) (by simpa using hf) h1
  simpa using this

/-- A store into a variable. -/
theorem St.setBox (h : St nt w0 S w A fr tmps) {s : Nat} {b : Bx} (hb : fr.bx s = some b) {off : Nat} {cs : List C} {vs : List Value} (hr : RCs fr w A cs vs) (hl : off + cs.length ≤ b.cs.length) :
    ∀ fr', fr' = { fr with bx := upd fr.bx s (some ⟨b.e, splice b.cs off cs⟩) } →
    (storeCells (at_ (A.β s).block ((A.β s).off + off)) vs).run P w = .ok () (w.setCells (A.β s).block ((A.β s).off + off) vs) ∧ St nt w0 S (w.setCells (A.β s).block ((A.β s).off + off) vs) A fr' tmps := by
  intro fr' hfr
  subst hfr
  have hbo := h.bx s b hb
  have hvl := hr.1
  have cellAt : ∀ j, j < b.cs.length → ∃ v, w.cell? (at_ (A.β s).block ((A.β s).off + j)) = some v ∧ RC fr w A b.cs[j]! v := fun j hj => by
    obtain ⟨v, h1, h2⟩ := hbo.cell j b.cs[j] (List.getElem?_eq_getElem hj)
    exact ⟨v, h1, by rwa [getElem!_pos b.cs j hj]⟩
  have hex : ∀ j, j < vs.length → (w.cell? (at_ (A.β s).block ((A.β s).off + off + j))).isSome = true := fun j hj => by
    obtain ⟨v, h1, _⟩ := cellAt (off + j) (by omega)
    rw [Nat.add_assoc, h1]; rfl
  refine ⟨run_storeCells' hex (fun j hj => by rw [Nat.add_assoc]; exact hbo.free _ (by omega)) hr.one, ?_⟩
  have hk := keep_setCells (A.β s).block vs ((A.β s).off + off) w
  have inT : ∀ k o, (k = (A.β s).block ∧ (A.β s).off + off ≤ o ∧ o < (A.β s).off + off + vs.length) → ∃ j, off ≤ j ∧ j < off + vs.length ∧ o = (A.β s).off + j ∧ k = (A.β s).block := fun k o ⟨h1, h2, h3⟩ => ⟨o - (A.β s).off, by omega, by omega, by omega, h1⟩
  have u : Upd w0 S w A fr (w.setCells (A.β s).block ((A.β s).off + off) vs) A { fr with bx := upd fr.bx s (some ⟨b.e, splice b.cs off cs⟩) } (fun i j => i = (A.β s).block ∧ (A.β s).off + off ≤ j ∧ j < (A.β s).off + off + vs.length) := by
    refine ⟨hk, fun k o ht => ?_, fun k o hi ht => ?_, rfl, fun _ _ h => h, fun _ _ _ _ => rfl, fun s' b' hb' => ?_, fun t k hk => ⟨k, hk, .inr ⟨rfl, rfl, rfl, rfl, rfl⟩⟩⟩
    · obtain ⟨j, h1, h2, rfl, rfl⟩ := inT k o ht
      exact hbo.may j (by omega)
    · obtain ⟨j, h1, h2, rfl, rfl⟩ := inT k o ht
      exact (h.im _ _ hi).nob s (hbo.own j (by omega))
    · by_cases hs : s' = s
      · subst hs
        rw [hb] at hb'; injection hb' with hb'; subst hb'
        exact ⟨_, upd_same _ _ _, .inr ⟨rfl, rfl⟩⟩
      · exact ⟨b', (upd_ne _ _ hs).trans hb', .inr ⟨rfl, rfl⟩⟩
  refine h.of_upd u (fun s' b' hb' => ?_) (fun t k hk => .inl ⟨⟨k, hk, rfl, rfl, rfl⟩, rfl, rfl, fun g hg o ht => ?_⟩) (h.im_old u fun t x hx g hg _ => ⟨x, hx, hg, fun h => h, Nat.le_refl _⟩) fun _ _ h => .inl h
  · by_cases hs : s' = s
    · subst hs
      simp only [upd_same, Option.some.injEq] at hb'
      subst hb'
      have hlen := splice_len b.cs off cs hl
      refine .inr ⟨fun j c hc => ?_, fun j hj => ?_, fun j hj => hbo.own j (by simpa [hlen] using hj), fun j hj => hbo.may j (by simpa [hlen] using hj), fun hp => ⟨(hbo.whole hp).1, (hbo.whole hp).2.1, Nat.lt_of_lt_of_le (hbo.whole hp).2.2.1 hk.size, (hbo.whole hp).2.2.2⟩⟩
      · have hj : j < b.cs.length := by have := (List.getElem?_eq_some_iff.1 hc).1; simpa [hlen] using this
        have hc : (splice b.cs off cs)[j]? = some c := hc
        by_cases h1 : j < off
        · rw [splice_lo b.cs off cs hl h1] at hc
          obtain ⟨v, hv, hcv⟩ := hbo.cell j c hc
          exact ⟨v, hk.cell_some hv (fun ht => by omega), u.rc h hcv⟩
        · by_cases h2 : j < off + cs.length
          · rw [splice_mid b.cs off cs hl (by omega) h2] at hc
            obtain ⟨v, hv, hcv⟩ := getC hr hc
            refine ⟨v, ?_, u.rc h hcv⟩
            have hjl : j - off < vs.length := by omega
            have := World.cell?_setCells_in (A.β s').block vs ((A.β s').off + off) w hex (j - off) hjl
            rw [show (A.β s').off + off + (j - off) = (A.β s').off + j by omega] at this
            rw [this, ← hv, List.getElem?_eq_getElem hjl]
          · rw [splice_hi b.cs off cs hl (by omega)] at hc
            obtain ⟨v, hv, hcv⟩ := hbo.cell j c hc
            exact ⟨v, hk.cell_some hv (fun ht => by omega), u.rc h hcv⟩
      · have hj' : j < b.cs.length := by simpa [hlen] using hj
        obtain ⟨v, hv, _⟩ := cellAt j hj'
        rw [hk.frozen (cell_lt hv)]
        exact hbo.free j hj'
    · have hb2 := (upd_ne _ _ hs).symm.trans hb'
      refine .inl ⟨hb2, rfl, fun j hj ht => ?_⟩
      obtain ⟨j', h1, h2, h3, h4⟩ := inT _ _ ht
      have q1 := (h.bx s' b' hb2).own j hj
      rw [h4, h3, hbo.own j' (by omega)] at q1
      injection q1 with q1
      exact hs q1.symm
  · obtain ⟨j', h1, h2, h3, h4⟩ := inT _ _ ht
    have q1 := (h.tk t k hk).own g hg o
    rw [h4, h3, hbo.own j' (by omega)] at q1
    cases q1

theorem keep_row {T : Pl} {w w' : World} (hk : Keep T w w') {g : Nat} {cur : Array Value} {et : TypeId} (hg : w.heap[g]? = some (.cells cur et (0, 0))) :
    ∃ cur', w'.heap[g]? = some (.cells cur' et (0, 0)) ∧ cur'.size = cur.size ∧ ∀ j, w'.cell? (at_ g j) = cur'[j]? := by
  have hlt : g < w.heap.size := (Array.getElem?_eq_some_iff.1 hg).1
  rcases hk.blk g hlt with he | ⟨c, c', t, fz, h1, h2, h3, _⟩
  · rw [hg] at he
    exact ⟨cur, he, rfl, fun j => by simp [World.cell?, he]⟩
  · rw [hg] at h1
    injection h1 with h1; injection h1 with q1 q2 q3
    subst q1 q2 q3
    exact ⟨c', h2, h3, fun j => by simp [World.cell?, h2]⟩

/-- A store into a slice of the call's own. -/
theorem St.setTok (h : St nt w0 S w A fr tmps) {t : Nat} {k : Tk} (ht : fr.tk t = some k) (hf : k.fz = false) {g : Nat} (hg : A.ω t = some g) {i off : Nat} (hi : i < k.rows.length) {ds : List D} {vs : List Value}
    (hd : ds.length = vs.length) (hr : ∀ (j : Nat) (d : D) (v : Value), ds[j]? = some d → vs[j]? = some v → Rd w A.Im d v) (hl : off + ds.length ≤ k.esz) :
    ∀ fr', fr' = { fr with tk := upd fr.tk t (some { k with rows := k.rows.set i (splice (k.rows.getD i []) off ds) }) } →
    (storeCells (at_ g (i * k.esz + off)) vs).run P w = .ok () (w.setCells g (i * k.esz + off) vs) ∧ St nt w0 S (w.setCells g (i * k.esz + off) vs) A fr' tmps := by
  intro fr' hfr
  subst hfr
  have hto := h.tk t k ht
  have hrel := hto.rel
  rw [hg] at hrel
  obtain ⟨e0, e1, e2, cap, cur, e3, e4, e5, e6, e7, e8⟩ := hrel
  have hrow : k.rows[i]? = some (k.rows.getD i []) := by simp [List.getD, List.getElem?_eq_getElem hi]
  have hrl : (k.rows.getD i []).length = k.esz := e2 _ (List.mem_of_getElem? hrow)
  have hbound : i * k.esz + k.esz ≤ cur.size := by rw [e7, ← Nat.succ_mul]; exact Nat.mul_le_mul_right _ (by omega)
  have hex : ∀ j, j < vs.length → (w.cell? (at_ g (i * k.esz + off + j))).isSome = true := fun j hj => by
    have hh : i * k.esz + off + j < cur.size := by omega
    simp [World.cell?, e4, hh]
  have h1 : ∀ v ∈ vs, v.oneCell' = true := fun v hv => by
    obtain ⟨j, hj⟩ := List.getElem?_of_mem hv
    have hlt := (List.getElem?_eq_some_iff.1 hj).1
    rw [← oneC_eq]; exact (hr j _ v (List.getElem?_eq_getElem (by omega)) hj).one
  refine ⟨run_storeCells' hex (fun j hj => by simp [World.frozen?, e4]) h1, ?_⟩
  have hk := keep_setCells g vs (i * k.esz + off) w
  have u : Upd w0 S w A fr (w.setCells g (i * k.esz + off) vs) A { fr with tk := upd fr.tk t (some { k with rows := k.rows.set i (splice (k.rows.getD i []) off ds) }) } (fun a j => a = g ∧ i * k.esz + off ≤ j ∧ j < i * k.esz + off + vs.length) := by
    refine ⟨hk, fun a o hh => .inl (by rw [hh.1]; exact e1), fun a o hi' hh => ?_, rfl, fun _ _ h => h, fun _ _ _ _ => rfl, fun s b hb => ⟨b, hb, .inr ⟨rfl, rfl⟩⟩, fun t' k' hk' => ?_⟩
    · obtain ⟨rfl, _, _⟩ := hh
      have := (h.im _ _ hi').tok t k (hto.own a hg o) ht hg
      rw [hf] at this
      cases this.1
    · by_cases hs : t' = t
      · subst hs
        rw [ht] at hk'; injection hk' with hk'; subst hk'
        exact ⟨_, upd_same _ _ _, .inr ⟨rfl, rfl, rfl, by simp, rfl⟩⟩
      · exact ⟨k', (upd_ne _ _ hs).trans hk', .inr ⟨rfl, rfl, rfl, rfl, rfl⟩⟩
  refine h.of_upd u (fun s b hb => .inl ⟨hb, rfl, fun j hj hh => ?_⟩) (fun t' k' hk' => ?_) (h.im_old u fun t' x hx y hy _ => ?_) fun _ _ h => .inl h
  · have q1 := (h.bx s b hb).own j hj
    rw [hh.1, hto.own g hg] at q1
    cases q1
  · by_cases hs : t' = t
    · subst hs
      simp only [upd_same, Option.some.injEq] at hk'
      subst hk'
      refine .inr ⟨?_, fun y hy o => hto.own y hy o⟩
      rw [hg]
      obtain ⟨cur', c1, c2, c3⟩ := keep_row hk e4
      have hsp : off + ds.length ≤ (k.rows.getD i []).length := by omega
      refine ⟨e0, e1, fun row hrow' => ?_, cap, cur', by simpa using e3, c1, by simpa using e5, e6, by rw [c2]; exact e7, fun i' row hi' j d hj => ?_⟩
      · rcases List.mem_or_eq_of_mem_set hrow' with hm | rfl
        · exact e2 row hm
        · rw [splice_len _ _ _ hsp]; exact hrl
      · show ∃ u, cur'[i' * k.esz + j]? = some u ∧ _
        by_cases hii : i' = i
        · subst hii
          rw [List.getElem?_set_self (by simpa using hi)] at hi'
          injection hi' with hi'
          subst hi'
          have hjl : j < k.esz := by have := (List.getElem?_eq_some_iff.1 hj).1; rw [splice_len _ _ _ hsp] at this; omega
          by_cases hin : off ≤ j ∧ j < off + ds.length
          · rw [splice_mid _ _ _ hsp hin.1 hin.2] at hj
            have hjv : j - off < vs.length := by omega
            refine ⟨vs[j - off], ?_, u.rd h (hr _ d _ hj (List.getElem?_eq_getElem hjv))⟩
            have := World.cell?_setCells_in g vs (i' * k.esz + off) w hex (j - off) hjv
            rw [show i' * k.esz + off + (j - off) = i' * k.esz + j by omega, c3] at this
            exact this
          · have hj' : (k.rows.getD i' [])[j]? = some d := by
              rw [← hj]
              by_cases hlo : j < off
              · exact (splice_lo _ _ _ hsp hlo).symm
              · exact (splice_hi _ _ _ hsp (by omega)).symm
            obtain ⟨u', q1, q2⟩ := e8 i' _ hrow j d hj'
            refine ⟨u', ?_, u.rd h q2⟩
            rw [← c3]
            refine hk.cell_some ?_ (fun hh => by omega)
            simp [World.cell?, e4, q1]
        · rw [List.getElem?_set_ne (Ne.symm hii)] at hi'
          obtain ⟨u', q1, q2⟩ := e8 i' row hi' j d hj
          refine ⟨u', ?_, u.rd h q2⟩
          rw [← c3]
          refine hk.cell_some (by simp [World.cell?, e4, q1]) (fun hh => ?_)
          have r1 := row_in e2 hi' hj
          have : i' * k.esz + j < i * k.esz ∨ i * k.esz + k.esz ≤ i' * k.esz + j := by
            rcases Nat.lt_or_gt_of_ne hii with hlt | hgt
            · left
              have : i' * k.esz + k.esz ≤ i * k.esz := by rw [← Nat.succ_mul]; exact Nat.mul_le_mul_right _ hlt
              omega
            · right
              have : i * k.esz + k.esz ≤ i' * k.esz := by rw [← Nat.succ_mul]; exact Nat.mul_le_mul_right _ hgt
              omega
          omega
    · have hk2 := (upd_ne _ _ hs).symm.trans hk'
      refine .inl ⟨⟨k', hk2, rfl, rfl, rfl⟩, rfl, rfl, fun y hy o hh => ?_⟩
      have q1 := (h.tk t' k' hk2).own y hy o
      rw [hh.1, hto.own g hg] at q1
      injection q1 with q1
      exact hs q1.symm
  · by_cases hs : t' = t
    · subst hs
      simp only [upd_same, Option.some.injEq] at hx
      subst hx
      exact ⟨k, ht, hy, fun h => h, by simp⟩
    · exact ⟨x, (upd_ne _ _ hs).symm.trans hx, hy, fun h => h, Nat.le_refl _⟩

end Go.Vm
