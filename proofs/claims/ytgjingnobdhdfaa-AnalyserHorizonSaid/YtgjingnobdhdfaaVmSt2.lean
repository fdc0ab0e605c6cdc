/- New variables, new slices, stores, appends: how the state goes on. -/
import Derived.Test.YtgjingnobdhdfaaVmOp3
set_option linter.unusedVariables false
set_option linter.unusedSimpArgs false
namespace Go.Vm

variable {nt : Nat} {w0 : World} {S : Sp} {w : World} {A : As} {fr : Fr} {tmps : Array Value} {P : Program}

theorem nextB_lt {s : Nat} {b : Bx} (h : fr.bx s = some b) : b.e < nextB fr s := by simp [nextB, h]
theorem nextT_lt {s : Nat} {b : Tk} (h : fr.tk s = some b) : b.e < nextT fr s := by simp [nextT, h]

theorem getC {cs : List C} {vs : List Value} (h : RCs fr w A cs vs) {j : Nat} {c : C} (hj : cs[j]? = some c) : ∃ v, vs[j]? = some v ∧ RC fr w A c v := by
  have h1 := (List.getElem?_eq_some_iff.1 hj).1
  have h2 : j < vs.length := by rw [h.1]; exact h1
  exact ⟨_, List.getElem?_eq_getElem h2, h.2 j c _ hj (List.getElem?_eq_getElem h2)⟩
theorem getVs {cs : List C} {vs : List Value} (h : RCs fr w A cs vs) {j : Nat} {v : Value} (hj : vs[j]? = some v) : ∃ c, cs[j]? = some c ∧ RC fr w A c v := by
  have h1 := (List.getElem?_eq_some_iff.1 hj).1
  have h2 : j < cs.length := by rw [← h.1]; exact h1
  exact ⟨_, List.getElem?_eq_getElem h2, h.2 j _ v (List.getElem?_eq_getElem h2) hj⟩

theorem cell_new (w : World) (vs : Array Value) (t : TypeId) (j : Nat) : (w.alloc (.cells vs t)).cell? (at_ w.heap.size j) = vs[j]? := World.cell?_alloc_new w vs t j
theorem frozen_new (w : World) (vs : Array Value) (t : TypeId) (j : Nat) : (w.alloc (.cells vs t)).frozen? (at_ w.heap.size j) = false := World.frozen?_alloc_new w vs t j
theorem cell_alloc (w : World) (o : Obj) {k : Nat} (j : Nat) (h : k < w.heap.size) : (w.alloc o).cell? (at_ k j) = w.cell? (at_ k j) := World.cell?_alloc_lt (a := at_ k j) w o h

/-- A new variable. -/
def As.newBox (A : As) (s g : Nat) : As := { A with β := upd A.β s (at_ g 0), own := fun k o => if k = g then .b s else A.own k o }
theorem St.newBox (h : St nt w0 S w A fr tmps) (s : Nat) {cs : List C} {vs : List Value} (t : TypeId) (hr : RCs fr w A cs vs) :
    Upd w0 S w A fr (w.alloc (.cells vs.toArray t)) (A.newBox s w.heap.size) { fr with bx := upd fr.bx s (some ⟨nextB fr s, cs⟩) } (fun _ _ => False) ∧
    St nt w0 S (w.alloc (.cells vs.toArray t)) (A.newBox s w.heap.size) { fr with bx := upd fr.bx s (some ⟨nextB fr s, cs⟩) } tmps ∧
    RV { fr with bx := upd fr.bx s (some ⟨nextB fr s, cs⟩) } (w.alloc (.cells vs.toArray t)) (A.newBox s w.heap.size) (.one (.ptr s (nextB fr s) 0)) (.pointer (some (at_ w.heap.size 0))) := by
  have u : Upd w0 S w A fr (w.alloc (.cells vs.toArray t)) (A.newBox s w.heap.size) { fr with bx := upd fr.bx s (some ⟨nextB fr s, cs⟩) } (fun _ _ => False) := by
    refine ⟨Keep.alloc _ _ _, fun _ _ h => h.elim, fun _ _ _ h => h, rfl, fun _ _ h => h, fun k o hk _ => ?_, fun s' b hb => ?_, fun t k hk => ⟨k, hk, .inr ⟨rfl, rfl, rfl, rfl, rfl⟩⟩⟩
    · simp only [As.newBox]; rw [if_neg (by omega)]
    · by_cases hs : s' = s
      · subst hs
        exact ⟨_, upd_same _ _ _, .inl (nextB_lt hb)⟩
      · exact ⟨b, (upd_ne _ _ hs).trans hb, .inr ⟨rfl, upd_ne _ _ hs⟩⟩
  have hw0 := h.keep.size
  refine ⟨u, h.of_upd u (fun s' b hb => ?_) (fun t k hk => .inl ⟨⟨k, hk, rfl, rfl, rfl⟩, rfl, rfl, fun _ _ _ h => h⟩) (h.im_old u fun t x hx g hg _ => ⟨x, hx, hg, fun h => h, Nat.le_refl _⟩) (fun _ _ h => .inl h), ?_⟩
  · by_cases hs : s' = s
    · subst hs
      simp only [upd_same, Option.some.injEq] at hb
      subst hb
      have e1 : (A.newBox s' w.heap.size).β s' = at_ w.heap.size 0 := upd_same _ _ _
      refine .inr ⟨fun j c hc => ?_, fun j hj => ?_, fun j hj => ?_, fun j hj => ?_, fun _ => by rw [e1]; exact ⟨rfl, hw0, by simp [at_], fun o => by simp [As.newBox, at_]⟩⟩
      · obtain ⟨v, hv, hcv⟩ := getC hr hc
        rw [e1]
        refine ⟨v, ?_, u.rc h hcv⟩
        simp only [Nat.zero_add]
        rw [cell_new]; simpa using hv
      · rw [e1]; simp only [Nat.zero_add]; exact frozen_new _ _ _ _
      · rw [e1]; simp [As.newBox]
      · rw [e1]; exact .inl hw0
    · exact .inl ⟨(upd_ne _ _ hs).symm.trans hb, upd_ne _ _ hs, fun _ _ h => h⟩
  · refine .one _ _ ⟨rfl, ⟨_, _, rfl⟩, ⟨nextB fr s, cs⟩, upd_same _ _ _, Nat.le_refl _, fun _ => ?_⟩
    have e1 : (A.newBox s w.heap.size).β s = at_ w.heap.size 0 := upd_same _ _ _
    rw [e1]

/-- A new slice of the call's own, or none at all. -/
def As.newTok (A : As) (t : Nat) (v : Value) (g : Option Nat) : As := { A with τ := upd A.τ t v, ω := upd A.ω t g, own := fun k o => if g = some k then .t t else A.own k o }
theorem St.newTok (h : St nt w0 S w A fr tmps) (t : Nat) (k : Tk) (v : Value) (g : Option Nat) {w' : World} (he : k.e = nextT fr t) (hf : k.fz = false)
    (hkeep : Keep (fun _ _ => False) w w') (hg : ∀ x, g = some x → w.heap.size ≤ x)
    (hk : TokRel w' A.Im w0.heap.size k v g) :
    ∀ fr', fr' = { fr with tk := upd fr.tk t (some k) } → ∃ A', Upd w0 S w A fr w' A' fr' (fun _ _ => False) ∧ St nt w0 S w' A' fr' tmps ∧ A'.τ t = v ∧ A'.Im = A.Im ∧ oneC v = true := by
  intro fr' hfr
  subst hfr
  have u : Upd w0 S w A fr w' (A.newTok t v g) { fr with tk := upd fr.tk t (some k) } (fun _ _ => False) := by
    refine ⟨hkeep, fun _ _ h => h.elim, fun _ _ _ h => h, rfl, fun _ _ h => h, fun x o hx _ => ?_, fun s b hb => ⟨b, hb, .inr ⟨rfl, rfl⟩⟩, fun t' k' hk' => ?_⟩
    · simp only [As.newTok]; rw [if_neg (fun e => by have := hg x e; omega)]
    · by_cases hs : t' = t
      · subst hs
        exact ⟨_, upd_same _ _ _, .inl (by rw [he]; exact nextT_lt hk')⟩
      · exact ⟨k', (upd_ne _ _ hs).trans hk', .inr ⟨rfl, upd_ne _ _ hs, upd_ne _ _ hs, rfl, rfl⟩⟩
  have hone : oneC v = true := by
    cases g with
    | none => obtain ⟨_, a, rfl⟩ := hk; rfl
    | some g => obtain ⟨_, _, _, c, u, rfl, _⟩ := hk; rfl
  refine ⟨A.newTok t v g, u, h.of_upd u (fun s b hb => .inl ⟨hb, rfl, fun _ _ h => h⟩) (fun t' k' hk' => ?_) (h.im_old u fun t' x hx y hy hlt => ?_) (fun _ _ h => .inl h), upd_same _ _ _, rfl, hone⟩
  · by_cases hs : t' = t
    · subst hs
      simp only [upd_same, Option.some.injEq] at hk'
      subst hk'
      refine .inr ⟨?_, fun y hy o => ?_⟩
      · have e1 : (A.newTok t' v g).τ t' = v := upd_same _ _ _
        have e2 : (A.newTok t' v g).ω t' = g := upd_same _ _ _
        rw [e1, e2]; exact hk
      · have e2 : (A.newTok t' v g).ω t' = g := upd_same _ _ _
        rw [e2] at hy
        simp [As.newTok, hy]
    · exact .inl ⟨⟨k', (upd_ne _ _ hs).symm.trans hk', rfl, rfl, rfl⟩, upd_ne _ _ hs, upd_ne _ _ hs, fun _ _ _ h => h⟩
  · by_cases hs : t' = t
    · subst hs
      have e2 : (A.newTok t' v g).ω t' = g := upd_same _ _ _
      rw [e2] at hy
      have := hg y hy
      omega
    · exact ⟨x, (upd_ne _ _ hs).symm.trans hx, (upd_ne _ _ hs).symm.trans hy, fun h => h, Nat.le_refl _⟩

/-! ### Freezing -/
def ImF (A : As) (fr : Fr) (ks : List Nat) : Pl := fun k o => A.Im k o ∨ ∃ t ∈ ks, ∃ x, fr.tk t = some x ∧ A.ω t = some k ∧ o < x.rows.length * x.esz
theorem upds_same {α : Type} (f : Nat → Option α) (k : Nat) (v : α) (l : List (Nat × α)) : upds f ((k, v) :: l) k = some v := upd_same _ _ _
theorem upds_ne {α : Type} (f : Nat → Option α) {k j : Nat} (v : α) (l : List (Nat × α)) (h : j ≠ k) : upds f ((k, v) :: l) j = upds f l j := upd_ne _ _ h
theorem upds_freeze (ks : List Nat) (t : Nat) : upds fr.tk (freeze fr ks) t = if t ∈ ks then (fr.tk t).map (fun k => { k with fz := true }) else fr.tk t := by
  induction ks with
  | nil => simp [freeze, upds]
  | cons a ks ih =>
    simp only [freeze]
    cases ha : fr.tk a with
    | none =>
      simp only
      rw [ih]
      by_cases h : t = a
      · subst h; simp [ha]
      · simp [h]
    | some k =>
      simp only
      by_cases h : t = a
      · subst h; rw [upds_same]; simp [ha]
      · rw [upds_ne _ _ _ h, ih]; simp [h]
theorem freeze_mem {ks : List Nat} {t : Nat} {x : Tk} (h : (t, x) ∈ freeze fr ks) : t ∈ ks ∧ ∃ k, fr.tk t = some k ∧ x = { k with fz := true } := by
  induction ks with
  | nil => simp [freeze] at h
  | cons a ks ih =>
    simp only [freeze] at h
    split at h
    · rename_i k hk
      rcases List.mem_cons.1 h with h | h
      · injection h with h1 h2
        subst h1 h2
        exact ⟨List.mem_cons_self, k, hk, rfl⟩
      · exact ⟨List.mem_cons_of_mem _ (ih h).1, (ih h).2⟩
    · exact ⟨List.mem_cons_of_mem _ (ih h).1, (ih h).2⟩


theorem St.freeze (h : St nt w0 S w A fr tmps) (ks : List Nat) : ∀ fr', fr' = { fr with tk := upds fr.tk (freeze fr ks) } →
    Upd w0 S w A fr w { A with Im := ImF A fr ks } fr' (fun _ _ => False) ∧ St nt w0 S w { A with Im := ImF A fr ks } fr' tmps := by
  intro fr' hfr
  subst hfr
  have u : Upd w0 S w A fr w { A with Im := ImF A fr ks } { fr with tk := upds fr.tk (Vm.freeze fr ks) } (fun _ _ => False) := by
    refine ⟨Keep.refl _ _, fun _ _ h => h.elim, fun _ _ _ h => h, rfl, fun _ _ h => .inl h, fun _ _ _ _ => rfl, fun s b hb => ⟨b, hb, .inr ⟨rfl, rfl⟩⟩, fun t k hk => ?_⟩
    by_cases ht : t ∈ ks
    · exact ⟨{ k with fz := true }, by simp only [upds_freeze, if_pos ht, hk]; rfl, .inr ⟨rfl, rfl, rfl, rfl, rfl⟩⟩
    · exact ⟨k, by simp only [upds_freeze, if_neg ht, hk], .inr ⟨rfl, rfl, rfl, rfl, rfl⟩⟩
  have old : ∀ t x, upds fr.tk (Vm.freeze fr ks) t = some x → ∃ z, fr.tk t = some z ∧ z.rows = x.rows ∧ z.esz = x.esz ∧ z.et = x.et ∧ (z.fz = true → x.fz = true) ∧ (t ∈ ks → x.fz = true) := by
    intro t x hx
    rw [upds_freeze] at hx
    by_cases ht : t ∈ ks
    · rw [if_pos ht] at hx
      obtain ⟨z, hz, rfl⟩ := Option.map_eq_some_iff.1 hx
      exact ⟨z, hz, rfl, rfl, rfl, fun _ => rfl, fun _ => rfl⟩
    · rw [if_neg ht] at hx
      exact ⟨x, hx, rfl, rfl, rfl, fun h => h, fun h => absurd h ht⟩
  refine ⟨u, h.of_upd u (fun s b hb => .inl ⟨hb, rfl, fun _ _ h => h⟩) (fun t k hk => ?_) (fun k o hi => ?_) (fun k o hi => ?_)⟩
  · obtain ⟨z, h1, h2, h3, h4, _⟩ := old t k hk
    exact .inl ⟨⟨z, h1, h2, h3, h4⟩, rfl, rfl, fun _ _ _ h => h⟩
  · rcases hi with hi | ⟨t, ht, x, hx, hω, ho⟩
    · refine h.im_old u (fun t x' hx' g hg _ => ?_) k o hi
      obtain ⟨z, h1, h2, h3, h4, h5, _⟩ := old t x' hx'
      exact ⟨z, h1, hg, h5, by rw [h2, h3]; exact Nat.le_refl _⟩
    · have hk := h.tk t x hx
      have hrel := hk.rel
      rw [hω] at hrel
      have hown := hk.own k hω
      refine ⟨?_, fun s => by rw [show ({ A with Im := ImF A fr ks } : As).own = A.own from rfl, hown]; simp, fun t' x' h1 h2 h3 => ?_⟩
      · obtain ⟨h1, h2, h3, cap, cur, _, h4, h5, _, h6, _⟩ := hrel
        have : o < cur.size := by
          rw [h6]
          exact Nat.lt_of_lt_of_le ho (Nat.mul_le_mul_right _ h5)
        exact ⟨cur[o], by simp [World.cell?, h4, this]⟩
      · rw [show ({ A with Im := ImF A fr ks } : As).own = A.own from rfl, hown] at h1
        injection h1 with h1
        subst h1
        obtain ⟨z, q1, q2, q3, q4, q5, q6⟩ := old t x' h2
        rw [hx] at q1
        injection q1 with q1
        subst q1
        exact ⟨q6 ht, by rw [← q2, ← q3]; exact ho⟩
  · rcases hi with hi | ⟨t, ht, x, hx, hω, ho⟩
    · exact .inl hi
    · have hrel := (h.tk t x hx).rel
      rw [hω] at hrel
      exact .inr hrel.2.1

/-- A cell as data, under what is frozen with it. -/
theorem toD_rd (h : St nt w0 S w A fr tmps) {c : C} {x : D} {v : Value} (hx : toD fr c = some x) (hc : RC fr w A c v) {ks : List Nat} (hk : ∀ t ∈ c.toks, t ∈ ks) : Rd w (ImF A fr ks) x v := by
  have tokrd : ∀ {t : Nat} {k : Tk}, t ∈ ks → fr.tk t = some k → ∀ (off len : Nat) (a : Option Addr) (c : Nat), off + len ≤ k.rows.length → len ≤ c → (0 < len → ∃ g, A.ω t = some g ∧ a = some (at_ g (off * k.esz))) →
      Rd w (ImF A fr ks) (.list k.esz ((k.rows.drop off).take len)) (.slice a len c) := by
    intro t k ht hkk off len a c h1 h2 h3
    have hrel := (h.tk t k hkk).rel
    have hl : ((k.rows.drop off).take len).length = len := by rw [List.length_take, List.length_drop]; omega
    have hmk := Rd.mk_list (w := w) (Im := ImF A fr ks) (esz := k.esz) (rows := (k.rows.drop off).take len) (A := a) (c := c) (by omega) (fun row hr => ?_) (fun hne => ?_)
    · rwa [hl] at hmk
    · have hr' := List.mem_of_mem_drop (List.mem_of_mem_take hr)
      cases hω : A.ω t with
      | none => rw [hω] at hrel; rw [hrel.1] at hr'; cases hr'
      | some g => rw [hω] at hrel; exact hrel.2.2.1 row hr'
    · have h0 : 0 < len := by have := List.length_pos_iff.2 hne; omega
      obtain ⟨g, hg, rfl⟩ := h3 h0
      refine ⟨g, off * k.esz, rfl, fun i row hi j d hj => ?_⟩
      rw [List.getElem?_take] at hi
      split at hi
      · rw [List.getElem?_drop] at hi
        rw [hg] at hrel
        obtain ⟨u, hu, _, hd⟩ := hrel.cell hi hj
        have hin := row_in hrel.2.2.1 hi hj
        have e1 : off * k.esz + (i * k.esz + j) = (off + i) * k.esz + j := by rw [Nat.add_mul]; omega
        rw [e1]
        exact ⟨u, .inr ⟨t, ht, k, hkk, hg, hin.2.2⟩, hu, hd.step (fun _ _ h => .inl h) fun _ _ _ => rfl⟩
      · cases hi
  cases c with
  | d y =>
    simp only [toD, Option.some.injEq] at hx
    subst hx
    exact hc.2.step (fun _ _ h => .inl h) fun _ _ _ => rfl
  | nil0 =>
    simp only [toD, Option.some.injEq] at hx
    subst hx
    obtain ⟨_, a, rfl⟩ := hc
    exact Rd.mk_list (rows := []) (Nat.zero_le _) (fun _ h => by cases h) fun h => absurd rfl h
  | own t e =>
    simp only [toD] at hx
    split at hx
    · rename_i k hkk
      replace hx := bif_some hx; obtain ⟨he, hx⟩ := hx
      injection hx with hx
      subst hx
      obtain ⟨_, k', q1, q2, q3⟩ := hc
      rw [hkk] at q1; injection q1 with q1; subst q1
      have := q3 (Nat.eq_of_beq_eq_true he).symm
      subst this
      obtain ⟨a, c, e1, e2, e3⟩ := (h.tk t k hkk).rel.slice
      rw [e1]
      have := tokrd (hk t (by simp [C.toks])) hkk 0 k.rows.length a c (by omega) e2 (fun h0 => by obtain ⟨g, hg, ha⟩ := e3 h0; exact ⟨g, hg, by simpa using ha⟩)
      simpa using this
    · cases hx
  | sub t e off len =>
    simp only [toD] at hx
    split at hx
    · rename_i k hkk
      replace hx := bif_some hx; obtain ⟨he, hx⟩ := hx
      injection hx with hx
      subst hx
      obtain ⟨_, k', q1, q2, q3⟩ := hc
      rw [hkk] at q1; injection q1 with q1; subst q1
      obtain ⟨h1, a, c, rfl, h2, h3⟩ := q3 (Nat.eq_of_beq_eq_true he).symm
      exact tokrd (hk t (by simp [C.toks])) hkk off len a c h1 h2 h3
    · cases hx
  | fn f cs => exact hc.2.elim
  | ptr s e o => simp [toD] at hx
  | tptr t e i o => simp [toD] at hx
  | rptr n r o => simp [toD] at hx
  | undef => simp [toD] at hx
theorem toDs_rd (h : St nt w0 S w A fr tmps) {ks : List Nat} : ∀ {cs : List C} {ds : List D} {vs : List Value}, toDs fr cs = some ds → RCs fr w A cs vs → (∀ t ∈ toksOf cs, t ∈ ks) →
    ds.length = cs.length ∧ ∀ (j : Nat) (d : D) (v : Value), ds[j]? = some d → vs[j]? = some v → Rd w (ImF A fr ks) d v
  | [], ds, vs, hd, hr, hk => by
    simp only [toDs, Option.some.injEq] at hd
    subst hd
    exact ⟨rfl, fun j d v h => by simp at h⟩
  | c :: cs, ds, vs, hd, hr, hk => by
    simp only [toDs] at hd
    split at hd
    · rename_i x hx
      split at hd
      · rename_i xs hxs
        injection hd with hd
        subst hd
        match vs, hr with
        | v :: vs, hr =>
          have ih := toDs_rd h hxs ⟨by simpa using hr.1, fun j c v h1 h2 => hr.2 (j + 1) c v (by simpa using h1) (by simpa using h2)⟩ fun t ht => hk t (by simp only [toksOf, List.flatMap_cons, List.mem_append]; exact .inr ht)
          refine ⟨by simp [ih.1], fun j d u h1 h2 => ?_⟩
          cases j with
          | zero =>
            simp at h1 h2
            subst h1 h2
            exact toD_rd h hx (hr.2 0 c v rfl rfl) fun t ht => hk t (by simp only [toksOf, List.flatMap_cons, List.mem_append]; exact .inl ht)
          | succ j => exact ih.2 j d u (by simpa using h1) (by simpa using h2)
        | [], hr => have := hr.1; simp at this
      · cases hd
    · cases hd

end Go.Vm
