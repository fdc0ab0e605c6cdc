/- Appends; new slices. -/
import Derived.Test.YtgjingnobdhdfaaVmSt3
set_option linter.unusedVariables false
set_option linter.unusedSimpArgs false
namespace Go.Vm

variable {nt : Nat} {w0 : World} {S : Sp} {w : World} {A : As} {fr : Fr} {tmps : Array Value} {P : Program}

/-- Cells that hold rows. -/
def News (w : World) (Im : Pl) (n : Nat) (ys : List (List D)) (news : List Value) : Prop :=
  news.length = ys.length * n ∧ (∀ row ∈ ys, row.length = n) ∧ ∀ i row, ys[i]? = some row → ∀ (j : Nat) (d : D), row[j]? = some d → ∃ u, news[i * n + j]? = some u ∧ Rd w Im d u
theorem cell_of {q n m : Nat} {ys : List (List D)} (hl : ∀ row ∈ ys, row.length = n) (hm : m = ys.length) (hq : q < m * n) : ∃ i row j d, ys[i]? = some row ∧ row[j]? = some d ∧ q = i * n + j := by
  subst hm
  have he : 0 < n := Nat.pos_of_ne_zero fun e => by subst e; simp at hq
  have hi : q / n < ys.length := (Nat.div_lt_iff_lt_mul he).2 hq
  have hj : q % n < ys[q / n].length := by rw [hl _ (List.getElem_mem hi)]; exact Nat.mod_lt _ he
  exact ⟨q / n, _, q % n, _, List.getElem?_eq_getElem hi, List.getElem?_eq_getElem hj, by rw [Nat.mul_comm]; exact (Nat.div_add_mod q n).symm⟩
theorem News.one {Im : Pl} {n : Nat} {ys : List (List D)} {news : List Value} (h : News w Im n ys news) : ∀ u ∈ news, u.oneCell' = true := by
  intro u hu
  obtain ⟨q, hq⟩ := List.getElem?_of_mem hu
  have hlt := (List.getElem?_eq_some_iff.1 hq).1
  obtain ⟨i, row, j, d, h1, h2, rfl⟩ := cell_of h.2.1 rfl (by rw [← h.1]; exact hlt)
  obtain ⟨v, h3, h4⟩ := h.2.2 i row h1 j d h2
  rw [hq] at h3; injection h3 with h3; subst h3
  rw [← oneC_eq]; exact h4.one

/-- Memory that holds rows, as cells. -/
theorem news_of_mem {Im : Pl} {n : Nat} {ys : List (List D)} {g o : Nat} (hl : ∀ row ∈ ys, row.length = n)
    (h : ∀ i row, ys[i]? = some row → ∀ (j : Nat) (d : D), row[j]? = some d → ∃ u, w.cell? (at_ g (o + (i * n + j))) = some u ∧ Rd w Im d u) :
    ∃ news, News w Im n ys news ∧ ∀ (j : Nat) (u : Value), news[j]? = some u → w.cell? (at_ g (o + j)) = some u := by
  refine ⟨(List.range (ys.length * n)).map fun q => (w.cell? (at_ g (o + q))).getD Go.undef, ⟨by simp, hl, fun i row hi j d hj => ?_⟩, fun q u hq => ?_⟩
  · obtain ⟨u, h1, h2⟩ := h i row hi j d hj
    have hlt := (row_in hl hi hj).2.2
    exact ⟨u, by rw [List.getElem?_map, List.getElem?_range hlt]; simp [h1], h2⟩
  · obtain ⟨hlt, rfl⟩ := range_map_get hq
    obtain ⟨i, row, j, d, h1, h2, rfl⟩ := cell_of hl rfl hlt
    obtain ⟨u, h3, h4⟩ := h i row h1 j d h2
    simp [h3]

/-- What is read to be appended. -/
theorem rowsF_ok {α : Type} {esz : Nat} {x : V} {K : List (List D) → List Nat → Option α} {r : α} (h : rowsF fr esz x K = some r) :
    ∃ ys rd, (∀ (β : Type) (K' : List (List D) → List Nat → Option β), rowsF fr esz x K' = K' ys rd) ∧ K ys rd = some r ∧
      ∀ (nt : Nat) (w0 : World) (S : Sp) (w : World) (A : As) (tmps : Array Value) (vx : Value) (P : Program) (t e : TypeId), P.underlying t = some (.slice e) → St nt w0 S w A fr tmps → RV fr w A x vx →
        ∃ news, News w A.Im esz ys news ∧ Src P esz t vx ys.length news w := by
  have mk : ∀ (w : World) (Im : Pl) (P : Program) (t e : TypeId) (a : Option Addr) (c n : Nat) (ys : List (List D)), P.underlying t = some (.slice e) → n = ys.length → (∀ row ∈ ys, row.length = esz) →
      (ys ≠ [] → ∃ g o, a = some (at_ g o) ∧ ∀ i row, ys[i]? = some row → ∀ (j : Nat) (d : D), row[j]? = some d → ∃ u, w.cell? (at_ g (o + (i * esz + j))) = some u ∧ Rd w Im d u) →
      ∃ news, News w Im esz ys news ∧ Src P esz t (.slice a n c) ys.length news w := by
    intro w Im P t e a c n ys ht hn hl hh
    subst hn
    by_cases hy : ys = []
    · subst hy
      refine ⟨[], ⟨by simp, hl, fun i row h => by simp at h⟩, ?_⟩
      cases a with
      | none => exact Src.ofNil w ht c
      | some a => exact Src.ofSlice w ht a 0 c [] (by simp) (fun j u h => by simp at h) (fun u h => by cases h)
    · obtain ⟨g, o, rfl, h2⟩ := hh hy
      obtain ⟨news, h3, h4⟩ := news_of_mem hl h2
      exact ⟨news, h3, Src.ofSlice w ht (at_ g o) _ c news h3.1 (fun j u hj => by rw [at_add]; exact h4 j u hj) h3.one⟩
  unfold rowsF at h
  split at h
  · refine ⟨[], [], fun _ _ => rfl, h, fun nt w0 S w A tmps vx P t e ht hst hx => ?_⟩
    obtain ⟨_, a, rfl⟩ := hx.one_inv
    exact mk w A.Im P t e a 0 0 [] ht rfl (fun _ h => by cases h) fun h => absurd rfl h
  · replace h := takeL_some h; obtain ⟨e', rows, rfl, he, h⟩ := h
    refine ⟨rows, [], fun β K' => by simp only [rowsF, takeL, if_pos he], h, fun nt w0 S w A tmps vx P t e ht hst hx => ?_⟩
    obtain ⟨a, c, rfl, e2, e3, e4⟩ := hx.d_inv.list_inv
    refine mk w A.Im P t e a c _ rows ht rfl (fun row hr => ?_) fun hne => ?_
    · rw [e3 row hr]; exact he.resolve_right fun h => by subst h; cases hr
    · have he' := he.resolve_right hne
      subst he'
      obtain ⟨g, o, rfl, e5⟩ := e4 hne
      exact ⟨g, o, rfl, fun i row hi j d hj => by obtain ⟨u, _, h1, h2⟩ := e5 i row hi j d hj; exact ⟨u, h1, h2⟩⟩
  · rename_i t' ep
    split at h
    · rename_i k hk
      replace h := bif_some h; obtain ⟨hc, h⟩ := h
      have hcc := hc
      simp only [Bool.and_eq_true, Bool.or_eq_true, Nat.beq_eq, List.isEmpty_iff] at hc
      refine ⟨k.rows, _, fun β K' => by simp only [rowsF, hk, hcc, cond_true], h, fun nt w0 S w A tmps vx P t e ht hst hx => ?_⟩
      have := hx.own_inv hk hc.1
      subst this
      have hrel := (hst.tk t' k hk).rel
      obtain ⟨a, c, e1, e2, e3⟩ := hrel.slice
      rw [e1]
      refine mk w A.Im P t e a c _ k.rows ht rfl (fun row hr => ?_) fun hne => ?_
      · have hz := hc.2.resolve_right fun h => by rw [h] at hr; cases hr
        cases hω : A.ω t' with
        | none => rw [hω] at hrel; rw [hrel.1] at hr; cases hr
        | some g => rw [hω] at hrel; rw [← hz]; exact hrel.2.2.1 row hr
      · have hz := hc.2.resolve_right hne
        obtain ⟨g, hg, rfl⟩ := e3 (List.length_pos_iff.2 hne)
        rw [hg] at hrel
        refine ⟨g, 0, rfl, fun i row hi j d hj => ?_⟩
        obtain ⟨u, h1, _, h2⟩ := hrel.cell hi hj
        rw [hz] at h1
        exact ⟨u, by simpa using h1, h2⟩
    · cases h
  · rename_i t' ep off len
    split at h
    · rename_i k hk
      replace h := bif_some h; obtain ⟨hc, h⟩ := h
      have hcc := hc
      simp only [Bool.and_eq_true, Bool.or_eq_true, Nat.beq_eq, List.isEmpty_iff] at hc
      refine ⟨_, _, fun β K' => by simp only [rowsF, hk, hcc, cond_true], h, fun nt w0 S w A tmps vx P t e ht hst hx => ?_⟩
      have hrel := (hst.tk t' k hk).rel
      obtain ⟨e0, a, c, rfl, e2, e3⟩ := hx.sub_inv hk hc.1
      have hlen : ((k.rows.drop off).take len).length = len := by rw [List.length_take, List.length_drop]; omega
      refine mk w A.Im P t e a c len _ ht hlen.symm (fun row hr => ?_) fun hne => ?_
      · have hr' := List.mem_of_mem_drop (List.mem_of_mem_take hr)
        have hz := hc.2.resolve_right fun h => by rw [h] at hr'; cases hr'
        cases hω : A.ω t' with
        | none => rw [hω] at hrel; rw [hrel.1] at hr'; cases hr'
        | some g => rw [hω] at hrel; rw [← hz]; exact hrel.2.2.1 row hr'
      · have h0 : 0 < len := by have := List.length_pos_iff.2 hne; omega
        have hz := hc.2.resolve_right fun h => by rw [h] at e0; simp at e0; omega
        obtain ⟨g, hg, rfl⟩ := e3 h0
        rw [hg] at hrel
        refine ⟨g, off * k.esz, rfl, fun i row hi j d hj => ?_⟩
        rw [List.getElem?_take] at hi
        split at hi
        · rw [List.getElem?_drop] at hi
          obtain ⟨u, h1, _, h2⟩ := hrel.cell hi hj
          rw [← hz]
          exact ⟨u, by rw [show off * k.esz + (i * k.esz + j) = (off + i) * k.esz + j by rw [Nat.add_mul]; omega]; exact h1, h2⟩
        · cases hi
    · cases h
  · cases h

/-- An append, at what is known of the slice and of what comes. -/
theorem append_run {t ty e : TypeId} {n : Nat} (hu : P.underlying t = some (.slice e)) (hn : sz P e = n) (hn0 : n ≠ 0) (hb0 : P.bytesOf e ≠ 0) {z : Value} (hz : (P.info? e).bind (·.zero) = some z) (hzs : z.cells.size = n)
    {Im : Pl} {B : Nat} {k : Tk} {v : Value} {og : Option Nat} (hrel : TokRel w Im B k v og) (hk : (k.et = e ∧ k.esz = n) ∨ k.esz = 0) (hB : B ≤ w.heap.size)
    {ys : List (List D)} {news : List Value} (hnews : News w Im n ys news) {x : Value} (hs : Src P n t x ys.length news w) (hroom : (k.rows.length + ys.length) * P.bytesOf e ≤ room)
    (hIm : ∀ a o, Im a o → ∃ u, w.cell? (at_ a o) = some u) (hIg : ∀ g o, og = some g → Im g o → o < k.rows.length * n) (ep : Nat) :
    ∃ v' w' g', (Builtin.append_ #[t, t] ty #[v, x]).run P w = .ok v' w' ∧ TokRel w' Im B ⟨ep, k.fz, e, n, k.rows ++ ys⟩ v' g' ∧ Keep (fun a o => og = some a ∧ k.rows.length * n ≤ o) w w' ∧ (g' = og ∨ g' = some w.heap.size) := by
  obtain ⟨i, hi, hz'⟩ := Option.bind_eq_some_iff.1 hz
  have hsz : i.size = n := by unfold sz at hn; simpa [Program.cellsOf, hi] using hn
  have hby : i.bytes = P.bytesOf e := by simp [Program.bytesOf, hi]
  have hlen : k.rows.length + ys.length ≤ 140737488355328 := by
    have := Nat.le_trans (Nat.le_mul_of_pos_right (k.rows.length + ys.length) (Nat.pos_of_ne_zero hb0)) hroom
    exact this
  -- a row without an address or with none that counts
  have hmem : ∀ {w' : World} {T : Pl}, Keep T w w' → (∀ a o, Im a o → ¬ T a o) → ∀ {d : D} {u : Value}, Rd w Im d u → Rd w' Im d u := fun hk hT d u h => h.step (fun _ _ h => h) fun a o ha => by
    obtain ⟨u, hu⟩ := hIm a o ha
    exact hk.cell (cell_lt hu) (hT a o ha)
  obtain ⟨a, c, rfl, hc, hav⟩ := hrel.slice
  by_cases hm : ys = []
  · subst hm
    have hx := hs
    rw [← hsz] at hs
    have hnil : news = [] := by have := hnews.1; simp at this; exact this
    subst hnil
    refine ⟨_, w, og, run_append_nothing (P := P) w t t ty e i hu hi a _ c hc x hs, ?_, Keep.refl _ _, .inl rfl⟩
    cases og with
    | none => obtain ⟨h1, b, h2⟩ := hrel; exact ⟨by simp [h1], b, by simpa [h1] using h2⟩
    | some g =>
      obtain ⟨h1, h2, h3, cap, cur, h4, h5, h6, h7, h8, h9⟩ := hrel
      obtain ⟨q1, q2⟩ := hk.resolve_right (by omega)
      exact ⟨Nat.pos_of_ne_zero hn0, h2, by simpa [q2] using h3, cap, cur, by simpa using h4, by simpa [← q1] using h5, by simpa using h6, h7, by rw [h8, q2], by simpa [q2] using h9⟩
  · have hpos : 0 < ys.length := List.length_pos_iff.2 hm
    -- the arm that grows
    have grow : ∀ (olds : List Value), News w Im n k.rows olds → c < k.rows.length + ys.length → (Builtin.firstCells i.size k.rows.length (.slice a k.rows.length c)).run P w.drew = .ok olds.toArray w.drew →
        ∃ v' w' g', (Builtin.append_ #[t, t] ty #[.slice a k.rows.length c, x]).run P w = .ok v' w' ∧ TokRel w' Im B ⟨ep, k.fz, e, n, k.rows ++ ys⟩ v' g' ∧ Keep (fun a o => og = some a ∧ k.rows.length * n ≤ o) w w' ∧ (g' = og ∨ g' = some w.heap.size) := by
      intro olds hol hlt hold
      have hrun := run_append_grow_src (P := P) w t t ty e i z hu hi hz' a k.rows.length c olds hold x ys.length news (by rw [hsz]; exact hs) hlt (by omega) (growslice_fits hlt (by rw [hby]; exact hroom))
      have hge := grownCap_ge w (k.rows.length + ys.length) c e
      have hcm := grownCap_le_maxLen w (k.rows.length + ys.length) c e (by simp only [maxLen]; omega)
      have hkeep : Keep (fun a o => og = some a ∧ k.rows.length * n ≤ o) w (w.drew.alloc (.cells ((olds ++ news).toArray ++ Builtin.zeroCells z.cells (grownCap w (k.rows.length + ys.length) c e - (k.rows.length + ys.length))) e)) :=
        (Keep.drew _ w).trans (Keep.alloc _ _ _) fun _ _ _ h => h
      refine ⟨_, _, some w.heap.size, hrun, ⟨Nat.pos_of_ne_zero hn0, hB, fun row hr => ?_, _, _, by simp, heap_alloc_new w.drew _, by simpa using hge, hcm, ?_, fun q row hq j d hj => ?_⟩, hkeep, .inr rfl⟩
      · rcases List.mem_append.1 hr with hr | hr
        · exact hol.2.1 row hr
        · exact hnews.2.1 row hr
      · simp only [Array.size_append, List.size_toArray, List.length_append, size_zeroCells, hzs, hol.1, hnews.1, ← Nat.add_mul]
        congr 1
        omega
      · have hnoT : ∀ a o, Im a o → ¬ (og = some a ∧ k.rows.length * n ≤ o) := fun a o hi ⟨h1, h2⟩ => by have := hIg a o h1 hi; omega
        have hidx : ∀ u, (olds ++ news)[q * n + j]? = some u → ((olds ++ news).toArray ++ Builtin.zeroCells z.cells (grownCap w (k.rows.length + ys.length) c e - (k.rows.length + ys.length)))[q * n + j]? = some u := fun u hu => by
          have := (List.getElem?_eq_some_iff.1 hu).1
          rw [Array.getElem?_append_left (by simpa using this)]
          simpa using hu
        by_cases hql : q < k.rows.length
        · rw [List.getElem?_append_left hql] at hq
          obtain ⟨u, h1, h2⟩ := hol.2.2 q row hq j d hj
          have hin := (row_in hol.2.1 hq hj).2.2
          exact ⟨u, hidx u (by rw [List.getElem?_append_left (by rw [hol.1]; exact hin)]; exact h1), hmem hkeep hnoT h2⟩
        · rw [List.getElem?_append_right (by omega)] at hq
          obtain ⟨u, h1, h2⟩ := hnews.2.2 _ row hq j d hj
          refine ⟨u, hidx u ?_, hmem hkeep hnoT h2⟩
          have e1 : q * n + j = k.rows.length * n + ((q - k.rows.length) * n + j) := by
            rw [← Nat.add_assoc, ← Nat.add_mul]; congr 2; omega
          rw [e1, List.getElem?_append_right (by rw [hol.1]; omega), hol.1, Nat.add_sub_cancel_left]
          exact h1
    cases og with
    | none =>
      obtain ⟨h1, b, h2⟩ := hrel
      have hc0 : c = 0 := by injection h2
      subst hc0
      refine grow [] ⟨by simp [h1], by simp [h1], by simp [h1]⟩ (by rw [h1]; simp; omega) ?_
      rw [h1]
      cases a <;> simp [Builtin.firstCells, loadCells, loadCellsFrom]
    | some g =>
      obtain ⟨h1, h2, h3, cap, cur, h4, h5, h6, h7, h8, h9⟩ := hrel
      obtain ⟨q1, q2⟩ := hk.resolve_right (by omega)
      injection h4 with h4 _ h4'
      subst h4 h4'
      have holdc : ∀ i row, k.rows[i]? = some row → ∀ (j : Nat) (d : D), row[j]? = some d → ∃ u, w.cell? (at_ g (0 + (i * n + j))) = some u ∧ Rd w Im d u := fun i row hi j d hj => by
        obtain ⟨u, r1, r2⟩ := h9 i row hi j d hj
        rw [q2] at r1
        exact ⟨u, by simp [World.cell?, h5, r1], r2⟩
      by_cases hfit : k.rows.length + ys.length ≤ c
      · have hcs : (k.rows.length + ys.length) * n ≤ cur.size := by rw [h8, q2]; exact Nat.mul_le_mul_right _ hfit
        have hnl := hnews.1
        have hex : ∀ j, j < news.length → (w.cell? (at_ g (k.rows.length * n + j))).isSome = true := fun j hj => by
          have : k.rows.length * n + j < cur.size := by rw [Nat.add_mul] at hcs; omega
          simp [World.cell?, h5, this]
        have hrun := run_append_room_src (P := P) w t t ty e i hu hi g 0 k.rows.length c x ys.length news (by rw [hsz]; exact hs) hfit (by rw [hsz]; simpa using hex) (fun j hj => by simp [World.frozen?, h5])
        rw [hsz, Nat.zero_add] at hrun
        have hkeep := keep_setCells g news (k.rows.length * n) w
        have hkeep' : Keep (fun a o => some g = some a ∧ k.rows.length * n ≤ o) w (w.setCells g (k.rows.length * n) news) := hkeep.mono fun a o _ ⟨r1, r2, _⟩ => ⟨by rw [r1], r2⟩
        obtain ⟨cur', c1, c2, c3⟩ := keep_row hkeep h5
        have hnoT : ∀ a o, Im a o → ¬ (some g = some a ∧ k.rows.length * n ≤ o) := fun a o hi ⟨r1, r2⟩ => by have := hIg a o r1 hi; omega
        refine ⟨_, _, some g, hrun, ⟨Nat.pos_of_ne_zero hn0, h2, fun row hr => ?_, c, cur', by simp, by rw [← q1]; exact c1, by simpa using hfit, h7, by rw [c2, h8, q2], fun q row hq j d hj => ?_⟩, hkeep', .inl rfl⟩
        · rcases List.mem_append.1 hr with hr | hr
          · rw [← q2]; exact h3 row hr
          · exact hnews.2.1 row hr
        · show ∃ u, cur'[q * n + j]? = some u ∧ _
          rw [← c3]
          by_cases hql : q < k.rows.length
          · rw [List.getElem?_append_left hql] at hq
            obtain ⟨u, r1, r2⟩ := holdc q row hq j d hj
            rw [Nat.zero_add] at r1
            have hin := (row_in h3 hq hj).2.2
            rw [q2] at hin
            exact ⟨u, hkeep.cell_some r1 (fun hh => by omega), hmem hkeep' hnoT r2⟩
          · rw [List.getElem?_append_right (by omega)] at hq
            obtain ⟨u, r1, r2⟩ := hnews.2.2 _ row hq j d hj
            have e1 : q * n + j = k.rows.length * n + ((q - k.rows.length) * n + j) := by
              rw [← Nat.add_assoc, ← Nat.add_mul]; congr 2; omega
            have hlt := (List.getElem?_eq_some_iff.1 r1).1
            have := World.cell?_setCells_in g news (k.rows.length * n) w hex _ hlt
            refine ⟨u, ?_, hmem hkeep' hnoT r2⟩
            rw [e1, this, ← r1, List.getElem?_eq_getElem hlt]
      · obtain ⟨olds, r1, r2⟩ := news_of_mem (w := w) (Im := Im) (n := n) (ys := k.rows) (g := g) (o := 0) (by rw [← q2]; exact h3) holdc
        refine grow olds r1 (by omega) ?_
        rw [hsz]
        exact run_firstCells_some w.drew n k.rows.length (at_ g 0) _ c olds r1.1 fun j u hj => by rw [at_add]; exact r2 j u hj

end Go.Vm
