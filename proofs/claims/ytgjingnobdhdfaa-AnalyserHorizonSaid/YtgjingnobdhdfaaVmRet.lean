/- Leaving a function. -/
import Derived.Test.YtgjingnobdhdfaaVmFn
set_option linter.unusedVariables false
set_option linter.unusedSimpArgs false
namespace Go.Vm

variable {nt : Nat} {w0 : World} {S : Sp} {w : World} {A : As} {fr : Fr} {P : Program}

inductive Owns (A : As) : List Nat → List Own → Prop
  | nil : Owns A [] []
  | cons {g : Nat} {x : Own} {bl : List Nat} {os : List Own} (h : ∀ o, A.own g o = x) (hω : ∀ t, x = .t t → A.ω t = some g) (hs : Owns A bl os) : Owns A (g :: bl) (x :: os)
theorem Owns.append {bl bl' : List Nat} {os os' : List Own} (h : Owns A bl os) (h' : Owns A bl' os') : Owns A (bl ++ bl') (os ++ os') := by
  induction h with
  | nil => exact h'
  | cons h hω _ ih => exact .cons h hω ih
theorem Owns.mem {bl : List Nat} {os : List Own} (h : Owns A bl os) {g : Nat} (hg : g ∈ bl) : ∃ x ∈ os, (∀ o, A.own g o = x) ∧ ∀ t, x = .t t → A.ω t = some g := by
  induction h with
  | nil => cases hg
  | cons h hω _ ih =>
    rcases List.mem_cons.1 hg with rfl | hg
    · exact ⟨_, List.mem_cons_self, h, hω⟩
    · obtain ⟨x, hx, hh⟩ := ih hg
      exact ⟨x, List.mem_cons_of_mem _ hx, hh⟩
theorem Owns.nodup {bl : List Nat} {os : List Own} (h : Owns A bl os) (hn : os.Nodup) : bl.Nodup := by
  induction h with
  | nil => exact List.nodup_nil
  | cons h hω hs ih =>
    obtain ⟨h1, h2⟩ := List.nodup_cons.1 hn
    refine List.nodup_cons.2 ⟨fun hm => ?_, ih h2⟩
    obtain ⟨x, hx, hh⟩ := hs.mem hm
    have : x = _ := (hh.1 0).symm.trans (h 0)
    exact h1 (this ▸ hx)

theorem TokRel.ge {Im : Pl} {B : Nat} {k : Tk} {v : Value} {g : Nat} (h : TokRel w Im B k v (some g)) : B ≤ g := h.2.1
theorem TokRel.fit {Im Im' : Pl} {B : Nat} {k k' : Tk} {v : Value} {g : Nat} (h : TokRel w Im B k v (some g)) (hI : ∀ k o, Im k o → Im' k o) (h1 : k'.et = k.et) (h2 : k'.esz = k.esz) (h3 : k'.rows = k.rows) : TokRel w Im' B k' v (some g) := by
  obtain ⟨q1, q2, q3, cap, cur, q4, q5, q6, q7, q8, q9⟩ := h
  rw [← h2, ← h3] at *
  refine ⟨q1, q2, q3, cap, cur, q4, by rw [h1]; exact q5, q6, q7, q8, fun i row hi j d hj => ?_⟩
  obtain ⟨u, r1, r2⟩ := q9 i row hi j d hj
  exact ⟨u, r1, r2.step hI fun _ _ _ => rfl⟩

/-- What is asked of the cells from place 'j' on. -/
structure CellsIn (P : Program) (fr : Fr) (F : List (Nat × TypeId)) (ks : List Nat) (j : Nat) (cs : List C) : Prop where
  plain : ∀ q c, cs[q]? = some c → look (j + q) F = none → ∀ t ∈ c.toks, t ∈ ks
  fresh : ∀ q c e, cs[q]? = some c → look (j + q) F = some e → c = .nil0 ∨ ∃ t ep k, c = .own t ep ∧ fr.tk t = some k ∧ k.e = ep ∧ ((k.et = e ∧ k.esz = sz P e) ∨ k.esz = 0)
  once : ∀ q q' t ep e c, cs[q]? = some (.own t ep) → look (j + q) F = some e → cs[q']? = some c → t ∈ c.toks → q' = q
theorem CellsIn.drop {F : List (Nat × TypeId)} {ks : List Nat} {j : Nat} {as cs : List C} (h : CellsIn P fr F ks j (as ++ cs)) : CellsIn P fr F ks (j + as.length) cs := by
  have e : ∀ q c, cs[q]? = some c → (as ++ cs)[as.length + q]? = some c := fun q c hc => by rw [List.getElem?_append_right (by omega), Nat.add_sub_cancel_left]; exact hc
  refine ⟨fun q c hc hl => h.plain _ c (e q c hc) (by rw [← Nat.add_assoc]; exact hl), fun q c ty hc hl => h.fresh _ c ty (e q c hc) (by rw [← Nat.add_assoc]; exact hl), fun q q' t ep ty c h1 h2 h3 h4 => ?_⟩
  have := h.once _ _ t ep ty c (e q _ h1) (by rw [← Nat.add_assoc]; exact h2) (e q' c h3) h4
  omega
theorem CellsIn.take {F : List (Nat × TypeId)} {ks : List Nat} {j : Nat} {as cs : List C} (h : CellsIn P fr F ks j (as ++ cs)) : CellsIn P fr F ks j as := by
  have e : ∀ q c, as[q]? = some c → (as ++ cs)[q]? = some c := fun q c hc => by rw [List.getElem?_append_left (List.getElem?_eq_some_iff.1 hc).1]; exact hc
  exact ⟨fun q c hc hl => h.plain _ c (e q c hc) hl, fun q c ty hc hl => h.fresh _ c ty (e q c hc) hl, fun q q' t ep ty c h1 h2 h3 h4 => h.once _ _ t ep ty c (e q _ h1) h2 (e q' c h3) h4⟩

theorem cellsOut {tmps : Array Value} (hst : St nt w0 S w A fr tmps) {F : List (Nat × TypeId)} {ks : List Nat} : ∀ (cs : List C) (j : Nat) (ds : List D) (us : List Value), CellsIn P fr F ks j cs → toDs fr cs = some ds → RCs fr w A cs us →
    ∃ bl os, CellsOk P w (ImF A fr ks) w0.heap.size F j ds us bl ∧ Owns A bl os ∧ os.Nodup ∧ ∀ x ∈ os, ∃ q t ep e, cs[q]? = some (.own t ep) ∧ look (j + q) F = some e ∧ x = .t t := by
  intro cs
  induction cs with
  | nil =>
    intro j ds us hin hd hr
    simp only [toDs, Option.some.injEq] at hd
    subst hd
    match us, hr with
    | [], _ => exact ⟨[], [], .nil j, .nil, List.nodup_nil, fun x h => by cases h⟩
    | _ :: _, hr => have := hr.1; simp at this
  | cons c cs ih =>
    intro j ds us hin hd hr
    simp only [toDs] at hd
    split at hd
    · rename_i x hx
      split at hd
      · rename_i xs hxs
        injection hd with hd
        subst hd
        match us, hr with
        | [], hr => have := hr.1; simp at this
        | u :: us, hr =>
          have hc : RC fr w A c u := hr.2 0 c u rfl rfl
          obtain ⟨bl, os, h1, h2, h3, h4⟩ := ih (j + 1) xs us (by have := hin.drop (as := [c]); simpa using this) hxs ⟨by simpa using hr.1, fun j c v h1 h2 => hr.2 (j + 1) c v (by simpa using h1) (by simpa using h2)⟩
          have shift : ∀ x ∈ os, ∃ q t ep e, (c :: cs)[q]? = some (.own t ep) ∧ look (j + q) F = some e ∧ x = .t t := fun x hx => by
            obtain ⟨q, t, ep, e, q1, q2, q3⟩ := h4 x hx
            exact ⟨q + 1, t, ep, e, by simpa using q1, by rw [← q2]; congr 1; omega, q3⟩
          cases hl : look j F with
          | none =>
            refine ⟨bl, os, ?_, h2, h3, shift⟩
            have := CellsOk.cons (P := P) (w := w) (Im := ImF A fr ks) (B := w0.heap.size) (F := F) (j := j) (b := []) (by rw [hl]; exact .plain x u (toD_rd hst hx hc (hin.plain 0 c rfl hl))) h1
            simpa using this
          | some e =>
            rcases hin.fresh 0 c e rfl hl with rfl | ⟨t, ep, k, rfl, hk, he, hfit⟩
            · simp only [toD, Option.some.injEq] at hx
              subst hx
              obtain ⟨_, a, rfl⟩ := hc
              refine ⟨bl, os, ?_, h2, h3, shift⟩
              have := CellsOk.cons (P := P) (w := w) (Im := ImF A fr ks) (B := w0.heap.size) (F := F) (j := j) (b := []) (by rw [hl]; exact .empty e 0 a) h1
              simpa using this
            · simp only [toD, hk, he, Nat.beq_refl, cond_true, Option.some.injEq] at hx
              subst hx
              obtain ⟨_, k', q1, q2, q3⟩ := hc
              rw [hk] at q1; injection q1 with q1; subst q1
              have := q3 he.symm
              subst this
              have hto := hst.tk t k hk
              cases hω : A.ω t with
              | none =>
                have hrel := hto.rel
                rw [hω] at hrel
                obtain ⟨hr0, a, ha⟩ := hrel
                refine ⟨bl, os, ?_, h2, h3, shift⟩
                rw [ha, hr0]
                have := CellsOk.cons (P := P) (w := w) (Im := ImF A fr ks) (B := w0.heap.size) (F := F) (j := j) (b := []) (by rw [hl]; exact .empty e k.esz a) h1
                simpa using this
              | some g =>
                have hrel := hto.rel
                rw [hω] at hrel
                have h0 : 0 < k.esz := hrel.1
                rcases hfit with ⟨f1, f2⟩ | f3
                · refine ⟨g :: bl, .t t :: os, ?_, .cons (hto.own g hω) (fun t hx => by injection hx with hx; subst hx; exact hω) h2, List.nodup_cons.2 ⟨fun hm => ?_, h3⟩, fun x hx => ?_⟩
                  · rw [f2]
                    have := CellsOk.cons (P := P) (w := w) (Im := ImF A fr ks) (B := w0.heap.size) (F := F) (j := j) (b := [g]) (by rw [hl]; exact .fresh e k.rows (A.τ t) g (hrel.fit (fun _ _ h => .inl h) f1.symm f2.symm rfl)) h1
                    simpa using this
                  · obtain ⟨q, t', ep', e', q1, q2, q3⟩ := h4 _ hm
                    injection q3 with q3
                    subst q3
                    have := hin.once 0 (q + 1) t ep e (.own t ep') rfl hl (by simpa using q1) (by simp [C.toks])
                    omega
                  · rcases List.mem_cons.1 hx with rfl | hx
                    · exact ⟨0, t, ep, e, rfl, hl, rfl⟩
                    · exact shift x hx
                · omega
      · cases hd
    · cases hd

theorem toDs_append {as bs : List C} : ∀ {ds : List D}, toDs fr (as ++ bs) = some ds → ∃ d1 d2, toDs fr as = some d1 ∧ toDs fr bs = some d2 ∧ ds = d1 ++ d2 := by
  induction as with
  | nil => intro ds h; exact ⟨[], ds, rfl, h, rfl⟩
  | cons a as ih =>
    intro ds h
    simp only [List.cons_append, toDs] at h ⊢
    split at h
    · rename_i x hx
      split at h
      · rename_i xs hxs
        injection h with h
        subst h
        obtain ⟨d1, d2, h1, h2, rfl⟩ := ih hxs
        exact ⟨x :: d1, d2, by simp [h1], h2, rfl⟩
      · cases h
    · cases h
theorem toDs_len {cs : List C} : ∀ {ds : List D}, toDs fr cs = some ds → ds.length = cs.length := by
  induction cs with
  | nil => intro ds h; simp only [toDs, Option.some.injEq] at h; subst h; rfl
  | cons c cs ih =>
    intro ds h
    simp only [toDs] at h
    split at h
    · split at h
      · rename_i xs hxs
        injection h with h; subst h
        simp [ih hxs]
      · cases h
    · cases h
theorem toDs_get {cs : List C} : ∀ {ds : List D}, toDs fr cs = some ds → ∀ (q : Nat) (d : D), ds[q]? = some d → ∃ c, cs[q]? = some c ∧ toD fr c = some d := by
  induction cs with
  | nil => intro ds h q d hd; simp only [toDs, Option.some.injEq] at h; subst h; simp at hd
  | cons c cs ih =>
    intro ds h q d hd
    simp only [toDs] at h
    split at h
    · rename_i x hx
      split at h
      · rename_i xs hxs
        injection h with h; subst h
        cases q with
        | zero => simp at hd; subst hd; exact ⟨c, rfl, hx⟩
        | succ q => obtain ⟨c', h1, h2⟩ := ih hxs q d (by simpa using hd); exact ⟨c', by simpa using h1, h2⟩
      · cases h
    · cases h

/-! ### Results -/
def outOne (tmps : Array Value) : ResultVar → Sem Value
  | .tmp t => pure (tmps.getD t Go.undef)
  | .cell a t => do loadVar t (← asAddr (tmps.getD a Go.undef))
theorem resOne_ok {X : Env} {r : ResultVar} {v : V} (h : resOne X fr r = some v) {tmps : Array Value} (hst : St nt w0 S w A fr tmps) : ∃ u, (outOne tmps r).run X.P w = .ok u w ∧ RV fr w A v u := by
  cases r with
  | tmp t =>
    simp only [resOne, Option.some.injEq] at h
    subst h
    exact ⟨_, rfl, hst.tm t⟩
  | cell a t =>
    simp only [resOne] at h
    split at h
    · rename_i z hz
      injection h with h
      subst h
      obtain ⟨x, hK, _, _, hr⟩ := loadF_ok hz
      rw [hK] at hz
      injection hz with hz
      subst hz
      obtain ⟨u, h1, h2⟩ := hr nt w0 S w A tmps _ hst (hst.tm a)
      refine ⟨u, ?_, h2⟩
      rw [← h1]
      simp only [outOne, Instr.loadAt]
      generalize tmps.getD a Go.undef = va at h1
      cases va with
      | pointer p =>
        cases p with
        | some ad => rfl
        | none => simp [Instr.loadAt, Instr.sureAddr, stuck] at h1
      | _ => simp [Instr.loadAt, Instr.sureAddr, stuck] at h1
    · cases h

theorem results_run {fn : Func} {tmps : Array Value} {vs : List Value} (h : (fn.results.toList.mapM (outOne tmps)).run P w = .ok vs w) : (results fn tmps).run P w = .ok (tupV vs) w := by
  have e1 : results fn tmps = (do
      let vs ← fn.results.mapM (outOne tmps)
      pure (if h : vs.size = 1 then vs[0] else .tuple vs)) := by
    unfold results
    congr 1
  rw [e1, Array.mapM_eq_mapM_toList]
  simp only [Sem.run_bind, Sem.run_map, h, Result.andThen_ok, Sem.run_pure]
  match vs with
  | [] => rfl
  | [v] => rfl
  | v :: u :: vs => simp [tupV]

theorem resOut {X : Env} {tmps : Array Value} (hst : St nt w0 S w A fr tmps) {F : List (Nat × TypeId)} {ks : List Nat} : ∀ (rs : List ResultVar) (ts : List TypeId) (j : Nat) (cs : List C) (ds : List D), resCells X fr rs ts = some cs → toDs fr cs = some ds → CellsIn X.P fr F ks j cs →
    (∀ q e, q < cs.length → look (j + q) F = some e → (valPos X.P ts)[q]? = some true) → (ptrSites X fr rs ts).Nodup → (∀ s ∈ ptrSites X fr rs ts, S.pin s = none) →
    ∃ vs bl os, (rs.mapM (outOne tmps)).run X.P w = .ok vs w ∧ ResOk X.P w (ImF A fr ks) w0.heap.size F j ts ds vs bl ∧ Owns A bl os ∧ os.Nodup ∧ ∀ x ∈ os, (∃ s ∈ ptrSites X fr rs ts, x = .b s) ∨ ∃ q t ep e, cs[q]? = some (.own t ep) ∧ look (j + q) F = some e ∧ x = .t t := by
  intro rs
  induction rs with
  | nil =>
    intro ts j cs ds h hd hin hpos hnd hpin
    cases ts with
    | nil =>
      simp only [resCells, Option.some.injEq] at h
      subst h
      simp only [toDs, Option.some.injEq] at hd
      subst hd
      exact ⟨[], [], [], rfl, .nil j, .nil, List.nodup_nil, fun x h => by cases h⟩
    | cons t ts => cases h
  | cons r rs ih =>
    intro ts j cs ds h hd hin hpos hnd hpin
    cases ts with
    | nil => cases h
    | cons t ts =>
      simp only [resCells] at h
      split at h
      · rename_i e he
        split at h
        · rename_i x
          split at h
          · rename_i s ep hx
            split at h
            · rename_i b hb
              replace h := bif_some h; obtain ⟨hc, h⟩ := h
              simp only [Bool.and_eq_true, Nat.beq_eq, Bool.not_eq_true'] at hc
              obtain ⟨⟨c1, c2⟩, c3⟩ := hc
              obtain ⟨cs2, h2, rfl⟩ := Option.map_eq_some_iff.1 h
              obtain ⟨d1, d2, hd1, hd2, rfl⟩ := toDs_append hd
              have hps : ptrSites X fr (.tmp x :: rs) (t :: ts) = s :: ptrSites X fr rs ts := by simp [ptrSites, he, hx]
              rw [hps] at hnd hpin ⊢
              obtain ⟨n1, n2⟩ := List.nodup_cons.1 hnd
              have hvp : valPos X.P (t :: ts) = List.replicate (sz X.P e) false ++ valPos X.P ts := by simp [valPos, he]
              obtain ⟨vs, bl, os, q1, q2, q3, q4, q5⟩ := ih ts (j + b.cs.length) cs2 d2 h2 hd2 hin.drop (fun q e' hq hl => by
                have := hpos (b.cs.length + q) e' (by simp; omega) (by rw [← Nat.add_assoc]; exact hl)
                rwa [hvp, List.getElem?_append_right (by simp; omega), List.length_replicate, c2, Nat.add_sub_cancel_left] at this) n2 (fun s hs => hpin s (List.mem_cons_of_mem _ hs))
              have hbo := hst.bx s b hb
              obtain ⟨w1, w2, w3, w4⟩ := hbo.whole (hpin s List.mem_cons_self)
              have hv := hst.tm x
              rw [hx] at hv
              have hval := hv.ptr_inv hb c1
              refine ⟨tmps.getD x Go.undef :: vs, (A.β s).block :: bl, .b s :: os, ?_, ?_, .cons w4 (fun _ hx => by cases hx) q3, List.nodup_cons.2 ⟨fun hm => ?_, q4⟩, fun y hy => ?_⟩
              · simp only [List.mapM_cons, Sem.run_bind, outOne, Sem.run_pure, Result.andThen_ok, q1]
              · rw [hval]
                simp only [w1, Nat.zero_add]
                have hdl := toDs_len hd1
                refine .ptr he (by rw [hdl]; exact c2) w2 (fun q d hq => ?_) (by rw [← c2]; exact q2)
                obtain ⟨c, hc1, hc2⟩ := toDs_get hd1 q d hq
                have hql : q < b.cs.length := (List.getElem?_eq_some_iff.1 hc1).1
                obtain ⟨u, hu1, hu2⟩ := hbo.cell q c hc1
                have hfz := hbo.free q hql
                rw [w1, Nat.zero_add] at hu1 hfz
                refine ⟨hfz, u, hu1, toD_rd hst hc2 hu2 (hin.plain q c (by rw [List.getElem?_append_left hql]; exact hc1) ?_)⟩
                cases hl : look (j + q) F with
                | none => rfl
                | some e' =>
                  have := hpos q e' (by simp; omega) hl
                  rw [hvp, List.getElem?_append_left (by simp; omega), List.getElem?_replicate] at this
                  split at this <;> simp at this
              · rcases q5 _ hm with ⟨s', hs', he'⟩ | ⟨q, t', _, _, _, _, he'⟩
                · injection he' with he'; subst he'; exact n1 hs'
                · cases he'
              · rcases List.mem_cons.1 hy with rfl | hy
                · exact .inl ⟨s, List.mem_cons_self, rfl⟩
                · rcases q5 y hy with ⟨s', hs', he'⟩ | ⟨q, t', ep', e', r1, r2, r3⟩
                  · exact .inl ⟨s', List.mem_cons_of_mem _ hs', he'⟩
                  · exact .inr ⟨b.cs.length + q, t', ep', e', by rw [List.getElem?_append_right (by omega), Nat.add_sub_cancel_left]; exact r1, by rw [← Nat.add_assoc]; exact r2, r3⟩
            · cases h
          · cases h
        · cases h
      · rename_i he
        split at h
        · rename_i v hv
          replace h := bif_some h; obtain ⟨hc, h⟩ := h
          simp only [Bool.and_eq_true, Nat.beq_eq] at hc
          obtain ⟨⟨c1, c2⟩, c3⟩ := hc
          obtain ⟨cs2, h2, rfl⟩ := Option.map_eq_some_iff.1 h
          obtain ⟨d1, d2, hd1, hd2, rfl⟩ := toDs_append hd
          have hps : ptrSites X fr (r :: rs) (t :: ts) = ptrSites X fr rs ts := by cases r <;> simp [ptrSites, he]
          rw [hps] at hnd hpin ⊢
          have hvp : valPos X.P (t :: ts) = List.replicate (sz X.P t) true ++ valPos X.P ts := by simp [valPos, he]
          obtain ⟨vs, bl, os, q1, q2, q3, q4, q5⟩ := ih ts (j + v.cells.length) cs2 d2 h2 hd2 hin.drop (fun q e' hq hl => by
            have := hpos (v.cells.length + q) e' (by simp; omega) (by rw [← Nat.add_assoc]; exact hl)
            rwa [hvp, List.getElem?_append_right (by simp; omega), List.length_replicate, c1, Nat.add_sub_cancel_left] at this) hnd hpin
          obtain ⟨u, hu, hrv⟩ := resOne_ok hv hst
          have hpart := fits_part hrv c2
          have hrc : RCs fr w A v.cells u.cells.toList := hrv.cells (fits_plain c2)
          obtain ⟨b1, o1, r1, r2, r3, r4⟩ := cellsOut (P := X.P) hst v.cells j d1 u.cells.toList hin.take hd1 hrc
          refine ⟨u :: vs, b1 ++ bl, o1 ++ os, ?_, ?_, r2.append q3, List.nodup_append.2 ⟨r3, q4, fun x hx y hy e => ?_⟩, fun y hy => ?_⟩
          · simp only [List.mapM_cons, Sem.run_bind, hu, Sem.run_pure, Result.andThen_ok, q1]
          · rw [hpart]
            have hdl := toDs_len hd1
            exact .val he c3 (by rw [hdl]; exact c1) r1 (by rw [← c1]; exact q2)
          · subst e
            obtain ⟨q, t1, ep1, e1, s1, s2, rfl⟩ := r4 x hx
            rcases q5 _ hy with ⟨s', hs', he'⟩ | ⟨q', t', ep', e', r1, r2, r3⟩
            · cases he'
            · injection r3 with r3; subst r3
              have hql : q < v.cells.length := (List.getElem?_eq_some_iff.1 s1).1
              have := hin.once q (v.cells.length + q') t1 ep1 e1 (.own t1 ep') (by rw [List.getElem?_append_left hql]; exact s1) s2 (by rw [List.getElem?_append_right (by omega), Nat.add_sub_cancel_left]; exact r1) (by simp [C.toks])
              omega
          · rcases List.mem_append.1 hy with hy | hy
            · obtain ⟨q, t1, ep1, e1, s1, s2, s3⟩ := r4 y hy
              exact .inr ⟨q, t1, ep1, e1, by rw [List.getElem?_append_left (List.getElem?_eq_some_iff.1 s1).1]; exact s1, s2, s3⟩
            · rcases q5 y hy with ⟨s', hs', he'⟩ | ⟨q, t', ep', e', r1, r2, r3⟩
              · exact .inl ⟨s', hs', he'⟩
              · exact .inr ⟨v.cells.length + q, t', ep', e', by rw [List.getElem?_append_right (by omega), Nat.add_sub_cancel_left]; exact r1, by rw [← Nat.add_assoc]; exact r2, r3⟩
        · cases h

end Go.Vm
