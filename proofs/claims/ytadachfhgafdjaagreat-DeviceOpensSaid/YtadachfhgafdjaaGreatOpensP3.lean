/- OpensP: part 3 of the texts that the proof of opens_holds needs: an evaluator of the program on data, its soundness, the equations of the functions, the plain laws. Conditions: none. -/
import Derived.Test.YtadachfhgafdjaaGreatOpensP2
/- Leaving a function. -/
set_option linter.unusedVariables false
set_option linter.unusedSimpArgs false
namespace Go.Vm

variable {nt : Nat} {w0 : World} {S : Sp} {w : World} {A : As} {fr : Fr} {P : Program}

inductive Owns (A : As) : List Nat → List Own → Prop
  | nil : Owns A [] []
  | cons {g : Nat} {x : Own} {bl : List Nat} {os : List Own} (h : ∀ o, A.own g o = x) (hω : ∀ t, x = .t t → A.ω t = some g) (hs : Owns A bl os) : Owns A (g :: bl) (x :: os)
theorem Owns.append {bl bl' : List Nat} {os os' : List Own} (h : Owns A bl os) (h' : Owns A bl' os') : Owns A (bl ++ bl') (os ++ os') := by
  induction h with
  | nil => exact h'
  | cons h hω _ ih => exact .cons h hω ih
theorem Owns.mem {bl : List Nat} {os : List Own} (h : Owns A bl os) {g : Nat} (hg : g ∈ bl) : ∃ x ∈ os, (∀ o, A.own g o = x) ∧ ∀ t, x = .t t → A.ω t = some g := by
  induction h with
  | nil => cases hg
  | cons h hω _ ih =>
    rcases List.mem_cons.1 hg with rfl | hg
    · exact ⟨_, List.mem_cons_self, h, hω⟩
    · obtain ⟨x, hx, hh⟩ := ih hg
      exact ⟨x, List.mem_cons_of_mem _ hx, hh⟩
theorem Owns.nodup {bl : List Nat} {os : List Own} (h : Owns A bl os) (hn : os.Nodup) : bl.Nodup := by
  induction h with
  | nil => exact List.nodup_nil
  | cons h hω hs ih =>
    obtain ⟨h1, h2⟩ := List.nodup_cons.1 hn
    refine List.nodup_cons.2 ⟨fun hm => ?_, ih h2⟩
    obtain ⟨x, hx, hh⟩ := hs.mem hm
    have : x = _ := (hh.1 0).symm.trans (h 0)
    exact h1 (this ▸ hx)

theorem TokRel.ge {Im : Pl} {B : Nat} {k : Tk} {v : Value} {g : Nat} (h : TokRel w Im B k v (some g)) : B ≤ g := h.2.1
theorem TokRel.fit {Im Im' : Pl} {B : Nat} {k k' : Tk} {v : Value} {g : Nat} (h : TokRel w Im B k v (some g)) (hI : ∀ k o, Im k o → Im' k o) (h1 : k'.et = k.et) (h2 : k'.esz = k.esz) (h3 : k'.rows = k.rows) : TokRel w Im' B k' v (some g) := by
  obtain ⟨q1, q2, q3, cap, cur, q4, q5, q6, q7, q8, q9⟩ := h
  rw [← h2, ← h3] at *
  refine ⟨q1, q2, q3, cap, cur, q4, by rw [h1]; exact q5, q6, q7, q8, fun i row hi j d hj => ?_⟩
  obtain ⟨u, r1, r2⟩ := q9 i row hi j d hj
  exact ⟨u, r1, r2.step hI fun _ _ _ => rfl⟩

/-- What is asked of the cells from place 'j' on. -/
structure CellsIn (P : Program) (fr : Fr) (F : List (Nat × TypeId)) (ks : List Nat) (j : Nat) (cs : List C) : Prop where
  plain : ∀ q c, cs[q]? = some c → look (j + q) F = none → ∀ t ∈ c.toks, t ∈ ks
  fresh : ∀ q c e, cs[q]? = some c → look (j + q) F = some e → c = .nil0 ∨ ∃ t ep k, c = .own t ep ∧ fr.tk t = some k ∧ k.e = ep ∧ ((k.et = e ∧ k.esz = sz P e) ∨ k.esz = 0)
  once : ∀ q q' t ep e c, cs[q]? = some (.own t ep) → look (j + q) F = some e → cs[q']? = some c → t ∈ c.toks → q' = q
theorem CellsIn.drop {F : List (Nat × TypeId)} {ks : List Nat} {j : Nat} {as cs : List C} (h : CellsIn P fr F ks j (as ++ cs)) : CellsIn P fr F ks (j + as.length) cs := by
  have e : ∀ q c, cs[q]? = some c → (as ++ cs)[as.length + q]? = some c := fun q c hc => by rw [List.getElem?_append_right (by omega), Nat.add_sub_cancel_left]; exact hc
  refine ⟨fun q c hc hl => h.plain _ c (e q c hc) (by rw [← Nat.add_assoc]; exact hl), fun q c ty hc hl => h.fresh _ c ty (e q c hc) (by rw [← Nat.add_assoc]; exact hl), fun q q' t ep ty c h1 h2 h3 h4 => ?_⟩
  have := h.once _ _ t ep ty c (e q _ h1) (by rw [← Nat.add_assoc]; exact h2) (e q' c h3) h4
  omega
theorem CellsIn.take {F : List (Nat × TypeId)} {ks : List Nat} {j : Nat} {as cs : List C} (h : CellsIn P fr F ks j (as ++ cs)) : CellsIn P fr F ks j as := by
  have e : ∀ q c, as[q]? = some c → (as ++ cs)[q]? = some c := fun q c hc => by rw [List.getElem?_append_left (List.getElem?_eq_some_iff.1 hc).1]; exact hc
  exact ⟨fun q c hc hl => h.plain _ c (e q c hc) hl, fun q c ty hc hl => h.fresh _ c ty (e q c hc) hl, fun q q' t ep ty c h1 h2 h3 h4 => h.once _ _ t ep ty c (e q _ h1) h2 (e q' c h3) h4⟩

theorem cellsOut {tmps : Array Value} (hst : St nt w0 S w A fr tmps) {F : List (Nat × TypeId)} {ks : List Nat} : ∀ (cs : List C) (j : Nat) (ds : List D) (us : List Value) (ls : List LK), CellsIn P fr F ks j cs → toDs fr ls cs = some ds → RCs fr w A cs us →
    ∃ bl os, CellsOk P w (ImF A fr ks) w0.heap.size F j ds us bl ∧ Owns A bl os ∧ os.Nodup ∧ ∀ x ∈ os, ∃ q t ep e, cs[q]? = some (.own t ep) ∧ look (j + q) F = some e ∧ x = .t t := by
  intro cs
  induction cs with
  | nil =>
    intro j ds us ls hin hd hr
    simp only [toDs, Option.some.injEq] at hd
    subst hd
    match us, hr with
    | [], _ => exact ⟨[], [], .nil j, .nil, List.nodup_nil, fun x h => by cases h⟩
    | _ :: _, hr => have := hr.1; simp at this
  | cons c cs ih =>
    intro j ds us ls hin hd hr
    simp only [toDs] at hd
    split at hd
    · rename_i x hx
      split at hd
      · rename_i xs hxs
        injection hd with hd
        subst hd
        match us, hr with
        | [], hr => have := hr.1; simp at this
        | u :: us, hr =>
          have hc : RC fr w A c u := hr.2 0 c u rfl rfl
          obtain ⟨bl, os, h1, h2, h3, h4⟩ := ih (j + 1) xs us _ (by have := hin.drop (as := [c]); simpa using this) hxs ⟨by simpa using hr.1, fun j c v h1 h2 => hr.2 (j + 1) c v (by simpa using h1) (by simpa using h2)⟩
          have shift : ∀ x ∈ os, ∃ q t ep e, (c :: cs)[q]? = some (.own t ep) ∧ look (j + q) F = some e ∧ x = .t t := fun x hx => by
            obtain ⟨q, t, ep, e, q1, q2, q3⟩ := h4 x hx
            exact ⟨q + 1, t, ep, e, by simpa using q1, by rw [← q2]; congr 1; omega, q3⟩
          cases hl : look j F with
          | none =>
            refine ⟨bl, os, ?_, h2, h3, shift⟩
            have := CellsOk.cons (P := P) (w := w) (Im := ImF A fr ks) (B := w0.heap.size) (F := F) (j := j) (b := []) (by rw [hl]; exact .plain x u (toDk_rd hst hx hc (hin.plain 0 c rfl hl))) h1
            simpa using this
          | some e =>
            rcases hin.fresh 0 c e rfl hl with rfl | ⟨t, ep, k, rfl, hk, he, hfit⟩
            · simp only [toDk, Option.some.injEq] at hx
              subst hx
              obtain ⟨_, a, rfl⟩ := hc
              refine ⟨bl, os, ?_, h2, h3, shift⟩
              have := CellsOk.cons (P := P) (w := w) (Im := ImF A fr ks) (B := w0.heap.size) (F := F) (j := j) (b := []) (by rw [hl]; exact .empty e (ls.headD .a).e a) h1
              simpa using this
            · simp only [toDk, toD, hk, he, Nat.beq_refl, cond_true, Option.some.injEq] at hx
              subst hx
              obtain ⟨_, k', q1, q2, q3⟩ := hc
              rw [hk] at q1; injection q1 with q1; subst q1
              have := q3 he.symm
              subst this
              have hto := hst.tk t k hk
              cases hω : A.ω t with
              | none =>
                have hrel := hto.rel
                rw [hω] at hrel
                obtain ⟨hr0, a, ha⟩ := hrel
                refine ⟨bl, os, ?_, h2, h3, shift⟩
                rw [ha, hr0]
                have := CellsOk.cons (P := P) (w := w) (Im := ImF A fr ks) (B := w0.heap.size) (F := F) (j := j) (b := []) (by rw [hl]; exact .empty e k.esz a) h1
                simpa using this
              | some g =>
                have hrel := hto.rel
                rw [hω] at hrel
                have h0 : 0 < k.esz := hrel.1
                rcases hfit with ⟨f1, f2⟩ | f3
                · refine ⟨g :: bl, .t t :: os, ?_, .cons (hto.own g hω) (fun t hx => by injection hx with hx; subst hx; exact hω) h2, List.nodup_cons.2 ⟨fun hm => ?_, h3⟩, fun x hx => ?_⟩
                  · rw [f2]
                    have := CellsOk.cons (P := P) (w := w) (Im := ImF A fr ks) (B := w0.heap.size) (F := F) (j := j) (b := [g]) (by rw [hl]; exact .fresh e k.rows (A.τ t) g (hrel.fit (fun _ _ h => .inl h) f1.symm f2.symm rfl)) h1
                    simpa using this
                  · obtain ⟨q, t', ep', e', q1, q2, q3⟩ := h4 _ hm
                    injection q3 with q3
                    subst q3
                    have := hin.once 0 (q + 1) t ep e (.own t ep') rfl hl (by simpa using q1) (by simp [C.toks])
                    omega
                  · rcases List.mem_cons.1 hx with rfl | hx
                    · exact ⟨0, t, ep, e, rfl, hl, rfl⟩
                    · exact shift x hx
                · omega
      · cases hd
    · cases hd

theorem toDs_append {as bs : List C} : ∀ {ls : List LK} {ds : List D}, toDs fr ls (as ++ bs) = some ds → ∃ ls' d1 d2, toDs fr ls as = some d1 ∧ toDs fr ls' bs = some d2 ∧ ds = d1 ++ d2 := by
  induction as with
  | nil => intro ls ds h; exact ⟨ls, [], ds, rfl, h, rfl⟩
  | cons a as ih =>
    intro ls ds h
    simp only [List.cons_append, toDs] at h ⊢
    split at h
    · rename_i x hx
      split at h
      · rename_i xs hxs
        injection h with h
        subst h
        obtain ⟨ls', d1, d2, h1, h2, rfl⟩ := ih hxs
        exact ⟨ls', x :: d1, d2, by simp [h1], h2, rfl⟩
      · cases h
    · cases h
theorem toDs_len {cs : List C} : ∀ {ls : List LK} {ds : List D}, toDs fr ls cs = some ds → ds.length = cs.length := by
  induction cs with
  | nil => intro ls ds h; simp only [toDs, Option.some.injEq] at h; subst h; rfl
  | cons c cs ih =>
    intro ls ds h
    simp only [toDs] at h
    split at h
    · split at h
      · rename_i xs hxs
        injection h with h; subst h
        simp [ih hxs]
      · cases h
    · cases h
theorem toDs_get {cs : List C} : ∀ {ls : List LK} {ds : List D}, toDs fr ls cs = some ds → ∀ (q : Nat) (d : D), ds[q]? = some d → ∃ c k, cs[q]? = some c ∧ toDk fr k c = some d := by
  induction cs with
  | nil => intro ls ds h q d hd; simp only [toDs, Option.some.injEq] at h; subst h; simp at hd
  | cons c cs ih =>
    intro ls ds h q d hd
    simp only [toDs] at h
    split at h
    · rename_i x hx
      split at h
      · rename_i xs hxs
        injection h with h; subst h
        cases q with
        | zero => simp at hd; subst hd; exact ⟨c, _, rfl, hx⟩
        | succ q => obtain ⟨c', k', h1, h2⟩ := ih hxs q d (by simpa using hd); exact ⟨c', k', by simpa using h1, h2⟩
      · cases h
    · cases h

/-! ### Results -/
def outOne (tmps : Array Value) : ResultVar → Sem Value
  | .tmp t => pure (tmps.getD t Go.undef)
  | .cell a t => do loadVar t (← asAddr (tmps.getD a Go.undef))
theorem resOne_ok {X : Env} {r : ResultVar} {v : V} (h : resOne X fr r = some v) {tmps : Array Value} (hst : St nt w0 S w A fr tmps) : ∃ u, (outOne tmps r).run X.P w = .ok u w ∧ RV fr w A v u := by
  cases r with
  | tmp t =>
    simp only [resOne, Option.some.injEq] at h
    subst h
    exact ⟨_, rfl, hst.tm t⟩
  | cell a t =>
    simp only [resOne] at h
    split at h
    · rename_i z hz
      injection h with h
      subst h
      obtain ⟨x, hK, _, _, hr⟩ := loadF_ok hz
      rw [hK] at hz
      injection hz with hz
      subst hz
      obtain ⟨u, h1, h2⟩ := hr nt w0 S w A tmps _ hst (hst.tm a)
      refine ⟨u, ?_, h2⟩
      rw [← h1]
      simp only [outOne, Instr.loadAt]
      generalize tmps.getD a Go.undef = va at h1
      cases va with
      | pointer p =>
        cases p with
        | some ad => rfl
        | none => simp [Instr.loadAt, Instr.sureAddr, stuck] at h1
      | _ => simp [Instr.loadAt, Instr.sureAddr, stuck] at h1
    · cases h

theorem results_run {fn : Func} {tmps : Array Value} {vs : List Value} (h : (fn.results.toList.mapM (outOne tmps)).run P w = .ok vs w) : (results fn tmps).run P w = .ok (tupV vs) w := by
  have e1 : results fn tmps = (do
      let vs ← fn.results.mapM (outOne tmps)
      pure (if h : vs.size = 1 then vs[0] else .tuple vs)) := by
    unfold results
    congr 1
  rw [e1, Array.mapM_eq_mapM_toList]
  simp only [Sem.run_bind, Sem.run_map, h, Result.andThen_ok, Sem.run_pure]
  match vs with
  | [] => rfl
  | [v] => rfl
  | v :: u :: vs => simp [tupV]

theorem resOut {X : Env} {tmps : Array Value} (hst : St nt w0 S w A fr tmps) {F : List (Nat × TypeId)} {ks : List Nat} : ∀ (rs : List ResultVar) (ts : List TypeId) (j : Nat) (cs : List C) (ds : List D) (ls : List LK), resCells X fr rs ts = some cs → toDs fr ls cs = some ds → CellsIn X.P fr F ks j cs →
    (∀ q e, q < cs.length → look (j + q) F = some e → (valPos X.P ts)[q]? = some true) → (ptrSites X fr rs ts).Nodup → (∀ s ∈ ptrSites X fr rs ts, S.pin s = none) →
    ∃ vs bl os, (rs.mapM (outOne tmps)).run X.P w = .ok vs w ∧ ResOk X.P w (ImF A fr ks) w0.heap.size F j ts ds vs bl ∧ Owns A bl os ∧ os.Nodup ∧ ∀ x ∈ os, (∃ s ∈ ptrSites X fr rs ts, x = .b s) ∨ ∃ q t ep e, cs[q]? = some (.own t ep) ∧ look (j + q) F = some e ∧ x = .t t := by
  intro rs
  induction rs with
  | nil =>
    intro ts j cs ds ls h hd hin hpos hnd hpin
    cases ts with
    | nil =>
      simp only [resCells, Option.some.injEq] at h
      subst h
      simp only [toDs, Option.some.injEq] at hd
      subst hd
      exact ⟨[], [], [], rfl, .nil j, .nil, List.nodup_nil, fun x h => by cases h⟩
    | cons t ts => cases h
  | cons r rs ih =>
    intro ts j cs ds ls h hd hin hpos hnd hpin
    cases ts with
    | nil => cases h
    | cons t ts =>
      simp only [resCells] at h
      split at h
      · rename_i e he
        split at h
        · rename_i x
          split at h
          · rename_i s ep hx
            split at h
            · rename_i b hb
              replace h := bif_some h; obtain ⟨hc, h⟩ := h
              simp only [Bool.and_eq_true, Nat.beq_eq, Bool.not_eq_true'] at hc
              obtain ⟨⟨c1, c2⟩, c3⟩ := hc
              obtain ⟨cs2, h2, rfl⟩ := Option.map_eq_some_iff.1 h
              obtain ⟨ls2, d1, d2, hd1, hd2, rfl⟩ := toDs_append hd
              have hps : ptrSites X fr (.tmp x :: rs) (t :: ts) = s :: ptrSites X fr rs ts := by simp [ptrSites, he, hx]
              rw [hps] at hnd hpin ⊢
              obtain ⟨n1, n2⟩ := List.nodup_cons.1 hnd
              have hvp : valPos X.P (t :: ts) = List.replicate (sz X.P e) false ++ valPos X.P ts := by simp [valPos, he]
              obtain ⟨vs, bl, os, q1, q2, q3, q4, q5⟩ := ih ts (j + b.cs.length) cs2 d2 ls2 h2 hd2 hin.drop (fun q e' hq hl => by
                have := hpos (b.cs.length + q) e' (by simp; omega) (by rw [← Nat.add_assoc]; exact hl)
                rwa [hvp, List.getElem?_append_right (by simp; omega), List.length_replicate, c2, Nat.add_sub_cancel_left] at this) n2 (fun s hs => hpin s (List.mem_cons_of_mem _ hs))
              have hbo := hst.bx s b hb
              obtain ⟨w1, w2, w3, w4⟩ := hbo.whole (hpin s List.mem_cons_self)
              have hv := hst.tm x
              rw [hx] at hv
              have hval := hv.ptr_inv hb c1
              refine ⟨tmps.getD x Go.undef :: vs, (A.β s).block :: bl, .b s :: os, ?_, ?_, .cons w4 (fun _ hx => by cases hx) q3, List.nodup_cons.2 ⟨fun hm => ?_, q4⟩, fun y hy => ?_⟩
              · simp only [List.mapM_cons, Sem.run_bind, outOne, Sem.run_pure, Result.andThen_ok, q1]
              · rw [hval]
                simp only [w1, Nat.zero_add]
                have hdl := toDs_len hd1
                refine .ptr he (by rw [hdl]; exact c2) w2 (fun q d hq => ?_) (by rw [← c2]; exact q2)
                obtain ⟨c, kk, hc1, hc2⟩ := toDs_get hd1 q d hq
                have hql : q < b.cs.length := (List.getElem?_eq_some_iff.1 hc1).1
                obtain ⟨u, hu1, hu2⟩ := hbo.cell q c hc1
                have hfz := hbo.free q hql
                rw [w1, Nat.zero_add] at hu1 hfz
                refine ⟨hfz, u, hu1, toDk_rd hst hc2 hu2 (hin.plain q c (by rw [List.getElem?_append_left hql]; exact hc1) ?_)⟩
                cases hl : look (j + q) F with
                | none => rfl
                | some e' =>
                  have := hpos q e' (by simp; omega) hl
                  rw [hvp, List.getElem?_append_left (by simp; omega), List.getElem?_replicate] at this
                  split at this <;> simp at this
              · rcases q5 _ hm with ⟨s', hs', he'⟩ | ⟨q, t', _, _, _, _, he'⟩
                · injection he' with he'; subst he'; exact n1 hs'
                · cases he'
              · rcases List.mem_cons.1 hy with rfl | hy
                · exact .inl ⟨s, List.mem_cons_self, rfl⟩
                · rcases q5 y hy with ⟨s', hs', he'⟩ | ⟨q, t', ep', e', r1, r2, r3⟩
                  · exact .inl ⟨s', List.mem_cons_of_mem _ hs', he'⟩
                  · exact .inr ⟨b.cs.length + q, t', ep', e', by rw [List.getElem?_append_right (by omega), Nat.add_sub_cancel_left]; exact r1, by rw [← Nat.add_assoc]; exact r2, r3⟩
            · cases h
          · cases h
        · cases h
      · rename_i he
        split at h
        · rename_i v hv
          replace h := bif_some h; obtain ⟨hc, h⟩ := h
          simp only [Bool.and_eq_true, Nat.beq_eq] at hc
          obtain ⟨⟨c1, c2⟩, c3⟩ := hc
          obtain ⟨cs2, h2, rfl⟩ := Option.map_eq_some_iff.1 h
          obtain ⟨ls2, d1, d2, hd1, hd2, rfl⟩ := toDs_append hd
          have hps : ptrSites X fr (r :: rs) (t :: ts) = ptrSites X fr rs ts := by cases r <;> simp [ptrSites, he]
          rw [hps] at hnd hpin ⊢
          have hvp : valPos X.P (t :: ts) = List.replicate (sz X.P t) true ++ valPos X.P ts := by simp [valPos, he]
          obtain ⟨vs, bl, os, q1, q2, q3, q4, q5⟩ := ih ts (j + v.cells.length) cs2 d2 ls2 h2 hd2 hin.drop (fun q e' hq hl => by
            have := hpos (v.cells.length + q) e' (by simp; omega) (by rw [← Nat.add_assoc]; exact hl)
            rwa [hvp, List.getElem?_append_right (by simp; omega), List.length_replicate, c1, Nat.add_sub_cancel_left] at this) hnd hpin
          obtain ⟨u, hu, hrv⟩ := resOne_ok hv hst
          have hpart := fits_part hrv c2
          have hrc : RCs fr w A v.cells u.cells.toList := hrv.cells (fits_plain c2)
          obtain ⟨b1, o1, r1, r2, r3, r4⟩ := cellsOut (P := X.P) hst v.cells j d1 u.cells.toList _ hin.take hd1 hrc
          refine ⟨u :: vs, b1 ++ bl, o1 ++ os, ?_, ?_, r2.append q3, List.nodup_append.2 ⟨r3, q4, fun x hx y hy e => ?_⟩, fun y hy => ?_⟩
          · simp only [List.mapM_cons, Sem.run_bind, hu, Sem.run_pure, Result.andThen_ok, q1]
          · rw [hpart]
            have hdl := toDs_len hd1
            exact .val he c3 (by rw [hdl]; exact c1) r1 (by rw [← c1]; exact q2)
          · subst e
            obtain ⟨q, t1, ep1, e1, s1, s2, rfl⟩ := r4 x hx
            rcases q5 _ hy with ⟨s', hs', he'⟩ | ⟨q', t', ep', e', r1, r2, r3⟩
            · cases he'
            · injection r3 with r3; subst r3
              have hql : q < v.cells.length := (List.getElem?_eq_some_iff.1 s1).1
              have := hin.once q (v.cells.length + q') t1 ep1 e1 (.own t1 ep') (by rw [List.getElem?_append_left hql]; exact s1) s2 (by rw [List.getElem?_append_right (by omega), Nat.add_sub_cancel_left]; exact r1) (by simp [C.toks])
              omega
          · rcases List.mem_append.1 hy with hy | hy
            · obtain ⟨q, t1, ep1, e1, s1, s2, s3⟩ := r4 y hy
              exact .inr ⟨q, t1, ep1, e1, by rw [List.getElem?_append_left (List.getElem?_eq_some_iff.1 s1).1]; exact s1, s2, s3⟩
            · rcases q5 y hy with ⟨s', hs', he'⟩ | ⟨q, t', ep', e', r1, r2, r3⟩
              · exact .inl ⟨s', hs', he'⟩
              · exact .inr ⟨v.cells.length + q, t', ep', e', by rw [List.getElem?_append_right (by omega), Nat.add_sub_cancel_left]; exact r1, by rw [← Nat.add_assoc]; exact r2, r3⟩
        · cases h

end Go.Vm

/- What the evaluator answers, a call answers. -/
set_option linter.unusedVariables false
set_option linter.unusedSimpArgs false
namespace Go.Vm

variable {nt : Nat} {w0 : World} {S : Sp} {w : World} {A : As} {fr : Fr} {P : Program} {Im : Pl}

theorem refsOut {tmps : Array Value} (hst : St nt w0 S w A fr tmps) {ks : List Nat} {w1 : World} : ∀ {as : List Arg} {ts : List PK} {vals : List Value} {gs : List Reg}, ArgsOk P w1 Im as ts vals gs → ∀ (i : Nat) (rs : List C) (qs : List D), refCells P fr i ts = some rs → ∀ (ls : List LK), toDs fr ls rs = some qs →
    (∀ j cs a, as[j]? = some (.r cs) → vals[j]? = some (.pointer (some a)) → S.pin (key (i + j) 0) = some a) → (∀ t ∈ toksOf rs, t ∈ ks) → RefsOk w (ImF A fr ks) gs qs
  | _, _, _, _, .nil, i, rs, qs, h, ls, hd, hp, hk => by
    simp only [refCells, Option.some.injEq] at h
    subst h
    simp only [toDs, Option.some.injEq] at hd
    subst hd
    exact .nil
  | _, _, _, _, .cons (a := a) (v := v) (as := as) (vs := vs) h1 hs dis, i, rs, qs, h, ls, hd, hp, hk => by
    have hp' : ∀ j cs a, as[j]? = some (.r cs) → vs[j]? = some (.pointer (some a)) → S.pin (key (i + 1 + j) 0) = some a := fun j cs a q1 q2 => by
      have := hp (j + 1) cs a (by simpa using q1) (by simpa using q2)
      rwa [show i + (j + 1) = i + 1 + j by omega] at this
    cases h1 with
    | v cs _ us hok hl hu hr =>
      simp only [refCells] at h
      simpa using refsOut hst hs (i + 1) rs qs h ls hd hp' hk
    | w =>
      simp only [refCells] at h
      simpa using refsOut hst hs (i + 1) rs qs h ls hd hp' hk
    | f =>
      simp only [refCells] at h
      simpa using refsOut hst hs (i + 1) rs qs h ls hd hp' hk
    | n =>
      simp only [refCells] at h
      simpa using refsOut hst hs (i + 1) rs qs h ls hd hp' hk
    | r cs e k o hl h0 hr =>
      simp only [refCells] at h
      split at h
      · rename_i b hb
        replace h := bif_some h; obtain ⟨hc, h⟩ := h
        simp only [Bool.and_eq_true, Nat.beq_eq] at hc
        obtain ⟨rs2, h2, rfl⟩ := Option.map_eq_some_iff.1 h
        obtain ⟨ls2, d1, d2, hd1, hd2, rfl⟩ := toDs_append hd
        have ih := refsOut hst hs (i + 1) rs2 d2 h2 ls2 hd2 hp' fun t ht => hk t (by simp only [toksOf, List.flatMap_append, List.mem_append]; exact .inr ht)
        have hpin := hp 0 cs (at_ k o) rfl rfl
        obtain ⟨b', hb', hβ⟩ := hst.pin _ _ hpin
        simp only [Nat.add_zero] at hb' hβ
        rw [hb] at hb'; injection hb' with hb'; subst hb'
        have hβ := hβ hc.1
        refine .cons (by rw [toDs_len hd1]; show b.cs.length = cs.length; omega) (fun q d hq => ?_) ih
        obtain ⟨c, kk, hc1, hc2⟩ := toDs_get hd1 q d hq
        obtain ⟨u, hu1, hu2⟩ := (hst.bx _ b hb).cell q c hc1
        rw [hβ] at hu1
        refine ⟨u, hu1, toDk_rd hst hc2 hu2 fun t ht => hk t ?_⟩
        simp only [toksOf, List.flatMap_append, List.mem_append]
        exact .inl (List.mem_flatMap.2 ⟨c, List.mem_of_getElem? hc1, ht⟩)
      · cases h

theorem distinct_nodup : ∀ {l : List Nat}, distinct l = true → l.Nodup
  | [], _ => List.nodup_nil
  | k :: ks, h => by
    obtain ⟨h1, h2⟩ := distinct_cons h
    exact List.nodup_cons.2 ⟨h1, distinct_nodup h2⟩
theorem look_mem {β : Type} {k : Nat} {v : β} : ∀ {l : List (Nat × β)}, look k l = some v → (k, v) ∈ l
  | [], h => by cases h
  | (j, u) :: l, h => by
    simp only [look] at h
    cases hb : Nat.beq j k with
    | true =>
      rw [hb, cond_true] at h
      injection h with h
      rw [Nat.eq_of_beq_eq_true hb, h]
      exact List.mem_cons_self
    | false =>
      rw [hb, cond_false] at h
      exact List.mem_cons_of_mem _ (look_mem h)
theorem tok_one {t : Nat} : ∀ {cs : List C} {q : Nat} {c : C}, cs[q]? = some c → t ∈ c.toks → 1 ≤ ((toksOf cs).filter (Nat.beq t)).length := fun {cs q c} h ht => by
  have : t ∈ (toksOf cs).filter (Nat.beq t) := List.mem_filter.2 ⟨List.mem_flatMap.2 ⟨c, List.mem_of_getElem? h, ht⟩, Nat.beq_refl t⟩
  exact List.length_pos_iff.2 fun e => by rw [e] at this; cases this
theorem tok_two {t : Nat} : ∀ {cs : List C} {q q' : Nat} {c c' : C}, cs[q]? = some c → t ∈ c.toks → cs[q']? = some c' → t ∈ c'.toks → q < q' → 2 ≤ ((toksOf cs).filter (Nat.beq t)).length
  | [], q, q', c, c', h1, _, _, _, _ => by simp at h1
  | x :: cs, 0, 0, c, c', _, _, _, _, h => by omega
  | x :: cs, 0, q' + 1, c, c', h1, h2, h3, h4, _ => by
    simp only [List.getElem?_cons_zero, Option.some.injEq] at h1
    subst h1
    have a := tok_one (cs := [x]) (q := 0) rfl h2
    have b := tok_one (cs := cs) (q := q') (by simpa using h3) h4
    simp only [toksOf, List.flatMap_cons, List.flatMap_nil, List.append_nil, List.filter_append, List.length_append] at a b ⊢
    omega
  | x :: cs, q + 1, 0, c, c', _, _, _, _, h => by omega
  | x :: cs, q + 1, q' + 1, c, c', h1, h2, h3, h4, h => by
    have := tok_two (cs := cs) (q := q) (q' := q') (by simpa using h1) h2 (by simpa using h3) h4 (by omega)
    simp only [toksOf, List.flatMap_cons, List.filter_append, List.length_append] at this ⊢
    omega
theorem tok_uniq {t : Nat} {cs : List C} {q q' : Nat} {c c' : C} (h : ((toksOf cs).filter (Nat.beq t)).length = 1) (h1 : cs[q]? = some c) (h2 : t ∈ c.toks) (h3 : cs[q']? = some c') (h4 : t ∈ c'.toks) : q' = q := by
  rcases Nat.lt_trichotomy q q' with hh | hh | hh
  · have := tok_two h1 h2 h3 h4 hh; omega
  · exact hh.symm
  · have := tok_two h3 h4 h1 h2 hh; omega

theorem scAll_some : ∀ {ds r : List D}, scAll ds some = some r → r = ds ∧ ds.all scalar = true := by
  have key : ∀ (ds : List D) {r : List D} (K : List D → Option (List D)), scAll ds K = some r → K ds = some r ∧ ds.all scalar = true := by
    intro ds
    induction ds with
    | nil => intro r K h; exact ⟨h, rfl⟩
    | cons d ds ih =>
      intro r K h
      simp only [scAll] at h
      unfold takeSc at h
      split at h
      · cases h
      · cases h
      · rename_i h1 h2
        obtain ⟨q1, q2⟩ := ih _ h
        refine ⟨q1, ?_⟩
        simp only [List.all_cons, q2, Bool.and_true]
        cases d <;> simp_all [scalar]
  intro ds r h
  obtain ⟨h1, h2⟩ := key ds some h
  injection h1 with h1
  exact ⟨h1.symm, h2⟩

theorem resCells_len {X : Env} : ∀ {rs : List ResultVar} {ts : List TypeId} {cs : List C}, resCells X fr rs ts = some cs → (valPos X.P ts).length = cs.length
  | [], [], cs, h => by simp only [resCells, Option.some.injEq] at h; subst h; rfl
  | [], _ :: _, cs, h => by cases h
  | _ :: _, [], cs, h => by cases h
  | r :: rs, t :: ts, cs, h => by
    simp only [resCells] at h
    split at h
    · rename_i e he
      split at h
      · split at h
        · split at h
          · replace h := bif_some h; obtain ⟨hc, h⟩ := h
            simp only [Bool.and_eq_true, Nat.beq_eq, Bool.not_eq_true'] at hc
            obtain ⟨cs2, h2, rfl⟩ := Option.map_eq_some_iff.1 h
            have := resCells_len h2
            simp only [valPos, he, List.length_append, List.length_replicate, this]
            omega
          · cases h
        · cases h
      · cases h
    · rename_i he
      split at h
      · replace h := bif_some h; obtain ⟨hc, h⟩ := h
        simp only [Bool.and_eq_true, Nat.beq_eq, Bool.not_eq_true'] at hc
        obtain ⟨cs2, h2, rfl⟩ := Option.map_eq_some_iff.1 h
        have := resCells_len h2
        simp only [valPos, he, List.length_append, List.length_replicate, this]
        omega
      · cases h

open Classical in
theorem ret_ok {X : Env} {fn : Func} {as : List Arg} {vals : List Value} {gs : List Reg} (ha : ArgsOk X.P w0 Im as (kindsOf X.P X.H X.f fn) vals gs) {tmps : Array Value} (hst : St nt w0 ⟨regsPl gs, Im, pinOf as vals⟩ w A fr tmps) {r : List D} (h : retF X fn fr = some r) :
    ∃ v, (results fn tmps).run X.P w = .ok v w ∧ Post X.P (X.H X.f).fresh (kindsOf X.P X.H X.f fn) fn w0 Im gs r v w := by
  unfold retF at h
  split at h
  · cases h
  · rename_i cs hcs
    split at h
    · cases h
    · rename_i rs hrs
      simp only at h
      replace h := bif_some h; obtain ⟨hc, h⟩ := h
      simp only [Bool.and_eq_true] at hc
      obtain ⟨hfr, hdis⟩ := hc
      split at h
      · rename_i ds hds
        have hr : r = ds ∧ ((fn.resultTypes.toList.all (flatT X.P) && (kindsOf X.P X.H X.f fn).all (fun k => k.ref.isNone)) = true → r.all scalar = true) := by
          cases hb : (fn.resultTypes.toList.all (flatT X.P) && (kindsOf X.P X.H X.f fn).all (fun k => k.ref.isNone)) with
          | true =>
            rw [hb, cond_true] at h
            obtain ⟨h1, h2⟩ := scAll_some h
            subst h1
            exact ⟨rfl, fun _ => h2⟩
          | false =>
            rw [hb, cond_false] at h
            injection h with h
            exact ⟨h.symm, fun hh => by cases hh⟩
        obtain ⟨rfl, hsc⟩ := hr
        obtain ⟨ls2, d1, d2, hd1, hd2, rfl⟩ := toDs_append hds
        have hnd := distinct_nodup hdis
        obtain ⟨n1, n2, n3⟩ := List.nodup_append.1 hnd
        have hfresh : ∀ q e, look q (X.H X.f).fresh = some e → (valPos X.P fn.resultTypes.toList)[q]? = some true ∧ ((cs ++ rs)[q]? = some .nil0 ∨ ∃ t ep k, (cs ++ rs)[q]? = some (.own t ep) ∧ fr.tk t = some k ∧ k.e = ep ∧ k.fz = false ∧ ((k.et = e ∧ k.esz = sz X.P e) ∨ k.esz = 0) ∧ ((toksOf (cs ++ rs)).filter (Nat.beq t)).length = 1) := by
          intro q e hl
          have := List.all_eq_true.1 hfr _ (look_mem hl)
          simp only [Bool.and_eq_true] at this
          obtain ⟨h1, h2⟩ := this
          refine ⟨?_, ?_⟩
          · split at h1
            · rename_i b hb; subst h1; exact hb
            · cases h1
          · split at h2
            · rename_i hq; exact .inl hq
            · rename_i t ep hq
              simp only [Bool.and_eq_true] at h2
              obtain ⟨h2, h3⟩ := h2
              split at h2
              · rename_i k hk
                simp only [Bool.and_eq_true, Bool.or_eq_true, Nat.beq_eq, Bool.not_eq_true'] at h2
                exact .inr ⟨t, ep, k, hq, hk, h2.1.1, h2.1.2, h2.2, Nat.eq_of_beq_eq_true h3⟩
              · cases h2
            · cases h2
        generalize hF : (X.H X.f).fresh = F at hfresh
        let isF : Nat → Prop := fun t => ∃ q ep e, (cs ++ rs)[q]? = some (.own t ep) ∧ look q F = some e
        let ks := (toksOf (cs ++ rs)).filter fun t => decide (¬ isF t)
        have once : ∀ q q' t ep e c, (cs ++ rs)[q]? = some (.own t ep) → look q F = some e → (cs ++ rs)[q']? = some c → t ∈ c.toks → q' = q := fun q q' t ep e c h1 h2 h3 h4 => by
          rcases (hfresh q e h2).2 with hh | ⟨t', ep', k, q1, q2, q3, q4, q5, q6⟩
          · rw [h1] at hh; injection hh with hh; cases hh
          · rw [h1] at q1; injection q1 with q1; injection q1 with q1 _
            subst q1
            exact tok_uniq q6 h1 (by simp [C.toks]) h3 h4
        have plain : ∀ q c, (cs ++ rs)[q]? = some c → look q F = none → ∀ t ∈ c.toks, t ∈ ks := fun q c h1 h2 t ht => by
          refine List.mem_filter.2 ⟨List.mem_flatMap.2 ⟨c, List.mem_of_getElem? h1, ht⟩, ?_⟩
          rw [decide_eq_true_eq]
          rintro ⟨q', ep, e, q1, q2⟩
          have := once q' q t ep e c q1 q2 h1 ht
          subst this
          rw [h2] at q2; cases q2
        have hin : CellsIn X.P fr F ks 0 (cs ++ rs) := by
          refine ⟨fun q c h1 h2 => plain q c h1 (by simpa using h2), fun q c e h1 h2 => ?_, fun q q' t ep e c h1 h2 h3 h4 => once q q' t ep e c h1 (by simpa using h2) h3 h4⟩
          rcases (hfresh q e (by simpa using h2)).2 with hh | ⟨t', ep', k, q1, q2, q3, q4, q5, q6⟩
          · rw [h1] at hh; injection hh with hh; exact .inl hh
          · rw [h1] at q1; injection q1 with q1; exact .inr ⟨t', ep', k, q1, q2, q3, q5⟩
        have hlen := resCells_len hcs
        have hrefs : ∀ t ∈ toksOf rs, t ∈ ks := fun t ht => by
          obtain ⟨c, hc, htc⟩ := List.mem_flatMap.1 ht
          obtain ⟨q, hq⟩ := List.getElem?_of_mem hc
          have hq' : (cs ++ rs)[cs.length + q]? = some c := by rw [List.getElem?_append_right (by omega), Nat.add_sub_cancel_left]; exact hq
          refine plain _ c hq' ?_ t htc
          cases hl : look (cs.length + q) F with
          | none => rfl
          | some e =>
            have := (List.getElem?_eq_some_iff.1 (hfresh _ e hl).1).1
            omega
        obtain ⟨vs, bl, os, q1, q2, q3, q4, q5⟩ := resOut hst fn.results.toList fn.resultTypes.toList 0 cs d1 _ hcs hd1 hin.take (fun q e hq hl => (hfresh q e (by simpa using hl)).1) n1 fun s hs => by
          cases hp : pinOf as vals s with
          | none => exact hp
          | some a =>
            obtain ⟨j, cs', rfl, g1, g2⟩ := pinOf_some hp
            have hj : j < (kindsOf X.P X.H X.f fn).length := by
              have := (List.getElem?_eq_some_iff.1 g1).1
              have := (args_get ha).1
              omega
            exact absurd rfl (n3 _ hs _ (List.mem_map.2 ⟨j, List.mem_range.2 hj, rfl⟩))
        have hro := refsOut hst (ks := ks) ha 0 rs d2 hrs _ hd2 (fun j cs a g1 g2 => by simpa using pinOf_key g1 g2) hrefs
        obtain ⟨u', st'⟩ := hst.freeze ks _ rfl
        refine ⟨tupV vs, results_run q1, ⟨ImF A fr ks, vs, bl, d1, d2, rfl, rfl, q2, hro, q3.nodup q4, fun g hg o hI => ?_, hst.keep, fun k o hh => .inl (hst.eim k o hh), fun k o hh => ?_, fun k o hh => (st'.im k o hh).cell, hsc⟩⟩
        · obtain ⟨x, hx, ho, hω⟩ := q3.mem hg
          have him := st'.im g o hI
          rcases q5 x hx with ⟨s, _, rfl⟩ | ⟨q, t, ep, e, g1, g2, rfl⟩
          · exact him.nob s (ho o)
          · have g1' : (cs ++ rs)[q]? = some (.own t ep) := by rw [List.getElem?_append_left (List.getElem?_eq_some_iff.1 g1).1]; exact g1
            have g2' : look q F = some e := by simpa using g2
            rcases (hfresh q e g2').2 with hh | ⟨t', ep', k, r1, r2, r3, r4, r5, r6⟩
            · rw [g1'] at hh; injection hh with hh; cases hh
            · rw [g1'] at r1; injection r1 with r1; injection r1 with r1 _
              subst r1
              have hnk : t ∉ ks := fun hm => by
                have := (List.mem_filter.1 hm).2
                rw [decide_eq_true_eq] at this
                exact this ⟨q, ep, e, g1', g2'⟩
              have := him.tok t k (ho o) (by show upds fr.tk (freeze fr ks) t = some k; rw [upds_freeze, if_neg hnk]; exact r2) (hω t rfl)
              rw [r4] at this
              cases this.1
        · by_cases hk : k < w0.heap.size
          · exact .inl (st'.ime k o hh hk)
          · exact .inr (by omega)
      · cases h

theorem ksOf_ok {X : Env} {fn : Func} {as : List Arg} {vals : List Value} {gs : List Reg} (ha : ArgsOk X.P w0 Im as (kindsOf X.P X.H X.f fn) vals gs) {b : Frame} {cs : List Frame} {r : List D} :
    KsOk X b cs w0 ⟨regsPl gs, Im, pinOf as vals⟩ (fun a w => ∃ v, (results fn a.tmps).run X.P w = .ok v w ∧ Post X.P (X.H X.f).fresh (kindsOf X.P X.H X.f fn) fn w0 Im gs r v w) r (ksOf X fn) [] :=
  ⟨fun fr w A a h hst hd => ⟨a, w, [], .one step_end, hd, ret_ok ha hst h⟩, fun i fr w A a h hst hd => (by cases h), fun fr w A a h hst hd => ret_ok ha hst h⟩

/-- The evaluator with so many calls and jumps to go. -/
noncomputable def envN (P : Program) (H : FuncId → Hints) (n : Nat) (f : FuncId) : Env := ⟨P, H, fun g as => run P H n g none as ⟨[], [], []⟩, fun p l => run P H n f (some p) [] l, f⟩

theorem pins_ok {X : Env} {fn : Func} (hf : X.fn = some fn) {as : List Arg} {vals : List Value} {gs : List Reg} {w : World} (ha : ArgsOk X.P w Im as (kindsOf X.P X.H X.f fn) vals gs) : ∀ s a, pinOf as vals s = some a → s ∈ pinsOf X := by
  intro s a hs
  obtain ⟨j, cs, rfl, h1, h2⟩ := pinOf_some hs
  obtain ⟨t, v, g, q1, q2, q3, q4⟩ := (args_get ha).2.2 j _ h1
  cases q3 with
  | r _ e k o hl h0 hr =>
    have := pinSites_mem (kindsOf X.P X.H X.f fn) 0 j e q1
    simp only [pinsOf, hf]
    simpa using this

/-- What is given by hand is so. -/
def OrcsOk (P : Program) (H : FuncId → Hints) : Prop := ∀ f o, (H f).orc = some o → ∀ call, (∀ g as r, call g as = some r → Con P H g as r) → ∀ as r, o.run call as = some r → Con P H f as r
theorem run_ok {H : FuncId → Hints} (hO : OrcsOk P H) (hN : NoNum P) (hm : P.follows .mixedOrders = true) : ∀ n : Nat,
    (∀ f as l r, run P H n f none as l = some r → Con P H f as r) ∧
    (∀ f p as0 l r, run P H n f (some p) as0 l = some r → ∀ fn root h c k b cs w0 Im as vals gs w A a, P.funcs[baseOf H f]? = some fn → fn.body = some root → ArgsOk P w0 Im as (kindsOf P H f fn) vals gs → At root p c k → look p (H f).cuts = some h →
      St fn.ntmps w0 ⟨regsPl gs, Im, pinOf as vals⟩ w A (Fr.ofLv h l) a.tmps → a.defers = [] →
      Good P b cs (fun a w => ∃ v, (results fn a.tmps).run P w = .ok v w ∧ Post P (H f).fresh (kindsOf P H f fn) fn w0 Im gs r v w) (lone (b.at a (.code c :: k)) cs w)) := by
  intro n
  induction n with
  | zero => exact ⟨fun f as l r h => (by cases h), fun f p as0 l r h => (by cases h)⟩
  | succ n ih =>
    obtain ⟨ihC, ihK⟩ := ih
    have hnt : ∀ {f fn}, P.funcs[baseOf H f]? = some fn → (envN P H n f).nt = fn.ntmps := fun {f fn} hf => by simp [Env.nt, Env.fn, envN, hf]
    have hC : ∀ f g as r, (envN P H n f).call g as = some r → Con P H g as r := fun f g as r h => ihC g as _ r h
    refine ⟨fun f as l r h => ?_, fun f p as0 l r h fn root h' c k b cs w0 Im as vals gs w A a hf hb ha hat hl hst hd => ?_⟩
    · replace h : start (envN P H n f) as = some r := h
      unfold start at h
      cases ho : (H f).orc with
      | some o =>
        rw [show ((envN P H n f).H (envN P H n f).f).orc = some o from ho] at h
        exact hO f o ho _ (hC f) as r h
      | none =>
      rw [show ((envN P H n f).H (envN P H n f).f).orc = none from ho] at h
      intro fn hf w Im vals gs ha hF hI
      replace h : body (envN P H n f) as = some r := h
      unfold body at h
      rw [show (envN P H n f).fn = some fn from hf] at h
      simp only at h
      replace h := (bif_some h).2
      split at h
      · rename_i root fr hb he
        obtain ⟨hpin, hst⟩ := enter_st (X := envN P H n f) hf ha hF hI he
        intro cs
        let b : Frame := { (default : Frame) with fn := baseOf H f, kind := .normal }
        let a0 : Act := { tmps := (vals.take (nreal H f fn)).toArray ++ Array.replicate (fn.ntmps - (vals.take (nreal H f fn)).toArray.size) Go.undef, defers := [] }
        have henter : Frame.enter P (baseOf H f) (vals.take (nreal H f fn)).toArray .normal = b.at a0 [.code root] := by
          simp [Frame.enter, Frame.at, hf, hb, b, a0]
        obtain ⟨a, w', todo, hs, hd, v, hr, hpost⟩ := ev_ok (X := envN P H n f) (b := b) (cs := cs) (R := fun a w' => ∃ v, (results fn a.tmps).run P w' = .ok v w' ∧ Post P (H f).fresh (kindsOf P H f fn) fn w Im gs r v w') hN (hC f) hm (root := root) hpin
          (fun p h l c k w1 A a hat hl hk hst hd => ihK f p [] l r hk fn root h c k b cs w Im as vals gs w1 A a hf hb ha hat hl (by rw [← hnt hf]; exact hst) hd)
          root 1 fr (ksOf (envN P H n f) fn) [] w _ a0 (At.root root) h (ksOf_ok (X := envN P H n f) ha) hst rfl
        exact ⟨.returned v, w', _, ⟨v, rfl, hpost⟩, by rw [henter]; exact hs, rfl, rfl, hd, rfl, fn, hf, hr⟩
      · cases h
    · replace h : bodyAt (envN P H n f) p l = some r := h
      unfold bodyAt at h
      rw [show (envN P H n f).fn = some fn from hf, show look p ((envN P H n f).H (envN P H n f).f).cuts = some h' from hl] at h
      simp only [hb] at h
      have hpin := pins_ok (X := envN P H n f) hf ha
      obtain ⟨c', k', hp, hg⟩ := evAt_ok (X := envN P H n f) (b := b) (cs := cs) (R := fun a w => ∃ v, (results fn a.tmps).run P w = .ok v w ∧ Post P (H f).fresh (kindsOf P H f fn) fn w0 Im gs r v w) hN (hC f) hm (root := root) hpin
          (fun p h l c k w1 A a hat hl hk hst hd => ihK f p [] l r hk fn root h c k b cs w0 Im as vals gs w1 A a hf hb ha hat hl (by rw [← hnt hf]; exact hst) hd)
          (bits p) root 1 _ (ksOf (envN P H n f) fn) [] w A a (At.root root) h (ksOf_ok (X := envN P H n f) ha) (by rw [hnt hf]; exact hst) hd
      rw [hat.bits] at hp
      injection hp with hp
      injection hp with e1 e2
      subst e1 e2
      exact hg

end Go.Vm

/- The evaluator without fuel: its equations. -/
set_option linter.unusedVariables false
set_option linter.unusedSimpArgs false
namespace Go.Vm

variable {fr : Fr} {P : Program}

theorem Evt.mono {φ ψ : Nat → Prop} (h : Evt φ) (hh : ∀ n, φ n → ψ n) : Evt ψ := by obtain ⟨N, h⟩ := h; exact ⟨N, fun n hn => hh n (h n hn)⟩
theorem Evt.and {φ ψ : Nat → Prop} (h : Evt φ) (h' : Evt ψ) : Evt fun n => φ n ∧ ψ n := by
  obtain ⟨N, h⟩ := h
  obtain ⟨M, h'⟩ := h'
  exact ⟨max N M, fun n hn => ⟨h n (by omega), h' n (by omega)⟩⟩
theorem Evt.all {φ : Nat → Prop} (h : ∀ n, φ n) : Evt φ := ⟨0, fun n _ => h n⟩

def Env.sw (X : Env) (c : FuncId → List Arg → Option (List D)) (k : Nat → Lv → Option (List D)) : Env := { X with call := c, kont := k }
section same
variable {X : Env} {c : FuncId → List Arg → Option (List D)} {k : Nat → Lv → Option (List D)}
theorem mkArgs_same : ∀ (vs : List V) (ts : List PK), mkArgs (X.sw c k) fr vs ts = mkArgs X fr vs ts
  | [], [] => rfl
  | [], _ :: _ => rfl
  | _ :: _, [] => rfl
  | v :: vs, t :: ts => by
    simp only [mkArgs, mkArgs_same vs ts]
    rfl
theorem resCs_same {α : Type} {d : Nat} {g : FuncId} {kf : Bool} {r : List D} : ∀ (n j : Nat) (K : List C → List (Nat × Tk) → Option α), resCs (X.sw c k) fr d g kf r j n K = resCs X fr d g kf r j n K
  | 0, j, K => rfl
  | n + 1, j, K => by
    simp only [resCs, resCs_same n]
    rfl
theorem resV_same {α : Type} {d : Nat} {g : FuncId} {kf : Bool} {r : List D} : ∀ (ts : List TypeId) (j : Nat) (K : List V → List (Nat × Bx) → List (Nat × Tk) → Option α), resV (X.sw c k) fr d g kf r j ts K = resV X fr d g kf r j ts K
  | [], j, K => rfl
  | t :: ts, j, K => by
    simp only [resV, resV_same ts, resCs_same]
    rfl
theorem resCells_same : ∀ (rs : List ResultVar) (ts : List TypeId), resCells (X.sw c k) fr rs ts = resCells X fr rs ts
  | [], [] => rfl
  | [], _ :: _ => rfl
  | _ :: _, [] => rfl
  | r :: rs, t :: ts => by
    simp only [resCells, resCells_same rs ts]
    rfl
theorem ptrSites_same : ∀ (rs : List ResultVar) (ts : List TypeId), ptrSites (X.sw c k) fr rs ts = ptrSites X fr rs ts
  | [], [] => rfl
  | [], _ :: _ => rfl
  | _ :: _, [] => rfl
  | r :: rs, t :: ts => by
    simp only [ptrSites, ptrSites_same rs ts]
    rfl
theorem retF_same (fn : Func) : retF (X.sw c k) fn fr = retF X fn fr := by
  simp only [retF, resCells_same, ptrSites_same]
  rfl
theorem entV_same (all : List Arg) (allk : List PK) (q : PK) (cs : List D) : entV (X.sw c k) all allk q cs = entV X all allk q cs := by
  unfold entV
  rfl
theorem enterF_same (all : List Arg) (allk : List PK) (nr : Nat) : ∀ (as : List Arg) (i : Nat) (ts : List PK) (fr : Fr), enterF (X.sw c k) all allk nr i as ts fr = enterF X all allk nr i as ts fr
  | [], i, [], fr => rfl
  | [], i, _ :: _, fr => rfl
  | .v _ :: _, i, [], fr => rfl
  | .r _ :: _, i, [], fr => rfl
  | .v cs :: as, i, t :: ts, fr => by
    simp only [enterF, entV_same]
    split
    · exact enterF_same all allk nr as (i + 1) ts _
    · rfl
  | .r cs :: as, i, t :: ts, fr => by
    cases t with
    | r e =>
      simp only [enterF, enterF_same all allk nr as (i + 1) ts]
      rfl
    | _ => rfl
end same

/-! ### Step by step -/
theorem bif_t {α : Type} {b : Bool} (h : b = true) (x y : α) : (bif b then x else y) = x := by rw [h]; rfl
section lim
variable {X : Env} {cs : Nat → FuncId → List Arg → Option (List D)} {ks : Nat → Nat → Lv → Option (List D)}

theorem callF_lim {α : Type} {d : Nat} {g : FuncId} {args : List V} {K : Eff → Option α} {r : α} (hc : ∀ g as r, X.call g as = some r → Evt fun n => cs n g as = some r) (h : callF X fr d g args K = some r) :
    ∃ z, K z = some r ∧ Evt fun n => ∀ (β : Type) (K' : Eff → Option β), callF (X.sw (cs n) (ks n)) fr d g args K' = K' z := by
  obtain ⟨z, hK, hKz, _⟩ := callF_ok h
  refine ⟨z, hKz, ?_⟩
  have h0 := hK Eff some
  unfold callF at h0
  split at h0
  · cases h0
  · rename_i fn hfn
    replace h0 := bif_not h0; obtain ⟨hb, h0⟩ := h0
    split at h0
    · cases h0
    rename_i ex hex
    split at h0
    · cases h0
    · rename_i as rs kks hma
      replace h0 := bif_some h0; obtain ⟨hd, h0⟩ := h0
      have hda : ∀ {γ : Type} (K' : List Arg → Option γ), destrAs X.P (kindsOf X.P X.H g fn) as K' = K' as := destrAs_eq _ _ _ h0
      rw [hda] at h0
      cases hcall : X.call g as with
      | none => rw [hcall] at h0; cases h0
      | some r1 =>
        refine (hc g as r1 hcall).mono fun n hn β K' => ?_
        have h1 := hK β K'
        unfold callF at h1 ⊢
        simp only [hfn, hb, cond_false, hex, hma, hd, cond_true] at h1
        rw [hda] at h1
        simp only [hcall, obind] at h0 h1
        have hdr : ∀ {γ : Type} (K' : List D → Option γ), destrT X.P (answerTs X.P fn.resultTypes.toList (kindsOf X.P X.H g fn)) r1 K' = K' r1 := destrT_eq h0
        rw [hdr] at h1
        rw [← h1]
        have e1 : (X.sw (cs n) (ks n)).P.funcs[baseOf (X.sw (cs n) (ks n)).H g]? = some fn := hfn
        rw [e1]
        show (bif fn.body.isNone || !(Nat.beq args.length (nreal X.H g fn) && (X.H g).ext.all PK.noF) then none else _) = _
        rw [hb, cond_false]
        show (match fullX args.length args (kindsOf X.P X.H g fn) with | none => none | some ex => _) = _
        rw [hex]
        simp only [mkArgs_same]
        rw [show mkArgs X fr (args ++ ex) (kindsOf (X.sw (cs n) (ks n)).P (X.sw (cs n) (ks n)).H g fn) = some (as, rs, kks) from hma]
        simp only
        rw [bif_t hd]
        rw [show (X.sw (cs n) (ks n)).P = X.P from rfl, show (X.sw (cs n) (ks n)).H = X.H from rfl, hda]
        rw [show (X.sw (cs n) (ks n)).call g as = some r1 from hn]
        simp only [obind, resV_same, hdr]
        rfl

theorem opF_lim {α : Type} {o : Oper} {K : Eff → Option α} {r : α} (hc : ∀ g as r, X.call g as = some r → Evt fun n => cs n g as = some r) (h : opF X fr o K = some r) :
    ∃ z, K z = some r ∧ Evt fun n => ∀ (β : Type) (K' : Eff → Option β), opF (X.sw (cs n) (ks n)) fr o K' = K' z := by
  obtain ⟨z, hK, _⟩ := opF_ok h
  have hz := h
  rw [hK] at hz
  have keep : (∀ (β : Type) (n : Nat) (K' : Eff → Option β), opF (X.sw (cs n) (ks n)) fr o K' = opF X fr o K') → ∃ z, K z = some r ∧ Evt fun n => ∀ (β : Type) (K' : Eff → Option β), opF (X.sw (cs n) (ks n)) fr o K' = K' z :=
    fun hh => ⟨z, hz, .all fun n β K' => (hh β n K').trans (hK β K')⟩
  cases hop : o.op with
  | call c =>
    cases hcc : c.callee with
    | builtin b => exact keep fun β n K' => by unfold opF; simp only [hop, hcc]; rfl
    | value x =>
      cases x with
      | func g =>
        cases hx : isExtF X.P g with
        | true => exact keep fun β n K' => by unfold opF; simp only [hop, hcc, show isExtF (X.sw (cs n) (ks n)).P g = true from hx, hx, cond_true]; rfl
        | false =>
          have h' := h
          unfold opF at h'
          simp only [hop, hcc, hx, cond_false] at h'
          replace h' := bif_some h'; obtain ⟨hbs, h'⟩ := h'
          obtain ⟨z', h1, h2⟩ := callF_lim (ks := ks) hc h'
          refine ⟨z', h1, h2.mono fun n hn β K' => ?_⟩
          unfold opF
          simp only [hop, hcc, show isExtF (X.sw (cs n) (ks n)).P g = false from hx, cond_false]
          rw [bif_t (show Nat.beq (baseOf (X.sw (cs n) (ks n)).H (virt (X.sw (cs n) (ks n)) (o.dst.getD 0) g)) g = true from hbs)]
          exact hn β K'
      | tmp t =>
        have h' := h
        unfold opF at h'
        simp only [hop, hcc] at h'
        split at h'
        · rename_i g b caps htm
          replace h' := bif_some h'; obtain ⟨hbs, h'⟩ := h'
          obtain ⟨z', h1, h2⟩ := callF_lim (ks := ks) hc h'
          refine ⟨z', h1, h2.mono fun n hn β K' => ?_⟩
          unfold opF
          simp only [hop, hcc, htm]
          rw [bif_t (show (Nat.beq (baseOf (X.sw (cs n) (ks n)).H g) b && !(isExtF (X.sw (cs n) (ks n)).P b)) = true from hbs)]
          exact hn β K'
        · cases h'
      | _ => exact keep fun β n K' => by unfold opF; simp only [hop, hcc]
    | invoke x y => exact keep fun β n K' => by unfold opF; simp only [hop, hcc]
  | makeFunc f first captured => cases f <;> exact keep fun β n K' => by unfold opF; first | (simp only [hop]; done) | (simp only [hop]; rfl)
  | _ => exact keep fun β n K' => by unfold opF; first | (simp only [hop]; done) | (simp only [hop]; rfl)

theorem opsF_lim (hc : ∀ g as r, X.call g as = some r → Evt fun n => cs n g as = some r) {all : Array Oper} {r : List D} : ∀ (l : List Oper) (fr : Fr) (acc : List (Nat × List Nat × List Nat)) (K : Fr → List (Nat × List Nat × List Nat) → R) (Kn : Nat → Fr → List (Nat × List Nat × List Nat) → R),
    (∀ fr acc, K fr acc = some r → Evt fun n => Kn n fr acc = some r) → opsF X all l fr acc K = some r → Evt fun n => opsF (X.sw (cs n) (ks n)) all l fr acc (Kn n) = some r := by
  intro l
  induction l with
  | nil => intro fr acc K Kn hk h; exact hk fr acc h
  | cons o rest ih =>
    intro fr acc K Kn hk h
    have go : ∀ fr1 : Fr, (opF X fr1 o fun x => opsF X all rest (fr1.app o.dst x) (entGo all o acc.length x :: acc) K) = some r →
        Evt fun n => (opF (X.sw (cs n) (ks n)) fr1 o fun x => opsF (X.sw (cs n) (ks n)) all rest (fr1.app o.dst x) (entGo all o acc.length x :: acc) (Kn n)) = some r := fun fr1 hh => by
      obtain ⟨z, h1, h2⟩ := opF_lim (ks := ks) hc hh
      exact (h2.and (ih _ _ K Kn hk h1)).mono fun n hn => by rw [hn.1]; exact hn.2
    have no : ∀ fr1 : Fr, opsF X all rest (fr1.put o.dst .skip) (entNo all o acc.length :: acc) K = some r → Evt fun n => opsF (X.sw (cs n) (ks n)) all rest (fr1.put o.dst .skip) (entNo all o acc.length :: acc) (Kn n) = some r := fun fr1 hh => ih _ _ K Kn hk hh
    unfold opsF at h ⊢
    simp only at h ⊢
    cases hg : o.guard with
    | none => simp only [hg] at h ⊢; exact go fr h
    | some jw =>
      obtain ⟨j, want⟩ := jw
      simp only [hg] at h ⊢
      cases ht : (all[j]?).bind (·.dst) with
      | none => simp only [ht] at h ⊢; exact no fr h
      | some t =>
        simp only [ht] at h ⊢
        cases hs : fr.tm t with
        | skip => simp only [hs] at h ⊢; exact no fr h
        | one c =>
          cases c with
          | d x =>
            simp only [hs] at h ⊢
            replace h := takeB_some h; obtain ⟨b, rfl, h⟩ := h
            simp only [takeB]
            cases b <;> cases want <;> simp only [br, cond_true, cond_false] at h ⊢
            · exact go _ h
            · exact no _ h
            · exact no _ h
            · exact go _ h
          | _ => simp only [hs] at h; cases h
        | _ => simp only [hs] at h; cases h

theorem regionF_lim (hc : ∀ g as r, X.call g as = some r → Evt fun n => cs n g as = some r) {ops : Array Oper} {draw : Bool} {r : List D} {K : Fr → R} {Kn : Nat → Fr → R} (hk : ∀ fr, K fr = some r → Evt fun n => Kn n fr = some r) (h : regionF X ops draw fr K = some r) :
    Evt fun n => regionF (X.sw (cs n) (ks n)) ops draw fr (Kn n) = some r := by
  unfold regionF at h ⊢
  replace h := bif_some h; obtain ⟨hb, h⟩ := h
  refine (opsF_lim (ks := ks) hc ops.toList fr [] _ (fun n fr acc => bif draw then (bif edgesOk 0 ops.toList && orderOk (befs ops.toList []) acc then Kn n fr else none) else Kn n fr) (fun fr acc hh => ?_) h).mono fun n hn => ?_
  · cases draw with
    | true =>
      simp only [cond_true] at hh ⊢
      replace hh := bif_some hh; obtain ⟨ho, hh⟩ := hh
      simp only [ho, cond_true]
      exact hk fr hh
    | false => simp only [cond_false] at hh ⊢; exact hk fr hh
  · exact (bif_t hb _ _).trans hn

structure KsLim (r : List D) (K : Ks) (Kn : Nat → Ks) : Prop where
  nx : ∀ fr, K.nx fr = some r → Evt fun n => (Kn n).nx fr = some r
  ex : ∀ i fr, K.ex i fr = some r → Evt fun n => (Kn n).ex i fr = some r
  rt : ∀ fr, K.rt fr = some r → Evt fun n => (Kn n).rt fr = some r

theorem ksOf_lim (r : List D) (fn : Func) : KsLim r (ksOf X fn) fun n => ksOf (X.sw (cs n) (ks n)) fn :=
  ⟨fun fr h => .all fun n => (retF_same fn).trans h, fun i fr h => (by cases h), fun fr h => .all fun n => (retF_same fn).trans h⟩

variable (hc : ∀ g as r, X.call g as = some r → Evt fun n => cs n g as = some r) (hk : ∀ p l r, X.kont p l = some r → Evt fun n => ks n p l = some r)
include hc hk
theorem ev_lim {r : List D} : ∀ (c : Code) (p : Nat) (fr : Fr) (K : Ks) (Kn : Nat → Ks), KsLim r K Kn → ev X p c fr K = some r → Evt fun n => ev (X.sw (cs n) (ks n)) p c fr (Kn n) = some r := by
  intro c
  induction c with
  | skip => intro p fr K Kn hK h; exact hK.nx fr h
  | region id ops draw =>
    intro p fr K Kn hK h
    simp only [ev] at h ⊢
    cases hl : look p (X.H X.f).cuts with
    | none =>
      rw [hl] at h
      refine (regionF_lim hc (ks := ks) (Kn := fun n => (Kn n).nx) hK.nx h).mono fun n hn => ?_
      rw [show look p ((X.sw (cs n) (ks n)).H (X.sw (cs n) (ks n)).f).cuts = none from hl]
      exact hn
    | some hh =>
      rw [hl] at h
      simp only at h
      cases hcn : canon X fr hh with
      | none => rw [hcn] at h; cases h
      | some l =>
        rw [hcn] at h
        refine (hk p l r h).mono fun n hn => ?_
        rw [show look p ((X.sw (cs n) (ks n)).H (X.sw (cs n) (ks n)).f).cuts = some hh from hl]
        simp only
        rw [show canon (X.sw (cs n) (ks n)) fr hh = some l from hcn]
        exact hn
  | seq x y ihx ihy =>
    intro p fr K Kn hK h
    simp only [ev] at h ⊢
    exact ihx (2 * p) fr { K with nx := fun fr => ev X (2 * p + 1) y fr K } (fun n => { Kn n with nx := fun fr => ev (X.sw (cs n) (ks n)) (2 * p + 1) y fr (Kn n) }) ⟨fun fr h => ihy (2 * p + 1) fr K Kn hK h, hK.ex, hK.rt⟩ h
  | cond c x y ihx ihy =>
    intro p fr K Kn hK h
    simp only [ev, splitB] at h ⊢
    split at h
    · rename_i bb
      cases bb
      · exact ihy _ fr K Kn hK h
      · exact ihx _ fr K Kn hK h
    · rename_i t
      split at h
      · rename_i x hx
        replace h := takeB_some h; obtain ⟨bb, rfl, h⟩ := h
        simp only [takeB]
        cases bb
        · exact ihy _ _ K Kn hK h
        · exact ihx _ _ K Kn hK h
      · obtain ⟨ha, hb⟩ := both_some h
        exact ((ihx _ _ K Kn hK ha).and (ihy _ _ K Kn hK hb)).mono fun n hn => both_mk hn.1 hn.2
      · cases h
    · cases h
  | block id x ih =>
    intro p fr K Kn hK h
    simp only [ev] at h ⊢
    refine ih (2 * p) fr { K with ex := fun i fr => bif Nat.beq i id then K.nx fr else K.ex i fr } (fun n => { Kn n with ex := fun i fr => bif Nat.beq i id then (Kn n).nx fr else (Kn n).ex i fr }) ⟨hK.nx, fun i fr h => ?_, hK.rt⟩ h
    simp only at h ⊢
    cases hb : Nat.beq i id with
    | true => rw [hb] at h; exact hK.nx fr h
    | false => rw [hb] at h; exact hK.ex i fr h
  | loop x ih =>
    intro p fr K Kn hK h
    simp only [ev] at h ⊢
    exact ih (2 * p) fr { K with nx := fun _ => none } (fun n => { Kn n with nx := fun _ => none }) ⟨fun fr h => (by cases h), hK.ex, hK.rt⟩ h
  | scope x ih => intro p fr K Kn hK h; simp only [ev] at h ⊢; exact ih (2 * p) fr K Kn hK h
  | exit id => intro p fr K Kn hK h; exact hK.ex id fr h
  | ret => intro p fr K Kn hK h; exact hK.rt fr h
  | _ => intro p fr K Kn hK h; cases h

theorem evAt_lim {r : List D} : ∀ (bs : List Bool) (c : Code) (p : Nat) (fr : Fr) (K : Ks) (Kn : Nat → Ks), KsLim r K Kn → evAt X bs p c fr K = some r → Evt fun n => evAt (X.sw (cs n) (ks n)) bs p c fr (Kn n) = some r := by
  intro bs
  induction bs with
  | nil =>
    intro c p fr K Kn hK h
    cases c with
    | region id ops draw => exact regionF_lim hc (ks := ks) (Kn := fun n => (Kn n).nx) hK.nx h
    | _ => cases h
  | cons bb bs ih =>
    intro c p fr K Kn hK h
    cases c with
    | seq x y =>
      cases bb with
      | false => simp only [evAt] at h ⊢; exact ih x (2 * p) fr { K with nx := fun fr => ev X (2 * p + 1) y fr K } (fun n => { Kn n with nx := fun fr => ev (X.sw (cs n) (ks n)) (2 * p + 1) y fr (Kn n) }) ⟨fun fr h => ev_lim hc hk y (2 * p + 1) fr K Kn hK h, hK.ex, hK.rt⟩ h
      | true => simp only [evAt] at h ⊢; exact ih y (2 * p + 1) fr K Kn hK h
    | cond c x y =>
      cases bb with
      | false => simp only [evAt] at h ⊢; exact ih x (2 * p) fr K Kn hK h
      | true => simp only [evAt] at h ⊢; exact ih y (2 * p + 1) fr K Kn hK h
    | block id x =>
      cases bb with
      | true => cases h
      | false =>
        simp only [evAt] at h ⊢
        refine ih x (2 * p) fr { K with ex := fun i fr => bif Nat.beq i id then K.nx fr else K.ex i fr } (fun n => { Kn n with ex := fun i fr => bif Nat.beq i id then (Kn n).nx fr else (Kn n).ex i fr }) ⟨hK.nx, fun i fr h => ?_, hK.rt⟩ h
        simp only at h ⊢
        cases hb : Nat.beq i id with
        | true => rw [hb] at h; exact hK.nx fr h
        | false => rw [hb] at h; exact hK.ex i fr h
    | loop x =>
      cases bb with
      | true => cases h
      | false =>
        simp only [evAt] at h ⊢
        exact ih x (2 * p) fr { K with nx := fun fr => ev X (2 * p) x fr { K with nx := fun _ => none } } (fun n => { Kn n with nx := fun fr => ev (X.sw (cs n) (ks n)) (2 * p) x fr { Kn n with nx := fun _ => none } }) ⟨fun fr h => ev_lim hc hk x (2 * p) fr { K with nx := fun _ => none } (fun n => { Kn n with nx := fun _ => none }) ⟨fun fr h => (by cases h), hK.ex, hK.rt⟩ h, hK.ex, hK.rt⟩ h
    | scope x =>
      cases bb with
      | true => cases h
      | false => simp only [evAt] at h ⊢; exact ih x (2 * p) fr K Kn hK h
    | _ => cases bb <;> cases h

theorem body_lim {as : List Arg} {r : List D} (h : body X as = some r) : Evt fun n => body (X.sw (cs n) (ks n)) as = some r := by
  unfold body at h ⊢
  split at h
  · rename_i fn hf
    replace h := bif_some h; obtain ⟨hn, h⟩ := h
    split at h
    · rename_i c fr hb he
      refine (ev_lim hc hk c 1 fr _ _ (ksOf_lim (cs := cs) (ks := ks) r fn) h).mono fun n hh => ?_
      rw [show (X.sw (cs n) (ks n)).fn = some fn from hf]
      show (bif Nat.beq fn.nfree (X.H X.f).free.length then _ else none) = _
      rw [hn, cond_true, hb]
      rw [show enterF (X.sw (cs n) (ks n)) as (kindsOf (X.sw (cs n) (ks n)).P (X.sw (cs n) (ks n)).H (X.sw (cs n) (ks n)).f fn) (nreal (X.sw (cs n) (ks n)).H (X.sw (cs n) (ks n)).f fn) 0 as (kindsOf (X.sw (cs n) (ks n)).P (X.sw (cs n) (ks n)).H (X.sw (cs n) (ks n)).f fn) fr0 = some fr from (enterF_same _ _ _ _ _ _ _).trans he]
      exact hh
    · cases h
  · cases h
theorem bodyAt_lim {p : Nat} {l : Lv} {r : List D} (h : bodyAt X p l = some r) : Evt fun n => bodyAt (X.sw (cs n) (ks n)) p l = some r := by
  unfold bodyAt at h ⊢
  split at h
  · rename_i fn hh hf hl
    split at h
    · rename_i c hb
      refine (evAt_lim hc hk (bits p) c 1 _ _ _ (ksOf_lim (cs := cs) (ks := ks) r fn) h).mono fun n hx => ?_
      rw [show (X.sw (cs n) (ks n)).fn = some fn from hf, show look p ((X.sw (cs n) (ks n)).H (X.sw (cs n) (ks n)).f).cuts = some hh from hl]
      simp only [hb]
      exact hx
    · cases h
  · cases h
theorem start_lim {as : List Arg} {r : List D} (h : start X as = some r) : Evt fun n => start (X.sw (cs n) (ks n)) as = some r := by
  unfold start at h ⊢
  show Evt fun n => (match (X.H X.f).orc with | some o => o.run (cs n) as | none => body (X.sw (cs n) (ks n)) as) = some r
  cases ho : (X.H X.f).orc with
  | none => rw [ho] at h; exact body_lim hc hk h
  | some o => rw [ho] at h; exact o.lim _ _ hc as r h
end lim

/-! ### The limit -/
variable {H : FuncId → Hints}
theorem run_mono : ∀ n f q as l r, run P H n f q as l = some r → run P H (n + 1) f q as l = some r := by
  intro n
  induction n with
  | zero => intro f q as l r h; cases h
  | succ n ih =>
    intro f q as l r h
    have hc : ∀ g as r, (envN P H n f).call g as = some r → Evt fun _ => (envN P H (n + 1) f).call g as = some r := fun g as r h => .all fun _ => ih g none as _ r h
    have hk : ∀ p l r, (envN P H n f).kont p l = some r → Evt fun _ => (envN P H (n + 1) f).kont p l = some r := fun p l r h => .all fun _ => ih f (some p) [] l r h
    cases q with
    | none =>
      obtain ⟨N, hh⟩ := start_lim (X := envN P H n f) (cs := fun _ => (envN P H (n + 1) f).call) (ks := fun _ => (envN P H (n + 1) f).kont) hc hk h
      exact hh N (Nat.le_refl _)
    | some p =>
      obtain ⟨N, hh⟩ := bodyAt_lim (X := envN P H n f) (cs := fun _ => (envN P H (n + 1) f).call) (ks := fun _ => (envN P H (n + 1) f).kont) hc hk h
      exact hh N (Nat.le_refl _)
theorem run_le {n m : Nat} (hnm : n ≤ m) {f : FuncId} {q : Option Nat} {as : List Arg} {l : Lv} {r : List D} (h : run P H n f q as l = some r) : run P H m f q as l = some r := by
  induction hnm with
  | refl => exact h
  | step _ ih => exact run_mono _ _ _ _ _ _ ih

open Classical in
noncomputable def runL (P : Program) (H : FuncId → Hints) (f : FuncId) (q : Option Nat) (as : List Arg) (l : Lv) : Option (List D) :=
  if h : ∃ r n, run P H n f q as l = some r then some h.choose else none
theorem runL_some {f : FuncId} {q : Option Nat} {as : List Arg} {l : Lv} {r : List D} : runL P H f q as l = some r ↔ ∃ n, run P H n f q as l = some r := by
  unfold runL
  constructor
  · intro h
    split at h
    · rename_i hh
      injection h with h
      rw [← h]
      exact hh.choose_spec
    · cases h
  · rintro ⟨n, h⟩
    have hh : ∃ r n, run P H n f q as l = some r := ⟨r, n, h⟩
    rw [dif_pos hh]
    obtain ⟨m, hm⟩ := hh.choose_spec
    have a := run_le (Nat.le_max_left n m) h
    have b := run_le (Nat.le_max_right n m) hm
    rw [a] at b
    exact b.symm
noncomputable def callL (P : Program) (H : FuncId → Hints) (f : FuncId) (as : List Arg) : Option (List D) := runL P H f none as ⟨[], [], []⟩
noncomputable def kontL (P : Program) (H : FuncId → Hints) (f : FuncId) (p : Nat) (l : Lv) : Option (List D) := runL P H f (some p) [] l

theorem ext_some {α : Type} {x y : Option α} (h1 : ∀ r, x = some r → y = some r) (h2 : ∀ r, y = some r → x = some r) : x = y := by
  cases x with
  | none => cases y with
    | none => rfl
    | some r => exact (h2 r rfl).symm ▸ rfl
  | some r => exact (h1 r rfl).symm

theorem runL_evt {f : FuncId} {q : Option Nat} {as : List Arg} {l : Lv} {r : List D} (h : runL P H f q as l = some r) : Evt fun n => run P H n f q as l = some r := by
  obtain ⟨n, h⟩ := runL_some.1 h
  exact ⟨n, fun m hm => run_le hm h⟩

theorem callL_eq (f : FuncId) (as : List Arg) : callL P H f as = start ⟨P, H, callL P H, kontL P H f, f⟩ as := by
  refine ext_some (fun r h => ?_) fun r h => ?_
  · obtain ⟨n, h⟩ := runL_some.1 h
    cases n with
    | zero => cases h
    | succ n =>
      obtain ⟨N, hh⟩ := start_lim (X := envN P H n f) (cs := fun _ => callL P H) (ks := fun _ => kontL P H f) (fun g as r h => .all fun _ => runL_some.2 ⟨n, h⟩) (fun p l r h => .all fun _ => runL_some.2 ⟨n, h⟩) h
      exact hh N (Nat.le_refl _)
  · obtain ⟨N, hh⟩ := start_lim (X := ⟨P, H, callL P H, kontL P H f, f⟩) (cs := fun n => (envN P H n f).call) (ks := fun n => (envN P H n f).kont) (fun g as r h => runL_evt h) (fun p l r h => runL_evt h) h
    exact runL_some.2 ⟨N + 1, hh N (Nat.le_refl _)⟩
theorem kontL_eq (f : FuncId) (p : Nat) (l : Lv) : kontL P H f p l = bodyAt ⟨P, H, callL P H, kontL P H f, f⟩ p l := by
  refine ext_some (fun r h => ?_) fun r h => ?_
  · obtain ⟨n, h⟩ := runL_some.1 h
    cases n with
    | zero => cases h
    | succ n =>
      obtain ⟨N, hh⟩ := bodyAt_lim (X := envN P H n f) (cs := fun _ => callL P H) (ks := fun _ => kontL P H f) (fun g as r h => .all fun _ => runL_some.2 ⟨n, h⟩) (fun p l r h => .all fun _ => runL_some.2 ⟨n, h⟩) h
      exact hh N (Nat.le_refl _)
  · obtain ⟨N, hh⟩ := bodyAt_lim (X := ⟨P, H, callL P H, kontL P H f, f⟩) (cs := fun n => (envN P H n f).call) (ks := fun n => (envN P H n f).kont) (fun g as r h => runL_evt h) (fun p l r h => runL_evt h) h
    exact runL_some.2 ⟨N + 1, hh N (Nat.le_refl _)⟩
theorem callL_ok (hO : OrcsOk P H) (hN : NoNum P) (hm : P.follows .mixedOrders = true) {f : FuncId} {as : List Arg} {r : List D} (h : callL P H f as = some r) : Con P H f as r := by
  obtain ⟨n, h⟩ := runL_some.1 h
  exact (run_ok hO hN hm n).1 f as _ r h

end Go.Vm
