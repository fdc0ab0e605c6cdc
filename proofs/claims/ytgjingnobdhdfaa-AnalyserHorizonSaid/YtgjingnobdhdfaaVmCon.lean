/- What the evaluator answers, a call answers. -/
import Derived.Test.YtgjingnobdhdfaaVmRet
set_option linter.unusedVariables false
set_option linter.unusedSimpArgs false
namespace Go.Vm

variable {nt : Nat} {w0 : World} {S : Sp} {w : World} {A : As} {fr : Fr} {P : Program} {Im : Pl}

theorem refsOut {tmps : Array Value} (hst : St nt w0 S w A fr tmps) {ks : List Nat} {w1 : World} : ∀ {as : List Arg} {ts : List TypeId} {vals : List Value} {gs : List Reg}, ArgsOk P w1 Im as ts vals gs → ∀ (i : Nat) (rs : List C) (qs : List D), refCells P fr i ts = some rs → toDs fr rs = some qs →
    (∀ j cs a, as[j]? = some (.r cs) → vals[j]? = some (.pointer (some a)) → S.pin (key (i + j) 0) = some a) → (∀ t ∈ toksOf rs, t ∈ ks) → RefsOk w (ImF A fr ks) gs qs
  | _, _, _, _, .nil, i, rs, qs, h, hd, hp, hk => by
    simp only [refCells, Option.some.injEq] at h
    subst h
    simp only [toDs, Option.some.injEq] at hd
    subst hd
    exact .nil
  | _, _, _, _, .cons (a := a) (v := v) (as := as) (vs := vs) h1 hs dis, i, rs, qs, h, hd, hp, hk => by
    have hp' : ∀ j cs a, as[j]? = some (.r cs) → vs[j]? = some (.pointer (some a)) → S.pin (key (i + 1 + j) 0) = some a := fun j cs a q1 q2 => by
      have := hp (j + 1) cs a (by simpa using q1) (by simpa using q2)
      rwa [show i + (j + 1) = i + 1 + j by omega] at this
    cases h1 with
    | v cs _ us hn hok hl hu hr =>
      simp only [refCells, hn] at h
      simpa using refsOut hst hs (i + 1) rs qs h hd hp' hk
    | r cs _ e k o he hl h0 hr =>
      simp only [refCells, he] at h
      split at h
      · rename_i b hb
        replace h := bif_some h; obtain ⟨hc, h⟩ := h
        simp only [Bool.and_eq_true, Nat.beq_eq] at hc
        obtain ⟨rs2, h2, rfl⟩ := Option.map_eq_some_iff.1 h
        obtain ⟨d1, d2, hd1, hd2, rfl⟩ := toDs_append hd
        have ih := refsOut hst hs (i + 1) rs2 d2 h2 hd2 hp' fun t ht => hk t (by simp only [toksOf, List.flatMap_append, List.mem_append]; exact .inr ht)
        have hpin := hp 0 cs (at_ k o) rfl rfl
        obtain ⟨b', hb', hβ⟩ := hst.pin _ _ hpin
        simp only [Nat.add_zero] at hb' hβ
        rw [hb] at hb'; injection hb' with hb'; subst hb'
        have hβ := hβ hc.1
        refine .cons (by rw [toDs_len hd1]; show b.cs.length = cs.length; omega) (fun q d hq => ?_) ih
        obtain ⟨c, hc1, hc2⟩ := toDs_get hd1 q d hq
        obtain ⟨u, hu1, hu2⟩ := (hst.bx _ b hb).cell q c hc1
        rw [hβ] at hu1
        refine ⟨u, hu1, toD_rd hst hc2 hu2 fun t ht => hk t ?_⟩
        simp only [toksOf, List.flatMap_append, List.mem_append]
        exact .inl (List.mem_flatMap.2 ⟨c, List.mem_of_getElem? hc1, ht⟩)
      · cases h

theorem distinct_nodup : ∀ {l : List Nat}, distinct l = true → l.Nodup
  | [], _ => List.nodup_nil
  | k :: ks, h => by
    obtain ⟨h1, h2⟩ := distinct_cons h
    exact List.nodup_cons.2 ⟨h1, distinct_nodup h2⟩
theorem look_mem {β : Type} {k : Nat} {v : β} : ∀ {l : List (Nat × β)}, look k l = some v → (k, v) ∈ l
  | [], h => by cases h
  | (j, u) :: l, h => by
    simp only [look] at h
    cases hb : Nat.beq j k with
    | true =>
      rw [hb, cond_true] at h
      injection h with h
      rw [Nat.eq_of_beq_eq_true hb, h]
      exact List.mem_cons_self
    | false =>
      rw [hb, cond_false] at h
      exact List.mem_cons_of_mem _ (look_mem h)
theorem tok_one {t : Nat} : ∀ {cs : List C} {q : Nat} {c : C}, cs[q]? = some c → t ∈ c.toks → 1 ≤ ((toksOf cs).filter (Nat.beq t)).length := fun {cs q c} h ht => by
  have : t ∈ (toksOf cs).filter (Nat.beq t) := List.mem_filter.2 ⟨List.mem_flatMap.2 ⟨c, List.mem_of_getElem? h, ht⟩, Nat.beq_refl t⟩
  exact List.length_pos_iff.2 fun e => by rw [e] at this; cases this
theorem tok_two {t : Nat} : ∀ {cs : List C} {q q' : Nat} {c c' : C}, cs[q]? = some c → t ∈ c.toks → cs[q']? = some c' → t ∈ c'.toks → q < q' → 2 ≤ ((toksOf cs).filter (Nat.beq t)).length
  | [], q, q', c, c', h1, _, _, _, _ => by simp at h1
  | x :: cs, 0, 0, c, c', _, _, _, _, h => by omega
  | x :: cs, 0, q' + 1, c, c', h1, h2, h3, h4, _ => by
    simp only [List.getElem?_cons_zero, Option.some.injEq] at h1
    subst h1
    have a := tok_one (cs := [x]) (q := 0) rfl h2
    have b := tok_one (cs := cs) (q := q') (by simpa using h3) h4
    simp only [toksOf, List.flatMap_cons, List.flatMap_nil, List.append_nil, List.filter_append, List.length_append] at a b ⊢
    omega
  | x :: cs, q + 1, 0, c, c', _, _, _, _, h => by omega
  | x :: cs, q + 1, q' + 1, c, c', h1, h2, h3, h4, h => by
    have := tok_two (cs := cs) (q := q) (q' := q') (by simpa using h1) h2 (by simpa using h3) h4 (by omega)
    simp only [toksOf, List.flatMap_cons, List.filter_append, List.length_append] at this ⊢
    omega
theorem tok_uniq {t : Nat} {cs : List C} {q q' : Nat} {c c' : C} (h : ((toksOf cs).filter (Nat.beq t)).length = 1) (h1 : cs[q]? = some c) (h2 : t ∈ c.toks) (h3 : cs[q']? = some c') (h4 : t ∈ c'.toks) : q' = q := by
  rcases Nat.lt_trichotomy q q' with hh | hh | hh
  · have := tok_two h1 h2 h3 h4 hh; omega
  · exact hh.symm
  · have := tok_two h3 h4 h1 h2 hh; omega

theorem scAll_some : ∀ {ds r : List D}, scAll ds some = some r → r = ds ∧ ds.all scalar = true := by
  have key : ∀ (ds : List D) {r : List D} (K : List D → Option (List D)), scAll ds K = some r → K ds = some r ∧ ds.all scalar = true := by
    intro ds
    induction ds with
    | nil => intro r K h; exact ⟨h, rfl⟩
    | cons d ds ih =>
      intro r K h
      simp only [scAll] at h
      unfold takeSc at h
      split at h
      · cases h
      · cases h
      · rename_i h1 h2
        obtain ⟨q1, q2⟩ := ih _ h
        refine ⟨q1, ?_⟩
        simp only [List.all_cons, q2, Bool.and_true]
        cases d <;> simp_all [scalar]
  intro ds r h
  obtain ⟨h1, h2⟩ := key ds some h
  injection h1 with h1
  exact ⟨h1.symm, h2⟩

theorem resCells_len {X : Env} : ∀ {rs : List ResultVar} {ts : List TypeId} {cs : List C}, resCells X fr rs ts = some cs → (valPos X.P ts).length = cs.length
  | [], [], cs, h => by simp only [resCells, Option.some.injEq] at h; subst h; rfl
  | [], _ :: _, cs, h => by cases h
  | _ :: _, [], cs, h => by cases h
  | r :: rs, t :: ts, cs, h => by
    simp only [resCells] at h
    split at h
    · rename_i e he
      split at h
      · split at h
        · split at h
          · replace h := bif_some h; obtain ⟨hc, h⟩ := h
            simp only [Bool.and_eq_true, Nat.beq_eq, Bool.not_eq_true'] at hc
            obtain ⟨cs2, h2, rfl⟩ := Option.map_eq_some_iff.1 h
            have := resCells_len h2
            simp only [valPos, he, List.length_append, List.length_replicate, this]
            omega
          · cases h
        · cases h
      · cases h
    · rename_i he
      split at h
      · replace h := bif_some h; obtain ⟨hc, h⟩ := h
        simp only [Bool.and_eq_true, Nat.beq_eq, Bool.not_eq_true'] at hc
        obtain ⟨cs2, h2, rfl⟩ := Option.map_eq_some_iff.1 h
        have := resCells_len h2
        simp only [valPos, he, List.length_append, List.length_replicate, this]
        omega
      · cases h

open Classical in
theorem ret_ok {X : Env} {fn : Func} {as : List Arg} {vals : List Value} {gs : List Reg} (ha : ArgsOk X.P w0 Im as fn.params.toList vals gs) {tmps : Array Value} (hst : St nt w0 ⟨regsPl gs, Im, pinOf as vals⟩ w A fr tmps) {r : List D} (h : retF X fn fr = some r) :
    ∃ v, (results fn tmps).run X.P w = .ok v w ∧ Post X.P (X.H X.f).fresh fn w0 Im gs r v w := by
  unfold retF at h
  split at h
  · cases h
  · rename_i cs hcs
    split at h
    · cases h
    · rename_i rs hrs
      simp only at h
      replace h := bif_some h; obtain ⟨hc, h⟩ := h
      simp only [Bool.and_eq_true] at hc
      obtain ⟨hfr, hdis⟩ := hc
      split at h
      · rename_i ds hds
        have hr : r = ds ∧ ((fn.resultTypes.toList.all (flatT X.P) && fn.params.toList.all (fun t => (isPtrT X.P t).isNone)) = true → r.all scalar = true) := by
          cases hb : (fn.resultTypes.toList.all (flatT X.P) && fn.params.toList.all (fun t => (isPtrT X.P t).isNone)) with
          | true =>
            rw [hb, cond_true] at h
            obtain ⟨h1, h2⟩ := scAll_some h
            subst h1
            exact ⟨rfl, fun _ => h2⟩
          | false =>
            rw [hb, cond_false] at h
            injection h with h
            exact ⟨h.symm, fun hh => by cases hh⟩
        obtain ⟨rfl, hsc⟩ := hr
        obtain ⟨d1, d2, hd1, hd2, rfl⟩ := toDs_append hds
        have hnd := distinct_nodup hdis
        obtain ⟨n1, n2, n3⟩ := List.nodup_append.1 hnd
        have hfresh : ∀ q e, look q (X.H X.f).fresh = some e → (valPos X.P fn.resultTypes.toList)[q]? = some true ∧ ((cs ++ rs)[q]? = some .nil0 ∨ ∃ t ep k, (cs ++ rs)[q]? = some (.own t ep) ∧ fr.tk t = some k ∧ k.e = ep ∧ k.fz = false ∧ ((k.et = e ∧ k.esz = sz X.P e) ∨ k.esz = 0) ∧ ((toksOf (cs ++ rs)).filter (Nat.beq t)).length = 1) := by
          intro q e hl
          have := List.all_eq_true.1 hfr _ (look_mem hl)
          simp only [Bool.and_eq_true] at this
          obtain ⟨h1, h2⟩ := this
          refine ⟨?_, ?_⟩
          · split at h1
            · rename_i b hb; subst h1; exact hb
            · cases h1
          · split at h2
            · rename_i hq; exact .inl hq
            · rename_i t ep hq
              simp only [Bool.and_eq_true] at h2
              obtain ⟨h2, h3⟩ := h2
              split at h2
              · rename_i k hk
                simp only [Bool.and_eq_true, Bool.or_eq_true, Nat.beq_eq, Bool.not_eq_true'] at h2
                exact .inr ⟨t, ep, k, hq, hk, h2.1.1, h2.1.2, h2.2, Nat.eq_of_beq_eq_true h3⟩
              · cases h2
            · cases h2
        generalize hF : (X.H X.f).fresh = F at hfresh
        let isF : Nat → Prop := fun t => ∃ q ep e, (cs ++ rs)[q]? = some (.own t ep) ∧ look q F = some e
        let ks := (toksOf (cs ++ rs)).filter fun t => decide (¬ isF t)
        have once : ∀ q q' t ep e c, (cs ++ rs)[q]? = some (.own t ep) → look q F = some e → (cs ++ rs)[q']? = some c → t ∈ c.toks → q' = q := fun q q' t ep e c h1 h2 h3 h4 => by
          rcases (hfresh q e h2).2 with hh | ⟨t', ep', k, q1, q2, q3, q4, q5, q6⟩
          · rw [h1] at hh; injection hh with hh; cases hh
          · rw [h1] at q1; injection q1 with q1; injection q1 with q1 _
            subst q1
            exact tok_uniq q6 h1 (by simp [C.toks]) h3 h4
        have plain : ∀ q c, (cs ++ rs)[q]? = some c → look q F = none → ∀ t ∈ c.toks, t ∈ ks := fun q c h1 h2 t ht => by
          refine List.mem_filter.2 ⟨List.mem_flatMap.2 ⟨c, List.mem_of_getElem? h1, ht⟩, ?_⟩
          rw [decide_eq_true_eq]
          rintro ⟨q', ep, e, q1, q2⟩
          have := once q' q t ep e c q1 q2 h1 ht
          subst this
          rw [h2] at q2; cases q2
        have hin : CellsIn X.P fr F ks 0 (cs ++ rs) := by
          refine ⟨fun q c h1 h2 => plain q c h1 (by simpa using h2), fun q c e h1 h2 => ?_, fun q q' t ep e c h1 h2 h3 h4 => once q q' t ep e c h1 (by simpa using h2) h3 h4⟩
          rcases (hfresh q e (by simpa using h2)).2 with hh | ⟨t', ep', k, q1, q2, q3, q4, q5, q6⟩
          · rw [h1] at hh; injection hh with hh; exact .inl hh
          · rw [h1] at q1; injection q1 with q1; exact .inr ⟨t', ep', k, q1, q2, q3, q5⟩
        have hlen := resCells_len hcs
        have hrefs : ∀ t ∈ toksOf rs, t ∈ ks := fun t ht => by
          obtain ⟨c, hc, htc⟩ := List.mem_flatMap.1 ht
          obtain ⟨q, hq⟩ := List.getElem?_of_mem hc
          have hq' : (cs ++ rs)[cs.length + q]? = some c := by rw [List.getElem?_append_right (by omega), Nat.add_sub_cancel_left]; exact hq
          refine plain _ c hq' ?_ t htc
          cases hl : look (cs.length + q) F with
          | none => rfl
          | some e =>
            have := (List.getElem?_eq_some_iff.1 (hfresh _ e hl).1).1
            omega
        obtain ⟨vs, bl, os, q1, q2, q3, q4, q5⟩ := resOut hst fn.results.toList fn.resultTypes.toList 0 cs d1 hcs hd1 hin.take (fun q e hq hl => (hfresh q e (by simpa using hl)).1) n1 fun s hs => by
          cases hp : pinOf as vals s with
          | none => exact hp
          | some a =>
            obtain ⟨j, cs', rfl, g1, g2⟩ := pinOf_some hp
            have hj : j < fn.params.size := by
              have := (List.getElem?_eq_some_iff.1 g1).1
              have := (args_get ha).1
              simp at this; omega
            exact absurd rfl (n3 _ hs _ (List.mem_map.2 ⟨j, List.mem_range.2 hj, rfl⟩))
        have hro := refsOut hst (ks := ks) ha 0 rs d2 hrs hd2 (fun j cs a g1 g2 => by simpa using pinOf_key g1 g2) hrefs
        obtain ⟨u', st'⟩ := hst.freeze ks _ rfl
        refine ⟨tupV vs, results_run q1, ⟨ImF A fr ks, vs, bl, d1, d2, rfl, rfl, q2, hro, q3.nodup q4, fun g hg o hI => ?_, hst.keep, fun k o hh => .inl (hst.eim k o hh), fun k o hh => ?_, fun k o hh => (st'.im k o hh).cell, hsc⟩⟩
        · obtain ⟨x, hx, ho, hω⟩ := q3.mem hg
          have him := st'.im g o hI
          rcases q5 x hx with ⟨s, _, rfl⟩ | ⟨q, t, ep, e, g1, g2, rfl⟩
          · exact him.nob s (ho o)
          · have g1' : (cs ++ rs)[q]? = some (.own t ep) := by rw [List.getElem?_append_left (List.getElem?_eq_some_iff.1 g1).1]; exact g1
            have g2' : look q F = some e := by simpa using g2
            rcases (hfresh q e g2').2 with hh | ⟨t', ep', k, r1, r2, r3, r4, r5, r6⟩
            · rw [g1'] at hh; injection hh with hh; cases hh
            · rw [g1'] at r1; injection r1 with r1; injection r1 with r1 _
              subst r1
              have hnk : t ∉ ks := fun hm => by
                have := (List.mem_filter.1 hm).2
                rw [decide_eq_true_eq] at this
                exact this ⟨q, ep, e, g1', g2'⟩
              have := him.tok t k (ho o) (by show upds fr.tk (freeze fr ks) t = some k; rw [upds_freeze, if_neg hnk]; exact r2) (hω t rfl)
              rw [r4] at this
              cases this.1
        · by_cases hk : k < w0.heap.size
          · exact .inl (st'.ime k o hh hk)
          · exact .inr (by omega)
      · cases h

theorem ksOf_ok {X : Env} {fn : Func} {as : List Arg} {vals : List Value} {gs : List Reg} (ha : ArgsOk X.P w0 Im as fn.params.toList vals gs) {b : Frame} {cs : List Frame} {r : List D} :
    KsOk X b cs w0 ⟨regsPl gs, Im, pinOf as vals⟩ (fun a w => ∃ v, (results fn a.tmps).run X.P w = .ok v w ∧ Post X.P (X.H X.f).fresh fn w0 Im gs r v w) r (ksOf X fn) [] :=
  ⟨fun fr w A a h hst hd => ⟨a, w, [], .one step_end, hd, ret_ok ha hst h⟩, fun i fr w A a h hst hd => (by cases h), fun fr w A a h hst hd => ret_ok ha hst h⟩

/-- The evaluator with so many calls and jumps to go. -/
def envN (P : Program) (H : FuncId → Hints) (n : Nat) (f : FuncId) : Env := ⟨P, H, fun g as => run P H n g none as ⟨[], [], []⟩, fun p l => run P H n f (some p) [] l, f⟩

theorem pins_ok {X : Env} {fn : Func} (hf : X.P.funcs[X.f]? = some fn) {as : List Arg} {vals : List Value} {gs : List Reg} {w : World} (ha : ArgsOk X.P w Im as fn.params.toList vals gs) : ∀ s a, pinOf as vals s = some a → s ∈ pinsOf X := by
  intro s a hs
  obtain ⟨j, cs, rfl, h1, h2⟩ := pinOf_some hs
  obtain ⟨t, v, g, q1, q2, q3, q4⟩ := (args_get ha).2.2 j _ h1
  cases q3 with
  | r _ _ e k o h hl h0 hr =>
    have := pinSites_mem X.P fn.params.toList 0 j t e q1 h
    simp only [pinsOf, hf]
    simpa using this

theorem run_ok {H : FuncId → Hints} (hN : NoNum P) (hm : P.follows .mixedOrders = true) : ∀ n : Nat,
    (∀ f as l r, run P H n f none as l = some r → Con P H f as r) ∧
    (∀ f p as0 l r, run P H n f (some p) as0 l = some r → ∀ fn root h c k b cs w0 Im as vals gs w A a, P.funcs[f]? = some fn → fn.body = some root → ArgsOk P w0 Im as fn.params.toList vals gs → At root p c k → look p (H f).cuts = some h →
      St fn.ntmps w0 ⟨regsPl gs, Im, pinOf as vals⟩ w A (Fr.ofLv h l) a.tmps → a.defers = [] →
      Good P b cs (fun a w => ∃ v, (results fn a.tmps).run P w = .ok v w ∧ Post P (H f).fresh fn w0 Im gs r v w) (lone (b.at a (.code c :: k)) cs w)) := by
  intro n
  induction n with
  | zero => exact ⟨fun f as l r h => (by cases h), fun f p as0 l r h => (by cases h)⟩
  | succ n ih =>
    obtain ⟨ihC, ihK⟩ := ih
    have hnt : ∀ {f fn}, P.funcs[f]? = some fn → (envN P H n f).nt = fn.ntmps := fun {f fn} hf => by simp [Env.nt, envN, hf]
    have hC : ∀ f g as r, (envN P H n f).call g as = some r → Con P H g as r := fun f g as r h => ihC g as _ r h
    refine ⟨fun f as l r h => ?_, fun f p as0 l r h fn root h' c k b cs w0 Im as vals gs w A a hf hb ha hat hl hst hd => ?_⟩
    · intro fn hf w Im vals gs ha hI
      replace h : body (envN P H n f) as = some r := h
      unfold body at h
      rw [show (envN P H n f).P.funcs[(envN P H n f).f]? = some fn from hf] at h
      simp only at h
      replace h := (bif_some h).2
      split at h
      · rename_i root fr hb he
        obtain ⟨hpin, hst⟩ := enter_st (X := envN P H n f) hf ha hI he
        intro cs
        let b : Frame := { (default : Frame) with fn := f, kind := .normal }
        let a0 : Act := { tmps := vals.toArray ++ Array.replicate (fn.ntmps - vals.toArray.size) Go.undef, defers := [] }
        have henter : Frame.enter P f vals.toArray .normal = b.at a0 [.code root] := by
          simp [Frame.enter, Frame.at, hf, hb, b, a0]
        obtain ⟨a, w', todo, hs, hd, v, hr, hpost⟩ := ev_ok (X := envN P H n f) (b := b) (cs := cs) (R := fun a w' => ∃ v, (results fn a.tmps).run P w' = .ok v w' ∧ Post P (H f).fresh fn w Im gs r v w') hN (hC f) hm (root := root) hpin
          (fun p h l c k w1 A a hat hl hk hst hd => ihK f p [] l r hk fn root h c k b cs w Im as vals gs w1 A a hf hb ha hat hl (by rw [← hnt hf]; exact hst) hd)
          root 1 fr (ksOf (envN P H n f) fn) [] w _ a0 (At.root root) h (ksOf_ok (X := envN P H n f) ha) hst rfl
        exact ⟨.returned v, w', _, ⟨v, rfl, hpost⟩, by rw [henter]; exact hs, rfl, rfl, hd, rfl, fn, hf, hr⟩
      · cases h
    · replace h : bodyAt (envN P H n f) p l = some r := h
      unfold bodyAt at h
      rw [show (envN P H n f).P.funcs[(envN P H n f).f]? = some fn from hf, show look p ((envN P H n f).H (envN P H n f).f).cuts = some h' from hl] at h
      simp only [hb] at h
      have hpin := pins_ok (X := envN P H n f) hf ha
      obtain ⟨c', k', hp, hg⟩ := evAt_ok (X := envN P H n f) (b := b) (cs := cs) (R := fun a w => ∃ v, (results fn a.tmps).run P w = .ok v w ∧ Post P (H f).fresh fn w0 Im gs r v w) hN (hC f) hm (root := root) hpin
          (fun p h l c k w1 A a hat hl hk hst hd => ihK f p [] l r hk fn root h c k b cs w0 Im as vals gs w1 A a hf hb ha hat hl (by rw [← hnt hf]; exact hst) hd)
          (bits p) root 1 _ (ksOf (envN P H n f) fn) [] w A a (At.root root) h (ksOf_ok (X := envN P H n f) ha) (by rw [hnt hf]; exact hst) hd
      rw [hat.bits] at hp
      injection hp with hp
      injection hp with e1 e2
      subst e1 e2
      exact hg

end Go.Vm
