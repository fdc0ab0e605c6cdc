/- A region whose order is drawn: any order that the edges allow gives the same frame. -/
import Derived.Test.YtgjingnobdhdfaaVmDep
set_option linter.unusedVariables false
set_option linter.unusedSimpArgs false
namespace Go.Vm

variable {w0 : World} {S : Sp} {P : Program} {X : Env}

abbrev Ent := Nat × List Nat × List Nat

/-- One operation on the frame, with what it looked at and wrote. -/
inductive StepF (X : Env) (all : Array Oper) (o : Oper) (n : Nat) : Fr → Ent → Fr → Prop
  | go {fr : Fr} {z : Eff} (h : opF X fr o some = some z) (hg : o.guard = none ∨ ∃ j want t, o.guard = some (j, want) ∧ (all[j]?).bind (·.dst) = some t ∧ fr.tm t = .one (.d (.bool want))) : StepF X all o n fr (entGo all o n z) (fr.app o.dst z)
  | no {fr : Fr} {j : Nat} {want : Bool} (hg : o.guard = some (j, want)) (hn : (all[j]?).bind (·.dst) = none ∨ ∃ t, (all[j]?).bind (·.dst) = some t ∧ (fr.tm t = .skip ∨ fr.tm t = .one (.d (.bool (!want))))) : StepF X all o n fr (entNo all o n) (fr.put o.dst .skip)

theorem upd_id {α : Type} (f : Nat → α) (k : Nat) (v : α) (h : f k = v) : upd f k v = f := by
  funext j
  by_cases hj : j = k
  · subst hj; rw [upd_same, h]
  · rw [upd_ne _ _ hj]

/-- A step on the machine. -/
theorem step_ok (hN : NoNum X.P) (hC : ∀ g as r, X.call g as = some r → Con X.P X.H g as r) {all : Array Oper} (hb : ∀ o ∈ all, ∀ d, o.dst = some d → d < X.nt) {i : Nat} {o : Oper} (ho : all[i]? = some o) {fr fr' : Fr} {e : Ent} {n : Nat} (h : StepF X all o n fr e fr')
    {w : World} {A : As} {a : Act} (hst : St X.nt w0 S w A fr a.tmps) {Q : Exit → Act → World → Prop} {K : Act → World → Prop} (hK : ∀ A' w' a', St X.nt w0 S w' A' fr' a'.tmps → a'.defers = a.defers → K a' w') : wpOp X.P all Q i K a w := by
  have hd : ∀ d, o.dst = some d → d < X.nt := hb o (Array.mem_of_getElem? ho)
  unfold wpOp
  simp only [ho]
  have hdef : ∀ v, (a.put o.dst v).defers = a.defers := fun v => by cases o.dst <;> rfl
  cases h with
  | @go z h hg =>
    have hw : Region.wanted o (yielded all a.tmps) = true := by
      rcases hg with hg | ⟨j, want, t, hg, ht, hs⟩
      · simp [Region.wanted, hg]
      · have hv := hst.tm t
        rw [hs] at hv
        rw [wanted_b hg (yield_bool ht hv.d_inv.bool_inv)]
        simp
    simp only [hw, if_true]
    obtain ⟨z', hK', hsem⟩ := opF_ok h
    have : z' = z := by have := (hK' _ some).symm.trans h; injection this
    subst this
    exact .inl (hsem w0 S w A a _ Q hN hC hd hst fun A' v w' h2 => hK A' w' _ h2 (hdef v))
  | no hg hn =>
    have hw : Region.wanted o (yielded all a.tmps) = false := by
      rcases hn with hn | ⟨t, ht, hs | hs⟩
      · exact wanted_no hg (yield_none hn)
      · have hv := hst.tm t
        rw [hs] at hv
        refine wanted_no hg (yield_undef ht ?_)
        generalize a.tmps.getD t Go.undef = u at hv
        cases hv; rfl
      · have hv := hst.tm t
        rw [hs] at hv
        rw [wanted_b hg (yield_bool ht hv.d_inv.bool_inv)]
        simp
    simp only [hw, Bool.false_eq_true, if_false]
    exact hK A w _ (hst.put o.dst .skip _ hd .skip) (hdef _)

/-- The evaluator's own order, step by step. -/
def TraceP (X : Env) (all : Array Oper) (r : List D) (l : List Oper) (fr : Fr) (acc : List Ent) (K : Fr → List Ent → R) : Prop :=
  ∃ (f : Nat → Fr) (E : Nat → Ent), f 0 = fr ∧ (∀ i o, l[i]? = some o → StepF X all o (acc.length + i) (f i) (E i) (f (i + 1))) ∧ K (f l.length) (((List.range l.length).map E).reverse ++ acc) = some r
theorem opsF_trace {all : Array Oper} {r : List D} : ∀ (l : List Oper) (fr : Fr) (acc : List Ent) (K : Fr → List Ent → R), opsF X all l fr acc K = some r →
    TraceP X all r l fr acc K
  | [], fr, acc, K, h => ⟨fun _ => fr, fun _ => (0, [], []), rfl, fun i o hi => by simp at hi, h⟩
  | o :: rest, fr, acc, K, h => by
    have fin : ∀ (e : Ent) (fr1 : Fr), StepF X all o acc.length fr e fr1 → opsF X all rest fr1 (e :: acc) K = some r →
        TraceP X all r (o :: rest) fr acc K := by
      intro e fr1 hs hh
      obtain ⟨f, E, h0, h1, h2⟩ := opsF_trace rest fr1 (e :: acc) K hh
      refine ⟨fun i => match i with | 0 => fr | i + 1 => f i, fun i => match i with | 0 => e | i + 1 => E i, rfl, fun i o' hi => ?_, ?_⟩
      · cases i with
        | zero =>
          simp only [List.getElem?_cons_zero, Option.some.injEq] at hi
          subst hi
          simp only [h0]
          exact hs
        | succ i =>
          have := h1 i o' (by simpa using hi)
          rw [List.length_cons, Nat.add_assoc, Nat.add_comm 1 i] at this
          exact this
      · rw [List.length_cons, List.range_succ_eq_map, List.map_cons, List.map_map, List.reverse_cons, List.append_assoc]
        exact h2
    unfold opsF at h
    simp only at h
    split at h
    · rename_i hg
      obtain ⟨z, hK, _⟩ := opF_ok h
      rw [hK] at h
      exact fin _ _ (.go (hK _ some) (.inl hg)) h
    · rename_i j want hg
      split at h
      · rename_i ht
        exact fin _ _ (.no hg (.inl ht)) h
      · rename_i t ht
        split at h
        · rename_i hs
          exact fin _ _ (.no hg (.inr ⟨t, ht, .inl hs⟩)) h
        · rename_i x hs
          replace h := takeB_some h; obtain ⟨b, rfl, h⟩ := h
          have e1 : ({ fr with tm := upd fr.tm t (.one (.d (.bool b))) } : Fr) = fr := by rw [upd_id _ _ _ hs]
          have go : (opF X fr o fun x => opsF X all rest (fr.app o.dst x) (entGo all o acc.length x :: acc) K) = some r → b = want → TraceP X all r (o :: rest) fr acc K := fun hh hw => by
            obtain ⟨z, hK, _⟩ := opF_ok hh
            rw [hK] at hh
            exact fin _ _ (.go (hK _ some) (.inr ⟨j, want, t, hg, ht, by rw [hs, hw]⟩)) hh
          have no : opsF X all rest (fr.put o.dst .skip) (entNo all o acc.length :: acc) K = some r → b = !want → TraceP X all r (o :: rest) fr acc K := fun hh hw =>
            fin _ _ (.no hg (.inr ⟨t, ht, .inr (by rw [hs, hw])⟩)) hh
          cases b <;> cases want <;> simp only [br, cond_true, cond_false, e1] at h
          · exact go h rfl
          · exact no h rfl
          · exact no h rfl
          · exact go h rfl
        · cases h

/-! ### What a step changes, and what it hangs on -/
def Same (k : Nat) (fr fr' : Fr) : Prop := (∀ t, k = 2 * t + 1 → fr.tm t = fr'.tm t) ∧ (∀ s, k = 4 * s → fr.bx s = fr'.bx s) ∧ (∀ t, k = 4 * t + 2 → fr.tk t = fr'.tk t)
theorem Same.refl (k : Nat) (fr : Fr) : Same k fr fr := ⟨fun _ _ => rfl, fun _ _ => rfl, fun _ _ => rfl⟩
theorem Same.symm {k : Nat} {fr fr' : Fr} (h : Same k fr fr') : Same k fr' fr := ⟨fun t e => (h.1 t e).symm, fun t e => (h.2.1 t e).symm, fun t e => (h.2.2 t e).symm⟩
theorem Same.trans {k : Nat} {a b c : Fr} (h : Same k a b) (h' : Same k b c) : Same k a c := ⟨fun t e => (h.1 t e).trans (h'.1 t e), fun t e => (h.2.1 t e).trans (h'.2.1 t e), fun t e => (h.2.2 t e).trans (h'.2.2 t e)⟩
theorem same_all {fr fr' : Fr} (h : ∀ k, Same k fr fr') : fr = fr' := by
  cases fr; cases fr'
  congr
  · funext t; exact (h (2 * t + 1)).1 t rfl
  · funext s; exact (h (4 * s)).2.1 s rfl
  · funext t; exact (h (4 * t + 2)).2.2 t rfl

theorem upds_in {α : Type} {f g : Nat → Option α} : ∀ {l : List (Nat × α)} {k : Nat}, k ∈ l.map (·.1) → upds f l k = upds g l k
  | [], k, h => by cases h
  | (j, v) :: l, k, h => by
    by_cases hj : k = j
    · subst hj; rw [upds_same, upds_same]
    · rw [upds_ne _ _ _ hj, upds_ne _ _ _ hj]
      exact upds_in (by simpa [hj] using h)
theorem upds_out {α : Type} {f : Nat → Option α} : ∀ {l : List (Nat × α)} {k : Nat}, k ∉ l.map (·.1) → upds f l k = f k
  | [], k, h => rfl
  | (j, v) :: l, k, h => by
    simp only [List.map_cons, List.mem_cons, not_or] at h
    rw [upds_ne _ _ _ h.1]
    exact upds_out h.2
theorem put_tm (fr : Fr) (d : Option Tmp) (v : V) (t : Nat) : (fr.put d v).tm t = if d = some t then v else fr.tm t := by
  cases d with
  | none => rfl
  | some e =>
    simp only [Fr.put]
    by_cases h : e = t
    · subst h; simp [upd_same]
    · rw [upd_ne _ _ (Ne.symm h), if_neg (fun q => h (Option.some.inj q))]

theorem app_same_out {fr : Fr} {all : Array Oper} {o : Oper} {n : Nat} {z : Eff} {k : Nat} (h : k ∉ (entGo all o n z).2.2) : Same k fr (fr.app o.dst z) := by
  simp only [entGo, List.mem_append, not_or] at h
  refine ⟨fun t e => ?_, fun s e => ?_, fun t e => ?_⟩
  · show fr.tm t = (fr.put o.dst z.v).tm t
    rw [put_tm, if_neg]
    intro q
    exact h.1 (List.mem_map.2 ⟨t, by rw [q]; simp, e.symm⟩)
  · show fr.bx s = upds fr.bx z.bx s
    rw [upds_out]
    intro q
    obtain ⟨x, hx, hxs⟩ := List.mem_map.1 q
    exact h.2.1 (List.mem_map.2 ⟨x, hx, by rw [hxs]; exact e.symm⟩)
  · show fr.tk t = upds fr.tk z.tk t
    rw [upds_out]
    intro q
    obtain ⟨x, hx, hxs⟩ := List.mem_map.1 q
    exact h.2.2 (List.mem_map.2 ⟨x, hx, by rw [hxs]; exact e.symm⟩)
theorem app_same_in {fr g : Fr} {all : Array Oper} {o : Oper} {n : Nat} {z : Eff} {k : Nat} (h : k ∈ (entGo all o n z).2.2) : Same k (g.app o.dst z) (fr.app o.dst z) := by
  simp only [entGo, List.mem_append, List.mem_map] at h
  refine ⟨fun t e => ?_, fun s e => ?_, fun t e => ?_⟩
  · show (g.put o.dst z.v).tm t = (fr.put o.dst z.v).tm t
    rw [put_tm, put_tm]
    rcases h with ⟨d, hd, he⟩ | ⟨x, hx, he⟩ | ⟨x, hx, he⟩
    · replace he : 2 * d + 1 = k := he
      have : d = t := Nat.eq_of_mul_eq_mul_left (by decide : 0 < 2) (Nat.succ.inj (he.trans e))
      subst this
      have : o.dst = some d := by simpa using hd
      rw [if_pos this, if_pos this]
    · omega
    · omega
  · show upds g.bx z.bx s = upds fr.bx z.bx s
    rcases h with ⟨d, hd, he⟩ | ⟨x, hx, he⟩ | ⟨x, hx, he⟩
    · omega
    · exact upds_in (List.mem_map.2 ⟨x, hx, by omega⟩)
    · omega
  · show upds g.tk z.tk t = upds fr.tk z.tk t
    rcases h with ⟨d, hd, he⟩ | ⟨x, hx, he⟩ | ⟨x, hx, he⟩
    · omega
    · omega
    · exact upds_in (List.mem_map.2 ⟨x, hx, by omega⟩)

theorem looks_guard {all : Array Oper} {o : Oper} {j : Nat} {want : Bool} {t : Nat} (hg : o.guard = some (j, want)) (ht : (all[j]?).bind (·.dst) = some t) : t ∈ o.looksAt all := by
  unfold Oper.looksAt
  rw [hg]
  exact List.mem_append_right _ (by simp [ht])
theorem looks_op {all : Array Oper} {o : Oper} {t : Nat} (h : .tmp t ∈ o.op.operands.toList) : t ∈ o.looksAt all := by
  unfold Oper.looksAt
  exact List.mem_append_left _ (List.mem_filterMap.2 ⟨.tmp t, h, rfl⟩)

/-- The same step from a frame that looks alike. -/
theorem StepF.alike {all : Array Oper} {o : Oper} {n : Nat} {fr fr' g : Fr} {e : Ent} (h : StepF X all o n fr e fr') (hs : ∀ k ∈ e.2.1, Same k g fr) : ∃ g', StepF X all o n g e g' ∧ (∀ k, k ∈ e.2.2 → Same k g' fr') ∧ ∀ k, k ∉ e.2.2 → Same k g' g := by
  cases h with
  | @go z h hg =>
    have htm : ∀ t, t ∈ o.looksAt all → g.tm t = fr.tm t := fun t ht => (hs (2 * t + 1) (List.mem_append_left _ (List.mem_map.2 ⟨t, ht, rfl⟩))).1 t rfl
    have h' : opF X g o some = some z := by
      refine opF_dep h (fun x hx => ?_) ⟨fun s hk => ?_, fun t hk => ?_⟩
      · cases x with
        | tmp t => exact htm t (looks_op hx)
        | _ => rfl
      · exact (hs (2 * (2 * s)) (List.mem_append_right _ (List.mem_map.2 ⟨_, hk, rfl⟩))).2.1 s (by omega)
      · exact (hs (2 * (2 * t + 1)) (List.mem_append_right _ (List.mem_map.2 ⟨_, hk, rfl⟩))).2.2 t (by omega)
    refine ⟨g.app o.dst z, .go h' ?_, fun k hk => app_same_in hk, fun k hk => (app_same_out hk).symm⟩
    rcases hg with hg | ⟨j, want, t, hg, ht, hv⟩
    · exact .inl hg
    · exact .inr ⟨j, want, t, hg, ht, by rw [htm t (looks_guard hg ht)]; exact hv⟩
  | @no j want hg hn =>
    have htm : ∀ t, t ∈ o.looksAt all → g.tm t = fr.tm t := fun t ht => (hs (2 * t + 1) (List.mem_map.2 ⟨t, ht, rfl⟩)).1 t rfl
    refine ⟨g.put o.dst .skip, .no hg ?_, fun k hk => ?_, fun k hk => ?_⟩
    · rcases hn with hn | ⟨t, ht, hv⟩
      · exact .inl hn
      · refine .inr ⟨t, ht, ?_⟩
        rw [htm t (looks_guard hg ht)]; exact hv
    · obtain ⟨d, hd, he⟩ := List.mem_map.1 hk
      refine ⟨fun t e => ?_, fun s e => ?_, fun t e => ?_⟩
      · rw [put_tm, put_tm]
        have : d = t := Nat.eq_of_mul_eq_mul_left (by decide : 0 < 2) (Nat.succ.inj (he.trans e))
        subst this
        have : o.dst = some d := by simpa using hd
        rw [if_pos this, if_pos this]
      · omega
      · omega
    · refine ⟨fun t e => ?_, fun s e => by simp, fun t e => by simp⟩
      rw [put_tm, if_neg]
      intro q
      exact hk (List.mem_map.2 ⟨t, by rw [q]; simp, e.symm⟩)
theorem StepF.out {all : Array Oper} {o : Oper} {n : Nat} {fr fr' : Fr} {e : Ent} (h : StepF X all o n fr e fr') {k : Nat} (hk : k ∉ e.2.2) : Same k fr' fr := by
  obtain ⟨g', h1, h2, h3⟩ := h.alike (g := fr) fun k _ => Same.refl k fr
  cases h with
  | go h hg => exact (app_same_out hk).symm
  | no hg hn =>
    refine ⟨fun t e => ?_, fun s e => by simp, fun t e => by simp⟩
    rw [put_tm, if_neg]
    intro q
    exact hk (List.mem_map.2 ⟨t, by rw [q]; simp, e.symm⟩)
theorem StepF.idx {all : Array Oper} {o : Oper} {n : Nat} {fr fr' : Fr} {e : Ent} (h : StepF X all o n fr e fr') : e.1 = n := by cases h <;> rfl

/-! ### What must come before -/
inductive Reach (ops : Array Oper) : Nat → Nat → Prop
  | one {i : Nat} {o : Oper} {e : Edge} (ho : ops[i]? = some o) (he : e ∈ o.after) (hb : Region.binds .any e = true) : Reach ops i e.on
  | more {i j : Nat} {o : Oper} {e : Edge} (ho : ops[i]? = some o) (he : e ∈ o.after) (hb : Region.binds .any e = true) (h : Reach ops e.on j) : Reach ops i j

theorem fold_bits {ops : Array Oper} {i : Nat} {o : Oper} (ho : ops[i]? = some o) {acc : List Nat} (hacc : ∀ i m, acc[i]? = some m → ∀ j, m.testBit j = true → Reach ops i j) : ∀ (es : List Edge) (s : Nat), (∀ e ∈ es, e ∈ o.after) → (∀ j, s.testBit j = true → Reach ops i j) →
    ∀ j, (es.foldl (fun s e => bif Region.binds .any e then s ||| 2 ^ e.on ||| acc.getD e.on 0 else s) s).testBit j = true → Reach ops i j
  | [], s, _, hs, j, h => hs j h
  | e :: es, s, he, hs, j, h => by
    rw [List.foldl_cons] at h
    refine fold_bits ho hacc es _ (fun e' h' => he e' (List.mem_cons_of_mem _ h')) (fun q hq => ?_) j h
    cases hb : Region.binds .any e with
    | false => rw [hb, cond_false] at hq; exact hs q hq
    | true =>
      rw [hb, cond_true, Nat.testBit_or, Nat.testBit_or, Nat.testBit_two_pow, Bool.or_eq_true, Bool.or_eq_true, decide_eq_true_eq] at hq
      rcases hq with (hq | hq) | hq
      · exact hs q hq
      · subst hq; exact .one ho (he e List.mem_cons_self) hb
      · cases hm : acc[e.on]? with
        | none => simp [List.getD, hm] at hq
        | some m =>
          simp only [List.getD, hm, Option.getD_some] at hq
          exact .more ho (he e List.mem_cons_self) hb (hacc _ m hm q hq)
theorem befs_ok {ops : Array Oper} : ∀ (l : List Oper) (acc : List Nat), (∀ q, l[q]? = ops[acc.length + q]?) → (∀ i m, acc[i]? = some m → ∀ j, m.testBit j = true → Reach ops i j) → ∀ i m, (befs l acc)[i]? = some m → ∀ j, m.testBit j = true → Reach ops i j
  | [], acc, _, h, i, m, hm, j, hj => h i m hm j hj
  | o :: os, acc, hl, h, i, m, hm, j, hj => by
    have ho : ops[acc.length]? = some o := by have := hl 0; simpa using this.symm
    refine befs_ok os _ (fun q => ?_) (fun i' m' hm' j' hj' => ?_) i m hm j hj
    · have := hl (q + 1)
      simp only [List.getElem?_cons_succ] at this
      rw [this]
      congr 1
      simp; omega
    · by_cases hi : i' < acc.length
      · rw [List.getElem?_append_left hi] at hm'
        exact h i' m' hm' j' hj'
      · have hi' : i' = acc.length := by
          have := (List.getElem?_eq_some_iff.1 hm').1
          simp at this; omega
        subst hi'
        rw [List.getElem?_append_right (Nat.le_refl _), Nat.sub_self, List.getElem?_cons_zero, Option.some.injEq] at hm'
        subst hm'
        exact fold_bits ho h _ 0 (fun e he => Array.mem_toList_iff.1 he) (fun j hj => by simp at hj) j' hj'
theorem edges_ok : ∀ (l : List Oper) (k : Nat), edgesOk k l = true → ∀ q o, l[q]? = some o → ∀ e ∈ o.after, Region.binds .any e = true → e.on < k + q
  | [], k, _, q, o, h, _, _, _ => by simp at h
  | x :: l, k, hk, q, o, h, e, he, hb => by
    simp only [edgesOk, Bool.and_eq_true] at hk
    cases q with
    | zero =>
      simp only [List.getElem?_cons_zero, Option.some.injEq] at h
      subst h
      have := List.all_eq_true.1 hk.1 e (Array.mem_toList_iff.2 he)
      rw [hb] at this
      simp only [Bool.not_true, Bool.false_or] at this
      have := Nat.le_of_ble_eq_true this
      omega
    | succ q =>
      have := edges_ok l (k + 1) hk.2 q o (by simpa using h) e he hb
      omega
theorem order_ok {bef : List Nat} : ∀ (l : List Ent), orderOk bef l = true → ∀ (p q : Nat) (x y : Ent), l[p]? = some x → l[q]? = some y → p < q → ((bef.getD x.1 0).testBit y.1 || apartB x y) = true
  | [], _, p, q, x, y, h, _, _ => by simp at h
  | z :: l, hl, p, q, x, y, hx, hy, hpq => by
    simp only [orderOk, Bool.and_eq_true] at hl
    cases q with
    | zero => omega
    | succ q =>
      cases p with
      | zero =>
        simp only [List.getElem?_cons_zero, Option.some.injEq] at hx
        subst hx
        exact List.all_eq_true.1 hl.1 y (List.mem_of_getElem? (by simpa using hy))
      | succ p => exact order_ok l hl.2 p q x y (by simpa using hx) (by simpa using hy) (by omega)
theorem apart_ok {a b : Ent} (h : apartB a b = true) : (∀ k ∈ a.2.2, k ∉ b.2.1 ∧ k ∉ b.2.2) ∧ ∀ k ∈ b.2.2, k ∉ a.2.1 := by
  unfold apartB at h
  simp only [Bool.and_eq_true, Bool.not_eq_true', List.any_eq_false, Bool.or_eq_true, not_or, Bool.not_eq_true] at h
  have beq : ∀ {k : Nat} {l : List Nat}, (∀ x ∈ l, k.beq x = false) → k ∉ l := fun {k l} hh hm => by
    have := hh k hm
    rw [Nat.beq_refl] at this; cases this
  exact ⟨fun k hk => ⟨beq (h.1 k hk).1, beq (h.1 k hk).2⟩, fun k hk => beq (h.2 k hk)⟩

theorem len_le : ∀ (n : Nat) (l : List Nat), l.Nodup → (∀ x ∈ l, x < n) → l.length ≤ n
  | 0, l, _, h => by
    cases l with
    | nil => simp
    | cons x l => have := h x List.mem_cons_self; omega
  | n + 1, l, hd, h => by
    have := len_le n (l.erase n) (hd.erase n) fun x hx => by
      have h1 := h x (List.mem_of_mem_erase hx)
      have h2 : x ≠ n := ((List.Nodup.mem_erase_iff hd).1 hx).1
      omega
    by_cases hm : n ∈ l
    · rw [List.length_erase_of_mem hm] at this; omega
    · rw [List.erase_of_not_mem hm] at this; omega

/-! ### Any order -/
structure Tr (X : Env) (ops : Array Oper) (f : Nat → Fr) (E : Nat → Ent) : Prop where
  step : ∀ i o, ops[i]? = some o → StepF X ops o i (f i) (E i) (f (i + 1))
  con : ∀ i j, j < i → i < ops.size → Reach ops i j ∨ ((∀ k ∈ (E i).2.2, k ∉ (E j).2.1 ∧ k ∉ (E j).2.2) ∧ ∀ k ∈ (E j).2.2, k ∉ (E i).2.1)
  edge : ∀ i o, ops[i]? = some o → ∀ e ∈ o.after, Region.binds .any e = true → e.on < i
structure Dn (ops : Array Oper) (L : List Nat) : Prop where
  lt : ∀ i ∈ L, i < ops.size
  dn : ∀ i ∈ L, ∀ o, ops[i]? = some o → ∀ e ∈ o.after, Region.binds .any e = true → e.on ∈ L
def Inv (f : Nat → Fr) (E : Nat → Ent) (L : List Nat) (g : Fr) : Prop := ∀ k, ((∀ i ∈ L, k ∉ (E i).2.2) ∧ Same k g (f 0)) ∨ ∃ i ∈ L, k ∈ (E i).2.2 ∧ (∀ j ∈ L, k ∈ (E j).2.2 → j ≤ i) ∧ Same k g (f (i + 1))

section any
variable {ops : Array Oper} {f : Nat → Fr} {E : Nat → Ent} {L : List Nat} {g : Fr}
theorem Dn.reach (d : Dn ops L) {i j : Nat} (h : Reach ops i j) (hi : i ∈ L) : j ∈ L := by
  induction h with
  | one ho he hb => exact d.dn _ hi _ ho _ he hb
  | more ho he hb h ih => exact ih (d.dn _ hi _ ho _ he hb)
theorem Dn.reach' (d : Dn ops L) {i j : Nat} {o : Oper} (ho : ops[i]? = some o) (hp : ∀ e ∈ o.after, Region.binds .any e = true → e.on ∈ L) (h : Reach ops i j) : j ∈ L := by
  cases h with
  | one ho' he hb => rw [ho] at ho'; injection ho' with ho'; subst ho'; exact hp _ he hb
  | more ho' he hb h => rw [ho] at ho'; injection ho' with ho'; subst ho'; exact d.reach h (hp _ he hb)
theorem Tr.between (t : Tr X ops f E) {k a : Nat} : ∀ {b : Nat}, a ≤ b → b ≤ ops.size → (∀ i, a ≤ i → i < b → k ∉ (E i).2.2) → Same k (f b) (f a)
  | 0, h, _, _ => by have : a = 0 := by omega
                     subst this; exact Same.refl _ _
  | b + 1, h, hb, hw => by
    by_cases ha : a = b + 1
    · subst ha; exact Same.refl _ _
    · have ho : ops[b]? = some ops[b] := Array.getElem?_eq_getElem (by omega)
      exact ((t.step b _ ho).out (hw b (by omega) (by omega))).trans (t.between (by omega) (by omega) fun i h1 h2 => hw i h1 (by omega))

theorem Tr.look (t : Tr X ops f E) (d : Dn ops L) (inv : Inv f E L g) {i : Nat} {o : Oper} (ho : ops[i]? = some o) (hn : i ∉ L) (hp : ∀ e ∈ o.after, Region.binds .any e = true → e.on ∈ L) {k : Nat} (hk : k ∈ (E i).2.1 ∨ k ∈ (E i).2.2) :
    (∀ j ∈ L, k ∈ (E j).2.2 → j < i) ∧ Same k g (f i) := by
  have hi : i < ops.size := (Array.getElem?_eq_some_iff.1 ho).1
  have A : ∀ j, j < i → k ∈ (E j).2.2 → j ∈ L := fun j hj hw => by
    rcases t.con i j hj hi with h | ⟨h1, h2⟩
    · exact d.reach' ho hp h
    · rcases hk with hk | hk
      · exact absurd hk (h2 k hw)
      · exact absurd hw (h1 k hk).2
  have B : ∀ j ∈ L, k ∈ (E j).2.2 → j < i := fun j hj hw => by
    rcases Nat.lt_trichotomy j i with h | h | h
    · exact h
    · subst h; exact absurd hj hn
    · rcases t.con j i h (d.lt j hj) with h | ⟨h1, h2⟩
      · exact absurd (d.reach h hj) hn
      · rcases hk with hk | hk
        · exact absurd hk (h1 k hw).1
        · exact absurd hk (h1 k hw).2
  refine ⟨B, ?_⟩
  rcases inv k with ⟨h1, h2⟩ | ⟨i0, h1, h2, h3, h4⟩
  · exact h2.trans (t.between (Nat.zero_le _) (by omega) fun j _ hj hw => h1 j (A j hj hw) hw).symm
  · have := B i0 h1 h2
    exact h4.trans (t.between (by omega) (by omega) fun j hj1 hj2 hw => by have := h3 j (A j hj2 hw) hw; omega).symm

theorem Tr.fin (t : Tr X ops f E) (inv : Inv f E L g) (d : Dn ops L) (h : ∀ i, i < ops.size → i ∈ L) : g = f ops.size := by
  refine same_all fun k => ?_
  rcases inv k with ⟨h1, h2⟩ | ⟨i0, h1, h2, h3, h4⟩
  · exact h2.trans (t.between (Nat.zero_le _) (Nat.le_refl _) fun j _ hj => h1 j (h j hj)).symm
  · have := d.lt i0 h1
    exact h4.trans (t.between (by omega) (Nat.le_refl _) fun j hj1 hj2 hw => by have := h3 j (h j hj2) hw; omega).symm

theorem any_ok (hN : NoNum X.P) (hC : ∀ g as r, X.call g as = some r → Con X.P X.H g as r) (hb : ∀ o ∈ ops, ∀ d, o.dst = some d → d < X.nt) (t : Tr X ops f E) {Q : Exit → Act → World → Prop} {df : List Deferred}
    (hQ : ∀ w' A' a', St X.nt w0 S w' A' (f ops.size) a'.tmps → a'.defers = df → Q .normal a' w') :
    ∀ (fuel : Nat) (L : List Nat) (listed : Array Bool) (g : Fr) (w : World) (A : As) (a : Act), listed.size = ops.size → (∀ i, i < ops.size → (listed.getD i false = true ↔ i ∈ L)) → L.Nodup → L.length + fuel = ops.size → Dn ops L → Inv f E L g →
      St X.nt w0 S w A g a.tmps → a.defers = df → wpAny X.P .any ops Q fuel listed a w := by
  have gd : ∀ {listed : Array Bool} {i : Nat}, listed.size = ops.size → i < ops.size → (listed.getD i true = false ↔ ¬ listed.getD i false = true) := fun {listed i} hs hi => by
    simp [hs, hi]
  have rdy : ∀ {listed : Array Bool} {L : List Nat}, listed.size = ops.size → (∀ i, i < ops.size → (listed.getD i false = true ↔ i ∈ L)) → Region.ready .any ops listed = [] → ∀ i, i < ops.size → i ∈ L := by
    intro listed L hs hl hr i
    induction i using Nat.strongRecOn with
    | _ i ih =>
      intro hi
      by_cases hm : i ∈ L
      · exact hm
      · have ho : ops[i]? = some ops[i] := Array.getElem?_eq_getElem hi
        have : i ∈ Region.ready .any ops listed := mem_ready.2 ⟨(gd hs hi).2 fun h => hm ((hl i hi).1 h), _, ho, fun e he hb => by
          have := t.edge i _ ho e he hb
          exact (hl e.on (by omega)).2 (ih e.on this (by omega))⟩
        rw [hr] at this; cases this
  intro fuel
  induction fuel with
  | zero =>
    intro L listed g w A a hs hl hn hlen d inv hst hdf
    have all : ∀ i, i < ops.size → i ∈ L := fun i hi => by
      by_cases hm : i ∈ L
      · exact hm
      · have := len_le ops.size (i :: L) (List.nodup_cons.2 ⟨hm, hn⟩) fun x hx => by
          rcases List.mem_cons.1 hx with rfl | hx
          · exact hi
          · exact d.lt x hx
        simp at this; omega
    refine ⟨?_, ?_⟩
    · cases hr : Region.ready .any ops listed with
      | nil => rfl
      | cons x xs =>
        have hx : x ∈ Region.ready .any ops listed := by rw [hr]; exact List.mem_cons_self
        obtain ⟨h1, o, ho, _⟩ := mem_ready.1 hx
        have hxi := (Array.getElem?_eq_some_iff.1 ho).1
        exact absurd ((hl x hxi).2 (all x hxi)) ((gd hs hxi).1 h1)
    · have := t.fin inv d all
      subst this
      exact hQ w A a hst hdf
  | succ fuel ih =>
    intro L listed g w A a hs hl hn hlen d inv hst hdf
    refine ⟨fun hr => ?_, fun i hi => ?_⟩
    · have := t.fin inv d (rdy hs hl hr)
      subst this
      exact hQ w A a hst hdf
    · obtain ⟨h1, o, ho, hp⟩ := mem_ready.1 hi
      have hii := (Array.getElem?_eq_some_iff.1 ho).1
      have hnL : i ∉ L := fun hm => (gd hs hii).1 h1 ((hl i hii).2 hm)
      have hp' : ∀ e ∈ o.after, Region.binds .any e = true → e.on ∈ L := fun e he hb => (hl e.on (by have := t.edge i o ho e he hb; omega)).1 (hp e he hb)
      obtain ⟨g', hstep, hin, hout⟩ := (t.step i o ho).alike (g := g) fun k hk => (t.look d inv ho hnL hp' (.inl hk)).2
      refine step_ok hN hC hb ho hstep hst fun A' w' a' hst' hd' => ?_
      refine ih (i :: L) _ g' w' A' a' (by simp [hs]) (fun j hj => ?_) (List.nodup_cons.2 ⟨hnL, hn⟩) (by simp; omega) ⟨fun j hj => ?_, fun j hj o' ho' e he hb => ?_⟩ (fun k => ?_) hst' (hd'.trans hdf)
      · by_cases hij : i = j
        · subst hij; simp [hs, hii]
        · rw [getD_set_ne false hij, hl j hj]
          simp [Ne.symm hij]
      · rcases List.mem_cons.1 hj with rfl | hj
        · exact hii
        · exact d.lt j hj
      · rcases List.mem_cons.1 hj with rfl | hj
        · rw [ho] at ho'; injection ho' with ho'; subst ho'
          exact List.mem_cons_of_mem _ (hp' e he hb)
        · exact List.mem_cons_of_mem _ (d.dn j hj o' ho' e he hb)
      · by_cases hk : k ∈ (E i).2.2
        · have hlk := (t.look d inv ho hnL hp' (.inr hk)).1
          refine .inr ⟨i, List.mem_cons_self, hk, fun j hj hw => ?_, hin k hk⟩
          rcases List.mem_cons.1 hj with rfl | hj
          · exact Nat.le_refl _
          · exact Nat.le_of_lt (hlk j hj hw)
        · rcases inv k with ⟨q1, q2⟩ | ⟨i0, q1, q2, q3, q4⟩
          · refine .inl ⟨fun j hj => ?_, (hout k hk).trans q2⟩
            rcases List.mem_cons.1 hj with rfl | hj
            · exact hk
            · exact q1 j hj
          · refine .inr ⟨i0, List.mem_cons_of_mem _ q1, q2, fun j hj hw => ?_, (hout k hk).trans q4⟩
            rcases List.mem_cons.1 hj with rfl | hj
            · exact absurd hw hk
            · exact q3 j hj hw
end any

theorem draw_ok (hN : NoNum X.P) (hC : ∀ g as r, X.call g as = some r → Con X.P X.H g as r) {ops : Array Oper} (hb : ∀ o ∈ ops, ∀ d, o.dst = some d → d < X.nt) {fr : Fr} {K : Fr → R} {r : List D}
    (h : regionF X ops true fr K = some r) {w : World} {A : As} {a : Act} (hst : St X.nt w0 S w A fr a.tmps) {Q : Exit → Act → World → Prop}
    (hQ : ∀ fr' w' A' a', K fr' = some r → St X.nt w0 S w' A' fr' a'.tmps → a'.defers = a.defers → Q .normal a' w') : wpAny X.P .any ops Q ops.size (Array.replicate ops.size false) a w := by
  unfold regionF at h
  replace h := (bif_some h).2
  obtain ⟨f, E, h0, h1, h2⟩ := opsF_trace ops.toList fr [] _ h
  simp only [cond_true, List.append_nil] at h2
  replace h2 := bif_some h2; obtain ⟨hc, h2⟩ := h2
  simp only [Bool.and_eq_true] at hc
  simp only [Array.length_toList] at h2
  have hst1 : ∀ i o, ops[i]? = some o → StepF X ops o i (f i) (E i) (f (i + 1)) := fun i o ho => by
    have := h1 i o (by simpa using ho)
    simpa using this
  have t : Tr X ops f E := by
    refine ⟨hst1, fun i j hij hi => ?_, fun i o ho e he hb => ?_⟩
    · have get : ∀ q, q < ops.size → (((List.range ops.toList.length).map E).reverse)[ops.size - 1 - q]? = some (E q) := fun q hq => by
        rw [List.getElem?_reverse (by simp; omega)]
        simp only [List.length_map, List.length_range, Array.length_toList]
        rw [show ops.size - 1 - (ops.size - 1 - q) = q by omega]
        simp [hq]
      have := order_ok _ hc.2 _ _ _ _ (get i hi) (get j (by omega)) (by omega)
      have ei : (E i).1 = i := (hst1 i _ (Array.getElem?_eq_getElem hi)).idx
      have ej : (E j).1 = j := (hst1 j _ (Array.getElem?_eq_getElem (by omega))).idx
      rw [ei, ej, Bool.or_eq_true] at this
      rcases this with hh | hh
      · left
        cases hm : (befs ops.toList [])[i]? with
        | none => simp [List.getD, hm] at hh
        | some m =>
          simp only [List.getD, hm, Option.getD_some] at hh
          exact befs_ok ops.toList [] (fun q => by simp) (fun i m hm => by simp at hm) i m hm j hh
      · exact .inr (apart_ok hh)
    · have := edges_ok ops.toList 0 hc.1 i o (by simpa using ho) e he hb
      omega
  subst h0
  exact any_ok hN hC hb t (df := a.defers) (fun w' A' a' h1 h3 => hQ _ w' A' a' h2 h1 h3) ops.size [] _ (f 0) w A a (by simp) (fun i hi => by simp [hi]) List.nodup_nil (by simp) ⟨fun i hi => (by cases hi), fun i hi => (by cases hi)⟩
    (fun k => .inl ⟨fun i hi => (by cases hi), Same.refl _ _⟩) hst rfl

end Go.Vm
