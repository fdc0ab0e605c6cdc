/- Entering a function. -/
import Derived.Test.YtgjingnobdhdfaaVmRun
set_option linter.unusedVariables false
set_option linter.unusedSimpArgs false
namespace Go.Vm

variable {nt : Nat} {w0 : World} {S : Sp} {w : World} {A : As} {fr : Fr} {P : Program}

theorem key_inj {i j : Nat} (h : key i 0 = key j 0) : i = j := by unfold key at h; omega
theorem key_div (j : Nat) : key j 0 / 1024 = j := by unfold key; omega
theorem key_mod (j : Nat) : key j 0 % 1024 = 0 := by unfold key; omega

theorem enterF_spec {X : Env} : ∀ (as : List Arg) (ts : List TypeId) (i : Nat) (fr fr' : Fr), enterF X i as ts fr = some fr' →
    as.length = ts.length ∧ fr'.tk = fr.tk ∧ (∀ t, t < i ∨ i + as.length ≤ t → fr'.tm t = fr.tm t) ∧
    (∀ j cs t, as[j]? = some (.v cs) → ts[j]? = some t → fr'.tm (i + j) = V.ofCells (isAggT X.P t) (cs.map .d)) ∧
    (∀ j cs, as[j]? = some (.r cs) → fr'.tm (i + j) = .one (.ptr (key (i + j) 0) 0 0) ∧ fr'.bx (key (i + j) 0) = some ⟨0, cs.map .d⟩) ∧
    (∀ s b, fr'.bx s = some b → fr.bx s = some b ∨ ∃ j cs, as[j]? = some (.r cs) ∧ s = key (i + j) 0 ∧ b = ⟨0, cs.map .d⟩) ∧ (∀ s, (∀ j, s ≠ key (i + j) 0) → fr'.bx s = fr.bx s)
  | [], [], i, fr, fr', h => by
    simp only [enterF, Option.some.injEq] at h
    subst h
    exact ⟨rfl, rfl, fun _ _ => rfl, fun j cs t h => by simp at h, fun j cs h => by simp at h, fun s b h => .inl h, fun _ _ => rfl⟩
  | [], t :: ts, i, fr, fr', h => by simp [enterF] at h
  | a :: as, [], i, fr, fr', h => by cases a <;> simp [enterF] at h
  | .v cs :: as, t :: ts, i, fr, fr', h => by
    simp only [enterF] at h
    replace h := (bif_some h).2
    obtain ⟨h1, h2, h3, h4, h5, h6, h7⟩ := enterF_spec as ts (i + 1) _ fr' h
    refine ⟨by simp [h1], h2, fun t ht => ?_, fun j cs' t' ha ht => ?_, fun j cs' ha => ?_, fun s b hb => ?_, fun s hs => h7 s fun j => by have := hs (j + 1); rwa [← Nat.add_assoc, Nat.add_right_comm] at this⟩
    · rw [h3 t (by simp only [List.length_cons] at ht; omega)]
      exact upd_ne _ _ (by simp only [List.length_cons] at ht; omega)
    · cases j with
      | zero =>
        simp only [List.getElem?_cons_zero, Option.some.injEq, Arg.v.injEq] at ha ht
        subst ha ht
        rw [h3 (i + 0) (by omega)]
        exact upd_same _ _ _
      | succ j =>
        have := h4 j cs' t' (by simpa using ha) (by simpa using ht)
        rwa [Nat.add_right_comm] at this
    · cases j with
      | zero => simp at ha
      | succ j =>
        have := h5 j cs' (by simpa using ha)
        rwa [Nat.add_right_comm] at this
    · rcases h6 s b hb with hh | ⟨j, cs', q1, q2, q3⟩
      · exact .inl hh
      · exact .inr ⟨j + 1, cs', by simpa using q1, by rw [q2, Nat.add_right_comm]; rfl, q3⟩
  | .r cs :: as, t :: ts, i, fr, fr', h => by
    simp only [enterF] at h
    split at h
    · replace h := (bif_some h).2
      obtain ⟨h1, h2, h3, h4, h5, h6, h7⟩ := enterF_spec as ts (i + 1) _ fr' h
      refine ⟨by simp [h1], h2, fun t ht => ?_, fun j cs' t' ha ht => ?_, fun j cs' ha => ?_, fun s b hb => ?_, fun s hs => ?_⟩
      · rw [h3 t (by simp only [List.length_cons] at ht; omega)]
        exact upd_ne _ _ (by simp only [List.length_cons] at ht; omega)
      · cases j with
        | zero => simp at ha
        | succ j =>
          have := h4 j cs' t' (by simpa using ha) (by simpa using ht)
          rwa [Nat.add_right_comm] at this
      · cases j with
        | zero =>
          simp only [List.getElem?_cons_zero, Option.some.injEq, Arg.r.injEq] at ha
          subst ha
          refine ⟨?_, ?_⟩
          · rw [h3 (i + 0) (by omega)]; exact upd_same _ _ _
          · rw [h7 (key (i + 0) 0) fun j e => by have := key_inj e; omega]; exact upd_same _ _ _
        | succ j =>
          have := h5 j cs' (by simpa using ha)
          rwa [Nat.add_right_comm] at this
      · rcases h6 s b hb with hh | ⟨j, cs', q1, q2, q3⟩
        · by_cases hs : s = key i 0
          · subst hs
            rw [show ({ fr with tm := upd fr.tm i (.one (.ptr (key i 0) 0 0)), bx := upd fr.bx (key i 0) (some ⟨0, cs.map .d⟩) } : Fr).bx (key i 0) = _ from upd_same _ _ _] at hh
            injection hh with hh
            exact .inr ⟨0, cs, rfl, rfl, hh.symm⟩
          · exact .inl ((upd_ne _ _ hs).symm.trans hh)
        · exact .inr ⟨j + 1, cs', by simpa using q1, by rw [q2, Nat.add_right_comm]; rfl, q3⟩
      · rw [h7 s fun j => by have := hs (j + 1); rwa [← Nat.add_assoc, Nat.add_right_comm] at this]
        exact upd_ne _ _ (hs 0)
    · cases h

variable {Im : Pl}
theorem args_get : ∀ {as : List Arg} {ts : List TypeId} {vs : List Value} {gs : List Reg}, ArgsOk P w Im as ts vs gs → as.length = ts.length ∧ vs.length = ts.length ∧ ∀ (j : Nat) (a : Arg), as[j]? = some a → ∃ t v g, ts[j]? = some t ∧ vs[j]? = some v ∧ ArgOk P w Im a t v g ∧ ∀ k o, regsPl g k o → regsPl gs k o
  | _, _, _, _, .nil => ⟨rfl, rfl, fun j a h => by simp at h⟩
  | _, _, _, _, .cons (gs := g1) h hs dis => by
    obtain ⟨h1, h2, h3⟩ := args_get hs
    refine ⟨by simp [h1], by simp [h2], fun j a ha => ?_⟩
    cases j with
    | zero =>
      simp only [List.getElem?_cons_zero, Option.some.injEq] at ha
      subst ha
      exact ⟨_, _, _, rfl, rfl, h, fun k o ⟨x, hx, hh⟩ => ⟨x, List.mem_append_left _ hx, hh⟩⟩
    | succ j =>
      obtain ⟨t, v, g, q1, q2, q3, q4⟩ := h3 j a (by simpa using ha)
      exact ⟨t, v, g, by simpa using q1, by simpa using q2, q3, fun k o hh => by obtain ⟨x, hx, hh⟩ := q4 k o hh; exact ⟨x, List.mem_append_right _ hx, hh⟩⟩

/-- A place of what argument 'j' leads to. -/
def RegAt (as : List Arg) (vs : List Value) (j k o : Nat) : Prop := ∃ cs a, as[j]? = some (.r cs) ∧ vs[j]? = some (.pointer (some a)) ∧ k = a.block ∧ a.off ≤ o ∧ o < a.off + cs.length
theorem args_reg {as : List Arg} {ts : List TypeId} {vs : List Value} {gs : List Reg} (h : ArgsOk P w Im as ts vs gs) {j k o : Nat} (hr : RegAt as vs j k o) : regsPl gs k o := by
  obtain ⟨cs, a, h1, h2, h3, h4, h5⟩ := hr
  obtain ⟨t, v, g, q1, q2, q3, q4⟩ := (args_get h).2.2 j _ h1
  rw [h2] at q2; injection q2 with q2; subst q2
  cases q3
  exact q4 _ _ ⟨_, List.mem_cons_self, h3, h4, h5⟩
theorem args_dis : ∀ {as : List Arg} {ts : List TypeId} {vs : List Value} {gs : List Reg}, ArgsOk P w Im as ts vs gs → ∀ {j j' k o : Nat}, RegAt as vs j k o → RegAt as vs j' k o → j = j'
  | _, _, _, _, .nil, j, j', k, o, h, _ => by obtain ⟨cs, a, h1, _⟩ := h; simp at h1
  | _, _, _, _, .cons (a := a) (v := v) (gs := g1) (as := as) (vs := vs) h hs dis, j, j', k, o, h1, h2 => by
    have tail : ∀ {j}, RegAt (a :: as) (v :: vs) (j + 1) k o → RegAt as vs j k o := fun ⟨cs, x, q1, q2, q3⟩ => ⟨cs, x, by simpa using q1, by simpa using q2, q3⟩
    have head : RegAt (a :: as) (v :: vs) 0 k o → regsPl g1 k o := fun ⟨cs, x, q1, q2, q3, q4, q5⟩ => by
      simp only [List.getElem?_cons_zero, Option.some.injEq] at q1 q2
      subst q1 q2
      cases h
      exact ⟨_, List.mem_cons_self, q3, q4, q5⟩
    cases j with
    | zero =>
      cases j' with
      | zero => rfl
      | succ j' => exact absurd (args_reg hs (tail h2)) (dis k o (head h1))
    | succ j =>
      cases j' with
      | zero => exact absurd (args_reg hs (tail h1)) (dis k o (head h2))
      | succ j' => rw [args_dis hs (tail h1) (tail h2)]

theorem pinSites_mem (P : Program) : ∀ (ts : List TypeId) (i j : Nat) (t e : TypeId), ts[j]? = some t → isPtrT P t = some e → key (i + j) 0 ∈ pinSites P i ts
  | [], i, j, t, e, h, _ => by simp at h
  | x :: ts, i, 0, t, e, h, he => by
    simp only [List.getElem?_cons_zero, Option.some.injEq] at h
    subst h
    simp [pinSites, he]
  | x :: ts, i, j + 1, t, e, h, he => by
    have := pinSites_mem P ts (i + 1) j t e (by simpa using h) he
    rw [show i + 1 + j = i + (j + 1) by omega] at this
    simp only [pinSites]
    split
    · exact List.mem_cons_of_mem _ this
    · exact this

def addrAt (vs : List Value) (j : Nat) : Option Addr := match vs[j]? with
  | some (.pointer (some a)) => some a
  | _ => none
def pinOf (as : List Arg) (vs : List Value) (s : Nat) : Option Addr := if s % 1024 = 0 then (match as[s / 1024]? with
  | some (.r _) => addrAt vs (s / 1024)
  | _ => none) else none
theorem pinOf_key {as : List Arg} {vs : List Value} {j : Nat} {cs : List D} {a : Addr} (h1 : as[j]? = some (.r cs)) (h2 : vs[j]? = some (.pointer (some a))) : pinOf as vs (key j 0) = some a := by
  simp [pinOf, key_div, key_mod, h1, addrAt, h2]
theorem pinOf_some {as : List Arg} {vs : List Value} {s : Nat} {a : Addr} (h : pinOf as vs s = some a) : ∃ j cs, s = key j 0 ∧ as[j]? = some (.r cs) ∧ vs[j]? = some (.pointer (some a)) := by
  unfold pinOf at h
  split at h
  · rename_i hm
    split at h
    · rename_i cs hc
      unfold addrAt at h
      split at h
      · rename_i a' ha
        injection h with h; subst h
        exact ⟨s / 1024, cs, by unfold key; omega, hc, ha⟩
      · cases h
    · cases h
  · cases h

open Classical in
noncomputable def asOf (Im : Pl) (as : List Arg) (vs : List Value) : As where
  Im := Im
  β := fun s => (pinOf as vs s).getD default
  τ := fun _ => Go.undef
  ω := fun _ => none
  own := fun k o => if h : ∃ j, RegAt as vs j k o then .b (key h.choose 0) else .none

theorem enter_st {X : Env} {fn : Func} (hf : X.P.funcs[X.f]? = some fn) {as : List Arg} {vals : List Value} {gs : List Reg} (ha : ArgsOk X.P w Im as fn.params.toList vals gs) (hI : ∀ k o, Im k o → ∃ u, w.cell? (at_ k o) = some u)
    (he : enterF X 0 as fn.params.toList fr0 = some fr) :
    (∀ s a, pinOf as vals s = some a → s ∈ pinsOf X) ∧ St X.nt w ⟨regsPl gs, Im, pinOf as vals⟩ w (asOf Im as vals) fr (vals.toArray ++ Array.replicate (fn.ntmps - vals.toArray.size) Go.undef) := by
  obtain ⟨g1, g2, g3⟩ := args_get ha
  obtain ⟨e1, e2, e3, e4, e5, e6, e7⟩ := enterF_spec as fn.params.toList 0 fr0 fr he
  simp only [Nat.zero_add] at e3 e4 e5 e6 e7
  have own_in : ∀ {j k o}, RegAt as vals j k o → (asOf Im as vals).own k o = .b (key j 0) := fun {j k o} h => by
    have hh : ∃ j, RegAt as vals j k o := ⟨j, h⟩
    simp only [asOf, dif_pos hh]
    rw [args_dis ha hh.choose_spec h]
  have own_some : ∀ {k o}, (asOf Im as vals).own k o = .none ∨ ∃ j, RegAt as vals j k o ∧ (asOf Im as vals).own k o = .b (key j 0) := fun {k o} => by
    by_cases hh : ∃ j, RegAt as vals j k o
    · obtain ⟨j, hj⟩ := hh; exact .inr ⟨j, hj, own_in hj⟩
    · exact .inl (by simp only [asOf, dif_neg hh])
  have ptr : ∀ {j cs}, as[j]? = some (.r cs) → ∃ t e a, fn.params.toList[j]? = some t ∧ vals[j]? = some (.pointer (some a)) ∧ isPtrT X.P t = some e ∧ a = at_ a.block a.off ∧ cs.length = sz X.P e ∧ (asOf Im as vals).β (key j 0) = a ∧
      ∀ (q : Nat) (d : D), cs[q]? = some d → w.frozen? (at_ a.block (a.off + q)) = false ∧ ¬ Im a.block (a.off + q) ∧ ∃ u, w.cell? (at_ a.block (a.off + q)) = some u ∧ Rd w Im d u := fun {j cs} hj => by
    obtain ⟨t, v, g, q1, q2, q3, q4⟩ := g3 j _ hj
    cases q3 with
    | r _ _ e k o h hl h0 hr =>
      refine ⟨t, e, _, q1, q2, h, rfl, hl, ?_, hr⟩
      simp only [asOf, pinOf_key hj q2, Option.getD_some]
  refine ⟨fun s a hs => ?_, ⟨?_, Keep.refl _ _, fun t => ?_, fun s b hb => ?_, fun t k hk => ?_, fun k o hi => ?_, fun _ _ h _ => h, fun _ _ h => h, fun s a hs => ?_⟩⟩
  · obtain ⟨j, cs, rfl, h1, h2⟩ := pinOf_some hs
    obtain ⟨t, e, a', q1, q2, q3, _⟩ := ptr h1
    have := pinSites_mem X.P fn.params.toList 0 j t e q1 q3
    simp only [pinsOf, hf]
    simpa using this
  · simp only [Env.nt, hf]; simp; omega
  · by_cases ht : t < as.length
    · obtain ⟨a, hat⟩ : ∃ a, as[t]? = some a := ⟨_, List.getElem?_eq_getElem ht⟩
      obtain ⟨ty, v, g, q1, q2, q3, q4⟩ := g3 t a hat
      have hv : (vals.toArray ++ Array.replicate (fn.ntmps - vals.toArray.size) Go.undef).getD t Go.undef = v := by
        rw [Array.getD_eq_getD_getElem?, Array.getElem?_append_left (by simp; omega)]
        simp [q2]
      rw [hv]
      cases q3 with
      | v cs _ us h hok hl hu hr =>
        rw [e4 t cs ty hat q1]
        refine RV.ofCells hok (by simpa using hl) ⟨by simpa using hu, fun j c u h1 h2 => ?_⟩
        rw [List.getElem?_map] at h1
        obtain ⟨d, hd, rfl⟩ := Option.map_eq_some_iff.1 h1
        have := hr j d u hd h2
        exact ⟨this.one, this⟩
      | r cs _ e k o h hl h0 hr =>
        obtain ⟨h1, h2⟩ := e5 t cs hat
        rw [h1]
        refine .one _ _ ⟨rfl, ⟨_, _, rfl⟩, _, h2, Nat.le_refl _, fun _ => ?_⟩
        simp only [asOf, pinOf_key hat q2, Option.getD_some]
        rfl
    · have hv : (vals.toArray ++ Array.replicate (fn.ntmps - vals.toArray.size) Go.undef).getD t Go.undef = Go.undef := by
        rw [Array.getD_eq_getD_getElem?, Array.getElem?_append_right (by simp; omega)]
        rw [Array.getElem?_replicate]
        split <;> rfl
      rw [hv, e3 t (.inr (by omega))]
      exact .skip
  · rcases e6 s b hb with hh | ⟨j, cs, h1, rfl, rfl⟩
    · cases hh
    · obtain ⟨t, e, a, q1, q2, q3, q4, q5, q6, q7⟩ := ptr h1
      have reg : ∀ q, q < cs.length → RegAt as vals j a.block (a.off + q) := fun q hq => ⟨cs, a, h1, q2, rfl, by omega, by omega⟩
      refine ⟨fun q c hc => ?_, fun q hq => ?_, fun q hq => ?_, fun q hq => ?_, fun hp => ?_⟩
      · rw [List.getElem?_map] at hc
        obtain ⟨d, hd, rfl⟩ := Option.map_eq_some_iff.1 hc
        obtain ⟨_, _, u, h3, h4⟩ := q7 q d hd
        rw [q6]
        exact ⟨u, h3, h4.one, h4⟩
      · rw [q6]
        simp only [List.length_map] at hq
        exact (q7 q _ (List.getElem?_eq_getElem hq)).1
      · rw [q6]; exact own_in (reg q (by simpa using hq))
      · rw [q6]; exact .inr (args_reg ha (reg q (by simpa using hq)))
      · simp only [pinOf_key h1 q2] at hp; cases hp
  · rw [e2] at hk; cases hk
  · refine ⟨hI k o hi, fun s hs => ?_, fun t x h1 h2 => ?_⟩
    · rcases own_some (k := k) (o := o) with h | ⟨j, hj, h⟩
      · rw [h] at hs; cases hs
      · obtain ⟨cs, a, h1, h2, rfl, h4, h5⟩ := hj
        obtain ⟨t, e, a', q1, q2, q3, q4, q5, q6, q7⟩ := ptr h1
        rw [h2] at q2; injection q2 with q2; injection q2 with q2; injection q2 with q2; subst q2
        have hq : o - a.off < cs.length := by omega
        have := (q7 _ _ (List.getElem?_eq_getElem hq)).2.1
        rw [show a.off + (o - a.off) = o by omega] at this
        exact this hi
    · rw [e2] at h2; cases h2
  · obtain ⟨j, cs, rfl, h1, h2⟩ := pinOf_some hs
    exact ⟨_, (e5 j cs h1).2, fun _ => by simp only [asOf, pinOf_key h1 h2, Option.getD_some]⟩

end Go.Vm
