/- Operations that make or write memory. -/
import Derived.Test.YtgjingnobdhdfaaVmSt4
import Derived.Laws.MakeOwn
set_option linter.unusedVariables false
set_option linter.unusedSimpArgs false
namespace Go.Vm

variable {nt : Nat} {w0 : World} {S : Sp} {w : World} {A : As} {fr : Fr} {tmps : Array Value} {P : Program}

/-- Boxes and tokens as an operation leaves them. -/
def Fr.mem (fr : Fr) (x : Eff) : Fr := { fr with bx := upds fr.bx x.bx, tk := upds fr.tk x.tk }
theorem app_eq (fr : Fr) (d : Option Tmp) (x : Eff) : fr.app d x = (fr.mem x).put d x.v := by cases d <;> rfl
theorem mem_nil {x : Eff} (h1 : x.bx = []) (h2 : x.tk = []) : fr.mem x = fr := by simp [Fr.mem, h1, h2, upds]

/-- What an operation must do that the evaluator says does x. -/
def Does (P : Program) (fr : Fr) (x : Eff) (nt : Nat) (w0 : World) (S : Sp) (w : World) (A : As) (tmps : Array Value) (s : Sem Value) : Prop :=
  ∃ v w' A', s.run P w = .ok v w' ∧ St nt w0 S w' A' (fr.mem x) tmps ∧ RV (fr.mem x) w' A' x.v v
theorem Does.read {x : Eff} {s : Sem Value} (h1 : x.bx = []) (h2 : x.tk = []) (h : St nt w0 S w A fr tmps) (hr : ∃ v, s.run P w = .ok v w ∧ RV fr w A x.v v) : Does P fr x nt w0 S w A tmps s := by
  obtain ⟨v, h3, h4⟩ := hr
  exact ⟨v, w, A, h3, by rw [mem_nil h1 h2]; exact h, by rw [mem_nil h1 h2]; exact h4⟩

/-- A token grows. -/
theorem St.appTok (h : St nt w0 S w A fr tmps) {t : Nat} {k k' : Tk} (ht : fr.tk t = some k) (he : k.e < k'.e) (hf : k'.fz = k.fz) (hl : k.rows.length * k.esz ≤ k'.rows.length * k'.esz) {w' : World} {v' : Value} {g' : Option Nat} {m : Nat} (hm : k.rows.length * k.esz ≤ m)
    (hk : Keep (fun a o => A.ω t = some a ∧ m ≤ o) w w') (hr : TokRel w' A.Im w0.heap.size k' v' g') (hg : g' = A.ω t ∨ g' = some w.heap.size) :
    ∀ fr', fr' = { fr with tk := upd fr.tk t (some k') } → ∃ A', St nt w0 S w' A' fr' tmps ∧ A'.τ t = v' ∧ oneC v' = true := by
  intro fr' hfr
  subst hfr
  have hto := h.tk t k ht
  have hone : oneC v' = true := by
    cases g' with
    | none => obtain ⟨_, a, rfl⟩ := hr; rfl
    | some g => obtain ⟨_, _, _, c, u, rfl, _⟩ := hr; rfl
  have himg : ∀ a o, A.Im a o → A.ω t = some a → o < k.rows.length * k.esz := fun a o hi hω => ((h.im a o hi).tok t k (hto.own a hω o) ht hω).2
  have u : Upd w0 S w A fr w' (A.newTok t v' g') { fr with tk := upd fr.tk t (some k') } (fun a o => A.ω t = some a ∧ m ≤ o) := by
    refine ⟨hk, fun a o hh => .inl ?_, fun a o hi hh => ?_, rfl, fun _ _ h => h, fun x o hx _ => ?_, fun s b hb => ⟨b, hb, .inr ⟨rfl, rfl⟩⟩, fun t' z hz => ?_⟩
    · have hrel := hto.rel
      rw [hh.1] at hrel
      exact hrel.2.1
    · have := himg a o hi hh.1; omega
    · simp only [As.newTok]
      split
      · rename_i e1
        rcases hg with hg | hg
        · exact (hto.own x (hg ▸ e1) o).symm
        · rw [hg] at e1; injection e1 with e1; omega
      · rfl
    · by_cases hs : t' = t
      · subst hs
        rw [ht] at hz; injection hz with hz; subst hz
        exact ⟨_, upd_same _ _ _, .inl he⟩
      · exact ⟨z, (upd_ne _ _ hs).trans hz, .inr ⟨rfl, upd_ne _ _ hs, upd_ne _ _ hs, rfl, rfl⟩⟩
  refine ⟨A.newTok t v' g', h.of_upd u (fun s b hb => .inl ⟨hb, rfl, fun j hj hh => ?_⟩) (fun t' z hz => ?_) (h.im_old u fun t' x hx y hy hlt => ?_) (fun _ _ h => .inl h), upd_same _ _ _, hone⟩
  · have q1 := (h.bx s b hb).own j hj
    rw [hto.own _ hh.1] at q1
    cases q1
  · by_cases hs : t' = t
    · subst hs
      simp only [upd_same, Option.some.injEq] at hz
      subst hz
      have e1 : (A.newTok t' v' g').τ t' = v' := upd_same _ _ _
      have e2 : (A.newTok t' v' g').ω t' = g' := upd_same _ _ _
      refine .inr ⟨by rw [e1, e2]; exact hr, fun y hy o => ?_⟩
      rw [e2] at hy
      simp [As.newTok, hy]
    · have hz' := (upd_ne _ _ hs).symm.trans hz
      refine .inl ⟨⟨z, hz', rfl, rfl, rfl⟩, upd_ne _ _ hs, upd_ne _ _ hs, fun y hy o hh => ?_⟩
      have q1 := (h.tk t' z hz').own y hy o
      rw [hto.own _ hh.1] at q1
      injection q1 with q1
      exact hs q1.symm
  · by_cases hs : t' = t
    · subst hs
      simp only [upd_same, Option.some.injEq] at hx
      subst hx
      have e2 : (A.newTok t' v' g').ω t' = g' := upd_same _ _ _
      rw [e2] at hy
      rcases hg with hg | hg
      · exact ⟨k, ht, by rw [← hg]; exact hy, fun hh => by rw [hf]; exact hh, hl⟩
      · rw [hg] at hy; injection hy with hy; omega
    · exact ⟨x, (upd_ne _ _ hs).symm.trans hx, (upd_ne _ _ hs).symm.trans hy, fun h => h, Nat.le_refl _⟩

theorem zeroOk_eq {e : TypeId} (h : zeroOk P e = true) : ∃ z, (P.info? e).bind (·.zero) = some z ∧ z.cells.size = sz P e := by
  unfold zeroOk at h
  split at h
  · rename_i v hv
    exact ⟨v, hv, Nat.eq_of_beq_eq_true h⟩
  · cases h

theorem elemT_eq {t e : TypeId} (h : elemT P t = some e) : P.underlying t = some (.slice e) := by
  unfold elemT at h
  split at h
  · rename_i x hx; injection h with h; subst h; exact hx
  · cases h

theorem appendF_ok {α : Type} {X : Env} {d : Nat} {t : TypeId} {s x : V} {K : Eff → Option α} {r : α} (h : appendF X fr d t s x K = some r) :
    ∃ z, (∀ (β : Type) (K' : Eff → Option β), appendF X fr d t s x K' = K' z) ∧
      ∀ (nt : Nat) (w0 : World) (S : Sp) (w : World) (A : As) (tmps : Array Value) (vs vx : Value) (ty : TypeId), St nt w0 S w A fr tmps → RV fr w A s vs → RV fr w A x vx → Does X.P fr z nt w0 S w A tmps (Builtin.append_ #[t, t] ty #[vs, vx]) := by
  unfold appendF at h
  split at h
  · cases h
  · rename_i e he
    have hu := elemT_eq he
    replace h := bif_not h; obtain ⟨hc, h⟩ := h
    have hcc := hc
    simp only [Bool.or_eq_false_iff, Bool.not_eq_false'] at hc
    obtain ⟨⟨hn0, hb0⟩, hzo⟩ := hc
    have hn0 := beq_false hn0
    have hb0 := beq_false hb0
    obtain ⟨z, hz, hzs⟩ := zeroOk_eq hzo
    replace h := rowsF_ok h; obtain ⟨ys, rd, hK, h, hrows⟩ := h
    split at h
    · rename_i k ep
      split at h
      · rename_i y hy
        replace h := bif_some h; obtain ⟨hq, h⟩ := h
        have hqq := hq
        simp only [Bool.and_eq_true, Bool.or_eq_true, Nat.beq_eq] at hq
        replace h := br_req h; obtain ⟨hroom, h⟩ := h
        refine ⟨_, fun β K' => by simp only [appendF, he, hcc, cond_false, hK, hy, hqq, cond_true, hroom, br]; rfl, fun nt w0 S w A tmps vs vx ty hst hs hx => ?_⟩
        have := hs.own_inv hy hq.1
        subst this
        obtain ⟨news, n1, n2⟩ := hrows nt w0 S w A tmps vx X.P t e hu hst hx
        have hto := hst.tk k y hy
        have hep := hq.1
        have hsz : y.rows.length * y.esz ≤ y.rows.length * sz X.P e := by
          rcases hq.2 with hq | hq
          · rw [hq.2]; exact Nat.le_refl _
          · rw [hq]; simp
        have himg : ∀ g o, A.ω k = some g → A.Im g o → o < y.rows.length * sz X.P e := fun g o hg hi => by
          have := ((hst.im g o hi).tok k y (hto.own g hg o) hy hg).2; omega
        obtain ⟨v', w', g', r1, r2, r3, r4⟩ := append_run (P := X.P) (ty := ty) hu rfl hn0 hb0 hz hzs hto.rel hq.2 hst.keep.size n1 n2 (by simpa using hroom) (fun a o hi => (hst.im a o hi).cell) himg (ep + 1)
        have hle : y.rows.length * y.esz ≤ (y.rows ++ ys).length * sz X.P e := by
          rw [List.length_append, Nat.add_mul]; omega
        obtain ⟨A', s1, s2, s3⟩ := hst.appTok hy (k' := ⟨ep + 1, y.fz, e, sz X.P e, y.rows ++ ys⟩) (by show y.e < ep + 1; omega) rfl hle hsz r3 r2 r4 _ rfl
        exact ⟨v', w', A', r1, s1, .one _ _ ⟨s3, _, upd_same _ _ _, Nat.le_refl _, fun _ => s2.symm⟩⟩
      · cases h
    · replace h := br_req h; obtain ⟨hroom, h⟩ := h
      refine ⟨_, fun β K' => by simp only [appendF, he, hcc, cond_false, hK, hroom, br]; rfl, fun nt w0 S w A tmps vs vx ty hst hs hx => ?_⟩
      obtain ⟨_, a, rfl⟩ := hs.one_inv
      obtain ⟨news, n1, n2⟩ := hrows nt w0 S w A tmps vx X.P t e hu hst hx
      obtain ⟨v', w', g', r1, r2, r3, r4⟩ := append_run (P := X.P) (ty := ty) (k := ⟨0, false, 0, 0, []⟩) (v := .slice a 0 0) (og := none) (Im := A.Im) (B := w0.heap.size) hu rfl hn0 hb0 hz hzs ⟨rfl, a, rfl⟩ (.inr rfl) hst.keep.size n1 n2 (by simpa using hroom) (fun a o hi => (hst.im a o hi).cell) (fun g o hg => by cases hg) (nextT fr (key d 0))
      obtain ⟨A', _, s1, s2, _, s3⟩ := hst.newTok (key d 0) ⟨nextT fr (key d 0), false, e, sz X.P e, ys⟩ v' g' rfl rfl (r3.mono fun a o _ hh => by cases hh.1) (fun q hq => by rcases r4 with r4 | r4 <;> rw [r4] at hq <;> simp at hq; omega) r2 _ rfl
      exact ⟨v', w', A', r1, s1, .one _ _ ⟨s3, _, upd_same _ _ _, Nat.le_refl _, fun _ => s2.symm⟩⟩
    · cases h

theorem zeroF_ok {α : Type} {X : Env} {t : TypeId} {K : List C → Option α} {r : α} (h : zeroF X t K = some r) :
    ∃ v, (X.P.info? t).bind (·.zero) = some v ∧ v.cells.size = sz X.P t ∧ (∀ (β : Type) (K' : List C → Option β), zeroF X t K' = K' (v.cells.toList.map cOf)) ∧ K (v.cells.toList.map cOf) = some r ∧
      (∀ w, (zeroValue t).run X.P w = .ok v w) ∧ ∀ fr w A, RCs fr w A (v.cells.toList.map cOf) v.cells.toList := by
  unfold zeroF at h
  split at h
  · rename_i v hv
    replace h := bif_some h; obtain ⟨hc, h⟩ := h
    have hcc := hc
    simp only [Bool.and_eq_true, Nat.beq_eq] at hc
    obtain ⟨i, hi, hz⟩ := Option.bind_eq_some_iff.1 hv
    refine ⟨v, hv, hc.1, fun β K' => by simp only [zeroF, hv, hcc, cond_true], h, fun w => by simp [zeroValue, typeInfo, hi, hz], fun fr w A => ⟨by simp, fun j c u h1 h2 => ?_⟩⟩
    rw [List.getElem?_map, h2] at h1
    simp at h1
    subst h1
    exact cOf_rc (List.all_eq_true.1 hc.2 u (List.mem_of_getElem? h2))
  · cases h

theorem boxF_ok {α : Type} {d : Nat} {cs : List C} {K : Eff → Option α} {r : α} (h : boxF fr d cs K = some r) :
    ∃ z, (∀ (β : Type) (K' : Eff → Option β), boxF fr d cs K' = K' z) ∧ K z = some r ∧
      ∀ (nt : Nat) (w0 : World) (S : Sp) (w : World) (A : As) (tmps : Array Value) (v : Value) (t : TypeId) (P : Program), St nt w0 S w A fr tmps → RCs fr w A cs v.cells.toList → Does P fr z nt w0 S w A tmps (do pure (.pointer (some (← newVar t v)))) := by
  refine ⟨_, fun _ _ => rfl, h, fun nt w0 S w A tmps v t P hst hr => ?_⟩
  obtain ⟨_, s1, s2⟩ := hst.newBox (key d 0) t hr
  refine ⟨.pointer (some (at_ w.heap.size 0)), w.alloc (.cells v.cells t), A.newBox (key d 0) w.heap.size, ?_, ?_, ?_⟩
  · simp [newVar, newRow]
  · simpa [Fr.mem, upds] using s1
  · simpa [Fr.mem, upds] using s2

theorem alloc_ok {α : Type} {X : Env} {d : Nat} {t : TypeId} {K : Eff → Option α} {r : α} (h : (zeroF X t fun z => boxF fr d z K) = some r) :
    ∃ z, (∀ (β : Type) (K' : Eff → Option β), (zeroF X t fun z => boxF fr d z K') = K' z) ∧
      ∀ (nt : Nat) (w0 : World) (S : Sp) (w : World) (A : As) (tmps : Array Value), St nt w0 S w A fr tmps → Does X.P fr z nt w0 S w A tmps (Instr.alloc t true (.tuple #[])) := by
  obtain ⟨v, _, _, hK, h, hrun, hr⟩ := zeroF_ok h
  obtain ⟨z, hK2, _, hd⟩ := boxF_ok h
  refine ⟨z, fun β K' => by rw [hK]; exact hK2 β K', fun nt w0 S w A tmps hst => ?_⟩
  obtain ⟨u, w', A', r1, r2, r3⟩ := hd nt w0 S w A tmps v t X.P hst (hr fr w A)
  refine ⟨u, w', A', ?_, r2, r3⟩
  rw [← r1]
  simp [Instr.alloc, hrun]


theorem cells_one {v : Value} (h : oneC v = true) : v.cells = #[v] := by cases v <;> first | rfl | cases h
theorem RV.cells {x : V} {v : Value} (h : RV fr w A x v) (hp : x.plain = true) : RCs fr w A x.cells v.cells.toList := by
  cases h with
  | one c v hx =>
    rw [cells_one hx.1]
    refine ⟨rfl, fun j c' u h1 h2 => ?_⟩
    cases j with
    | zero => simp [V.cells] at h1 h2; subst h1 h2; exact hx
    | succ j => simp [V.cells] at h1
  | agg cs vs hx => exact hx
  | tup xs vs hl h => cases hp
  | skip => cases hp
  | any v => cases hp

/-- Cells laid over cells: as the model does it. -/
theorem foldl_lay (vs : List Value) (off : Nat) : ∀ (k : Nat) (a : Array Value), off + k + vs.length ≤ a.size → ((vs.zipIdx k).foldl (fun cs (c, j) => cs.setIfInBounds (off + j) c) a).toList = splice a.toList (off + k) vs := by
  induction vs with
  | nil => intro k a h; simp [splice]
  | cons v vs ih =>
    intro k a h
    simp only [List.zipIdx_cons, List.foldl_cons]
    simp only [List.length_cons] at h
    rw [ih (k + 1) _ (by simp; omega)]
    apply List.ext_getElem?
    intro q
    have hl1 : off + (k + 1) + vs.length ≤ (a.setIfInBounds (off + k) v).toList.length := by simp; omega
    have hl2 : off + k + (v :: vs).length ≤ a.toList.length := by simp; omega
    by_cases h1 : q < off + k
    · rw [splice_lo _ _ _ hl1 (by omega), splice_lo _ _ _ hl2 h1]
      simp only [Array.getElem?_toList]
      exact Array.getElem?_setIfInBounds_ne (by omega)
    · by_cases h2 : q = off + k
      · subst h2
        rw [splice_lo _ _ _ hl1 (by omega), splice_mid _ _ _ hl2 (by omega) (by simp)]
        have : off + k < a.size := by omega
        simp [this]
      · by_cases h3 : q < off + k + (v :: vs).length
        · rw [splice_mid _ _ _ hl1 (by omega) (by simp at h3; omega), splice_mid _ _ _ hl2 (by omega) h3]
          rw [show q - (off + k) = (q - (off + (k + 1))) + 1 by omega, List.getElem?_cons_succ]
        · rw [splice_hi _ _ _ hl1 (by simp at h3; omega), splice_hi _ _ _ hl2 (by omega)]
          simp only [Array.getElem?_toList]
          exact Array.getElem?_setIfInBounds_ne (by omega)

theorem RCs.splice {cs new : List C} {vs nvs : List Value} (h : RCs fr w A cs vs) (hn : RCs fr w A new nvs) {off : Nat} (hl : off + new.length ≤ cs.length) : RCs fr w A (splice cs off new) (Vm.splice vs off nvs) := by
  have l1 := h.1
  have l2 := hn.1
  have hl' : off + nvs.length ≤ vs.length := by omega
  refine ⟨by rw [splice_len _ _ _ hl, splice_len _ _ _ hl']; exact l1, fun j c v h1 h2 => ?_⟩
  by_cases q1 : j < off
  · rw [splice_lo _ _ _ hl q1] at h1
    rw [splice_lo _ _ _ hl' q1] at h2
    exact h.2 j c v h1 h2
  · by_cases q2 : j < off + new.length
    · rw [splice_mid _ _ _ hl (by omega) q2] at h1
      rw [splice_mid _ _ _ hl' (by omega) (by omega)] at h2
      exact hn.2 _ c v h1 h2
    · rw [splice_hi _ _ _ hl (by omega)] at h1
      rw [splice_hi _ _ _ hl' (by omega)] at h2
      exact h.2 j c v h1 h2

theorem fillF_ok {place : Nat → Option (Nat × Nat)} : ∀ {parts : List (Nat × V)} {cs cs' : List C} {vs : Array Value} {vparts : List (Nat × Value)}, fillF place cs parts = some cs' → RCs fr w A cs vs.toList → vparts.length = parts.length →
    (∀ (j : Nat) (p : Nat × V) (q : Nat × Value), parts[j]? = some p → vparts[j]? = some q → q.1 = p.1 ∧ RV fr w A p.2 q.2) → ∃ vs', Instr.fill place vs vparts = some vs' ∧ RCs fr w A cs' vs'.toList ∧ vs'.size = vs.size
  | [], cs, cs', vs, vparts, h, hr, hl, hp => by
    have : vparts = [] := List.length_eq_zero_iff.1 hl
    subst this
    simp only [fillF, Option.some.injEq] at h
    subst h
    exact ⟨vs, rfl, hr, rfl⟩
  | (i, v) :: parts, cs, cs', vs, vparts, h, hr, hl, hp => by
    match vparts, hl with
    | (i', u) :: vparts, hl =>
      obtain ⟨e1, hv⟩ := hp 0 _ _ rfl rfl
      simp only at e1
      subst e1
      simp only [fillF] at h
      split at h
      · rename_i off n hpl
        replace h := bif_some h; obtain ⟨hc, h⟩ := h
        simp only [Bool.and_eq_true, Nat.beq_eq, Nat.ble_eq] at hc
        obtain ⟨⟨c1, c2⟩, c3⟩ := hc
        have hcells : RCs fr w A v.cells u.cells.toList := hv.cells c3
        have c1 : v.cells.length = n := c1
        have hsz : u.cells.size = n := by have := hcells.1; simp at this; omega
        have hvl := hr.1
        simp only [Array.length_toList] at hvl
        have hlay := foldl_lay u.cells.toList off 0 vs (by simp; omega)
        have hsp := hr.splice hcells (off := off) (by omega)
        obtain ⟨vs', r1, r2, r3⟩ := fillF_ok (vs := u.cells.zipIdx.foldl (fun cs (c, j) => cs.setIfInBounds (off + j) c) vs) h (by
          rw [← Array.foldl_toList, Array.toList_zipIdx, hlay]; simpa using hsp) (by simpa using hl) fun j p q h1 h2 => hp (j + 1) p q (by simpa using h1) (by simpa using h2)
        refine ⟨vs', ?_, r2, ?_⟩
        · simp only [Instr.fill, hpl, hsz]
          rw [if_neg (by simp; omega)]
          exact r1
        · rw [r3, ← Array.length_toList, ← Array.foldl_toList, Array.toList_zipIdx, hlay, splice_len _ _ _ (by simp; omega)]
          simp
      · cases h

end Go.Vm
