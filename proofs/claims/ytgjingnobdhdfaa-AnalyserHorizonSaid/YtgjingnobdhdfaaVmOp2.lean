/- Operations that read memory, and addresses. -/
import Derived.Test.YtgjingnobdhdfaaVmOp1
import Derived.Laws.Slices
set_option linter.unusedVariables false
set_option linter.unusedSimpArgs false
namespace Go.Vm

variable {fr : Fr} {w : World} {A : As} {P : Program} {nt : Nat} {w0 : World} {S : Sp} {tmps : Array Value}

theorem okT_und {t : TypeId} (h : okT P t = true) : (P.underlying t).isSome := by
  unfold okT at h
  split at h
  · cases h
  · rename_i d hd; simp [hd]
theorem okT_sz {t : TypeId} (h : okT P t = true) (ha : isAggT P t = false) : sz P t = 1 := by
  unfold okT at h
  split at h
  · cases h
  · simpa [ha] using h
theorem run_loadVar {t : TypeId} (h : okT P t = true) {k o : Nat} {vs : List Value} (hl : vs.length = sz P t) (hc : ∀ (j : Nat) (v : Value), vs[j]? = some v → w.cell? (at_ k (o + j)) = some v) :
    (loadVar t (at_ k o)).run P w = .ok (partV P t vs) w := by
  have hu := okT_und h
  simp only [loadVar, Sem.run_bind, run_isAgg' hu, Result.andThen_ok, partV]
  cases ha : isAggT P t with
  | true =>
    have := run_loadCells_list (P := P) w (at_ k o) vs fun j v hj => by rw [at_add]; exact hc j v hj
    rw [hl] at this
    unfold sz at this
    simp only [if_true, Sem.run_bind, run_sizeOf'' hu, Result.andThen_ok, this, Sem.run_pure]
  | false =>
    have h1 := okT_sz h ha
    match vs, hl with
    | v :: vs, hl =>
      have := hc 0 v rfl
      simp only [Nat.add_zero] at this
      simp [this]
    | [], hl => simp at hl; omega
theorem RV.ofCells {t : TypeId} (h : okT P t = true) {cs : List C} {vs : List Value} (hl : cs.length = sz P t) (hr : RCs fr w A cs vs) : RV fr w A (V.ofCells (isAggT P t) cs) (partV P t vs) := by
  unfold V.ofCells partV
  cases ha : isAggT P t with
  | true => exact .agg _ _ (by simpa using hr)
  | false =>
    have h1 := okT_sz h ha
    match cs, vs, hr with
    | c :: cs, v :: vs, hr => exact .one _ _ (hr.2 0 c v rfl rfl)
    | [], _, _ => simp at hl; omega
    | c :: cs, [], hr => have := hr.1; simp at this

/-- The cells of a region, as values. -/
theorem region_vals {cs : List C} {k o : Nat} (h : ∀ (j : Nat) (c : C), cs[j]? = some c → ∃ v, w.cell? (at_ k (o + j)) = some v ∧ RC fr w A c v) :
    ∃ vs : List Value, RCs fr w A cs vs ∧ ∀ (j : Nat) (v : Value), vs[j]? = some v → w.cell? (at_ k (o + j)) = some v := by
  induction cs generalizing o with
  | nil => exact ⟨[], ⟨rfl, fun j c v h _ => by simp at h⟩, fun j v h => by simp at h⟩
  | cons c cs ih =>
    obtain ⟨v, h1, h2⟩ := h 0 c rfl
    obtain ⟨vs, h3, h4⟩ := ih (o := o + 1) fun j c hj => by
      have := h (j + 1) c (by simpa using hj)
      rwa [show o + (j + 1) = o + 1 + j by omega] at this
    refine ⟨v :: vs, ⟨by simp [h3.1], fun j c' v' q1 q2 => ?_⟩, fun j v' q => ?_⟩
    · cases j with
      | zero => simp at q1 q2; subst q1 q2; exact h2
      | succ j => exact h3.2 j c' v' (by simpa using q1) (by simpa using q2)
    · cases j with
      | zero => simp at q; subst q; exact h1
      | succ j => rw [show o + (j + 1) = o + 1 + j by omega]; exact h4 j v' (by simpa using q)

theorem getD_row {row : List D} {j : Nat} (h : j < row.length) : row[j]? = some (row.getD j .bad) := by simp [List.getD, List.getElem?_eq_getElem h]
theorem range_map_get {β : Type} {n : Nat} {f : Nat → β} {j : Nat} {c : β} (h : ((List.range n).map f)[j]? = some c) : j < n ∧ c = f j := by
  rw [List.getElem?_map] at h
  cases hj : (List.range n)[j]? with
  | none => simp [hj] at h
  | some x =>
    have h1 := (List.getElem?_eq_some_iff.1 hj).1
    have : x = j := by
      have := (List.getElem?_eq_some_iff.1 hj).2
      simpa using this.symm
    subst this
    simp [hj] at h
    exact ⟨by simpa using h1, h.symm⟩

theorem RV.ptr_inv {s e off : Nat} {v : Value} (h : RV fr w A (.one (.ptr s e off)) v) {b : Bx} (hb : fr.bx s = some b) (he : b.e = e) : v = .pointer (some (at_ (A.β s).block ((A.β s).off + off))) := by
  obtain ⟨_, b', h1, h2, h3⟩ := h.one_inv.2
  rw [hb] at h1; injection h1 with h1; subst h1
  exact h3 he.symm
theorem RV.tptr_inv {t e i off : Nat} {v : Value} (h : RV fr w A (.one (.tptr t e i off)) v) {k : Tk} (hb : fr.tk t = some k) (he : k.e = e) : i < k.rows.length ∧ ∃ g, A.ω t = some g ∧ v = .pointer (some (at_ g (i * k.esz + off))) := by
  obtain ⟨_, b', h1, h2, h3⟩ := h.one_inv.2
  rw [hb] at h1; injection h1 with h1; subst h1
  exact h3 he.symm
theorem RV.rptr_inv {esz off : Nat} {row : List D} {v : Value} (h : RV fr w A (.one (.rptr esz row off)) v) : row.length = esz ∧ ∃ g o, v = .pointer (some (at_ g (o + off))) ∧ ∀ (j : Nat) (d : D), row[j]? = some d → ∃ u, A.Im g (o + j) ∧ w.cell? (at_ g (o + j)) = some u ∧ Rd w A.Im d u := h.one_inv.2
theorem RV.own_inv {t e : Nat} {v : Value} (h : RV fr w A (.one (.own t e)) v) {k : Tk} (hb : fr.tk t = some k) (he : k.e = e) : v = A.τ t := by
  obtain ⟨b', h1, h2, h3⟩ := h.one_inv.2
  rw [hb] at h1; injection h1 with h1; subst h1
  exact h3 he.symm
theorem RV.sub_inv {t e off len : Nat} {v : Value} (h : RV fr w A (.one (.sub t e off len)) v) {k : Tk} (hb : fr.tk t = some k) (he : k.e = e) :
    off + len ≤ k.rows.length ∧ ∃ a c, v = .slice a len c ∧ len ≤ c ∧ (0 < len → ∃ g, A.ω t = some g ∧ a = some (at_ g (off * k.esz))) := by
  obtain ⟨b', h1, h2, h3⟩ := h.one_inv.2
  rw [hb] at h1; injection h1 with h1; subst h1
  exact h3 he.symm

/-- A token's slice as a value. -/
theorem TokRel.slice {Im : Pl} {B : Nat} {k : Tk} {v : Value} {o : Option Nat} (h : TokRel w Im B k v o) : ∃ a c, v = .slice a k.rows.length c ∧ k.rows.length ≤ c ∧ (0 < k.rows.length → ∃ g, o = some g ∧ a = some (at_ g 0)) := by
  cases o with
  | none => obtain ⟨h1, a, rfl⟩ := h; exact ⟨a, 0, by simp [h1], by simp [h1], by simp [h1]⟩
  | some g => obtain ⟨_, _, _, cap, cur, rfl, _, h1, _⟩ := h; exact ⟨_, cap, rfl, h1, fun _ => ⟨g, rfl, rfl⟩⟩
/-- A token's cell. -/
theorem TokRel.cell {Im : Pl} {B : Nat} {k : Tk} {v : Value} {g : Nat} (h : TokRel w Im B k v (some g)) {i j : Nat} {row : List D} {d : D} (hi : k.rows[i]? = some row) (hj : row[j]? = some d) :
    ∃ u, w.cell? (at_ g (i * k.esz + j)) = some u ∧ w.frozen? (at_ g (i * k.esz + j)) = false ∧ Rd w Im d u := by
  obtain ⟨_, _, h2, cap, cur, _, h3, _, _, _, h4⟩ := h
  obtain ⟨u, h5, h6⟩ := h4 i row hi j d hj
  refine ⟨u, ?_, ?_, h6⟩
  · simp [World.cell?, h3, h5]
  · simp [World.frozen?, h3]

theorem loadF_ok {α : Type} {X : Env} {t : TypeId} {a : V} {K : Eff → Option α} {r : α} (h : loadF X fr t a K = some r) :
    ∃ x, (∀ (β : Type) (K' : Eff → Option β), loadF X fr t a K' = K' x) ∧ x.bx = [] ∧ x.tk = [] ∧
      ∀ (nt : Nat) (w0 : World) (S : Sp) (w : World) (A : As) (tmps : Array Value) (va : Value), St nt w0 S w A fr tmps → RV fr w A a va → ∃ v, (Instr.loadAt t va).run X.P w = .ok v w ∧ RV fr w A x.v v := by
  unfold loadF at h
  replace h := bif_some h; obtain ⟨hok, h⟩ := h
  split at h
  · rename_i s e off
    split at h
    · rename_i b hb
      replace h := bif_some h; obtain ⟨hc, h⟩ := h
      refine ⟨_, fun β K' => by simp only [loadF, hok, hb, hc, cond_true]; rfl, rfl, rfl, fun nt w0 S w A tmps va hst hv => ?_⟩
      simp only [Bool.and_eq_true, Nat.beq_eq, Nat.ble_eq] at hc
      have hva := hv.ptr_inv hb hc.1
      subst hva
      have hbo := (hst.bx s b hb).cell
      obtain ⟨vs, h1, h2⟩ := region_vals (fr := fr) (w := w) (A := A) (cs := (b.cs.drop off).take (sz X.P t)) (k := (A.β s).block) (o := (A.β s).off + off) fun j c hj => by
        rw [List.getElem?_take] at hj
        split at hj
        · rw [List.getElem?_drop] at hj
          have := hbo (off + j) c hj
          rwa [← Nat.add_assoc] at this
        · cases hj
      have hl : ((b.cs.drop off).take (sz X.P t)).length = sz X.P t := by rw [List.length_take, List.length_drop]; omega
      refine ⟨partV X.P t vs, ?_, RV.ofCells hok hl h1⟩
      simp only [Instr.loadAt, Instr.sureAddr, Sem.run_bind, Sem.run_pure, Result.andThen_ok]
      exact run_loadVar hok (by rw [h1.1, hl]) h2
    · cases h
  · rename_i k e i off
    split at h
    · rename_i x hx
      replace h := bif_some h; obtain ⟨hc, h⟩ := h
      refine ⟨_, fun β K' => by simp only [loadF, hok, hx, hc, cond_true]; rfl, rfl, rfl, fun nt w0 S w A tmps va hst hv => ?_⟩
      simp only [Bool.and_eq_true, Nat.beq_eq, Nat.ble_eq] at hc
      obtain ⟨hi, g, hg, hva⟩ := hv.tptr_inv hx hc.1
      subst hva
      have hrel := (hst.tk k x hx).rel
      rw [hg] at hrel
      have hrow : x.rows[i]? = some (x.rows.getD i []) := by simp [List.getD, List.getElem?_eq_getElem hi]
      have hrl : (x.rows.getD i []).length = x.esz := hrel.2.2.1 _ (List.mem_of_getElem? hrow)
      obtain ⟨vs, h1, h2⟩ := region_vals (fr := fr) (w := w) (A := A) (cs := (List.range (sz X.P t)).map fun j => C.d ((x.rows.getD i []).getD (off + j) .bad)) (k := g) (o := i * x.esz + off) fun j c hj => by
        obtain ⟨hj, rfl⟩ := range_map_get hj
        obtain ⟨u, h1, _, h2⟩ := hrel.cell hrow (getD_row (j := off + j) (by omega))
        exact ⟨u, by rwa [Nat.add_assoc], h2.one, h2⟩
      refine ⟨partV X.P t vs, ?_, RV.ofCells hok (by simp) h1⟩
      simp only [Instr.loadAt, Instr.sureAddr, Sem.run_bind, Sem.run_pure, Result.andThen_ok]
      exact run_loadVar hok (by rw [h1.1]; simp) h2
    · cases h
  · rename_i esz row off
    replace h := bif_some h; obtain ⟨hc, h⟩ := h
    refine ⟨_, fun β K' => by simp only [loadF, hok, hc, cond_true]; rfl, rfl, rfl, fun nt w0 S w A tmps va hst hv => ?_⟩
    simp only [Nat.ble_eq] at hc
    obtain ⟨hrl, g, o, hva, hr⟩ := hv.rptr_inv
    subst hva
    obtain ⟨vs, h1, h2⟩ := region_vals (fr := fr) (w := w) (A := A) (cs := (List.range (sz X.P t)).map fun j => C.d (row.getD (off + j) .bad)) (k := g) (o := o + off) fun j c hj => by
      obtain ⟨hj, rfl⟩ := range_map_get hj
      obtain ⟨u, _, h1, h2⟩ := hr (off + j) _ (getD_row (j := off + j) (by omega))
      exact ⟨u, by rwa [Nat.add_assoc], h2.one, h2⟩
    refine ⟨partV X.P t vs, ?_, RV.ofCells hok (by simp) h1⟩
    simp only [Instr.loadAt, Instr.sureAddr, Sem.run_bind, Sem.run_pure, Result.andThen_ok]
    exact run_loadVar hok (by rw [h1.1]; simp) h2
  · cases h

theorem field_eq {X : Env} {t : TypeId} {f off : Nat} {ft : TypeId} (h : field X t f = some (off, ft)) : ∃ (fs : Array Field) (g : Field), X.P.underlying t = some (.struct fs) ∧ fs[f]? = some g ∧ g.offset = off ∧ g.type = ft := by
  unfold field at h
  split at h
  · rename_i fs hfs
    split at h
    · rename_i g hg
      simp at h
      exact ⟨fs, g, hfs, hg, h.1, h.2⟩
    · cases h
  · cases h

theorem beq_false {a b : Nat} (h : Nat.beq a b = false) : a ≠ b := fun e => by subst e; simp [Nat.beq_refl] at h

theorem fieldAddrF_ok {α : Type} {X : Env} {t : TypeId} {a : V} {f : Nat} {K : V → Option α} {r : α} (h : fieldAddrF X t a f K = some r) :
    ∃ z, (∀ (β : Type) (K' : V → Option β), fieldAddrF X t a f K' = K' z) ∧ ∀ (fr : Fr) (w : World) (A : As) (va : Value), RV fr w A a va → ∃ v, (Instr.fieldAt t va f).run X.P w = .ok v w ∧ RV fr w A z v := by
  unfold fieldAddrF at h
  split at h
  · rename_i off ft hf
    replace h := bif_not h; obtain ⟨hz, h⟩ := h
    obtain ⟨fs, g, hu, hg, rfl, rfl⟩ := field_eq hf
    have hne : X.P.cellsOf g.type ≠ 0 := beq_false hz
    have hrun : ∀ (w : World) (k o : Nat), (Instr.fieldAt t (.pointer (some (at_ k o))) f).run X.P w = .ok (.pointer (some (at_ k (o + g.offset)))) w := by
      intro w k o
      simp only [Instr.fieldAt, Sem.run_bind, run_underlying' hu, Result.andThen_ok, hg, Instr.sureAddr, Sem.run_pure, fieldPlace, run_sizeOf' hne, if_neg hne, at_add]
    split at h
    · rename_i s e o
      refine ⟨_, fun β K' => by simp only [fieldAddrF, hf, hz, cond_false]; rfl, fun fr w A va hv => ?_⟩
      obtain ⟨h1, ⟨k, q, rfl⟩, b, hb, he, hh⟩ := hv.one_inv
      refine ⟨_, hrun w _ _, .one _ _ ⟨rfl, ⟨_, _, rfl⟩, b, hb, he, fun e1 => ?_⟩⟩
      have := hh e1
      simp at this
      simp [this, Nat.add_assoc]
    · rename_i s e i o
      refine ⟨_, fun β K' => by simp only [fieldAddrF, hf, hz, cond_false]; rfl, fun fr w A va hv => ?_⟩
      obtain ⟨h1, ⟨k, q, rfl⟩, b, hb, he, hh⟩ := hv.one_inv
      refine ⟨_, hrun w _ _, .one _ _ ⟨rfl, ⟨_, _, rfl⟩, b, hb, he, fun e1 => ?_⟩⟩
      obtain ⟨hi, gg, hg, hh⟩ := hh e1
      refine ⟨hi, gg, hg, ?_⟩
      simp at hh
      simp [hh, Nat.add_assoc]
    · rename_i esz row o
      refine ⟨_, fun β K' => by simp only [fieldAddrF, hf, hz, cond_false]; rfl, fun fr w A va hv => ?_⟩
      obtain ⟨h1, h2, gg, oo, rfl, hr⟩ := hv.one_inv
      exact ⟨_, hrun w _ _, .one _ _ ⟨rfl, h2, gg, oo, by rw [Nat.add_assoc], hr⟩⟩
    · cases h
  · cases h

theorem fieldF_ok {α : Type} {X : Env} {t : TypeId} {a : V} {f : Nat} {K : V → Option α} {r : α} (h : fieldF X t a f K = some r) :
    ∃ z, (∀ (β : Type) (K' : V → Option β), fieldF X t a f K' = K' z) ∧ ∀ (fr : Fr) (w : World) (A : As) (va : Value), RV fr w A a va → ∃ v, (Instr.field t va f).run X.P w = .ok v w ∧ RV fr w A z v := by
  unfold fieldF at h
  split at h
  · rename_i off ft cs hf
    replace h := bif_some h; obtain ⟨hc, h⟩ := h
    obtain ⟨fs, g, hu, hg, rfl, rfl⟩ := field_eq hf
    refine ⟨_, fun β K' => by simp only [fieldF, hf, hc, cond_true]; rfl, fun fr w A va hv => ?_⟩
    obtain ⟨vs, rfl, hr⟩ := hv.agg_inv
    simp only [Bool.and_eq_true, Nat.ble_eq] at hc
    have hl := hr.1
    refine ⟨_, ?_, RV.ofCells hc.2 ?_ (hr.cut g.offset (sz X.P g.type))⟩
    · simp only [Instr.field, Sem.run_bind, run_underlying' hu, Result.andThen_ok, hg, asAgg, Sem.run_pure]
      exact run_part (okT_und hc.2) vs g.offset (by simp at hl; have := hc.1; unfold sz at this; omega) (fun ha => by have := okT_sz hc.2 ha; unfold sz at this; omega) w
    · rw [List.length_take, List.length_drop]; have := hc.1; omega
  · cases h

theorem intT_ok {α : Type} {t : V} {K : Int → Option α} {r : α} (h : intT t K = some r) : ∃ n, (∀ (β : Type) (K' : Int → Option β), intT t K' = K' n) ∧ K n = some r ∧ ∀ (fr : Fr) (w : World) (A : As) (v : Value), RV fr w A t v → ∃ k, v = .int k n := by
  unfold intT at h
  split at h
  · rename_i x
    replace h := takeN_some h; obtain ⟨k, n, rfl, h⟩ := h
    exact ⟨n, fun β K' => rfl, h, fun fr w A v hv => ⟨k, hv.d_inv.int_inv⟩⟩
  · cases h

theorem inB_eq {i : Int} {n : Nat} (h : inB i n = true) : 0 ≤ i ∧ i < (n : Int) := by simpa [inB] using h

/-- What a data list is in memory. -/
theorem Rd.list_inv {Im : Pl} {esz : Nat} {rows : List (List D)} {v : Value} (h : Rd w Im (.list esz rows) v) : ∃ A c, v = .slice A rows.length c ∧ rows.length ≤ c ∧ (∀ row ∈ rows, row.length = esz) ∧
    (rows ≠ [] → ∃ g o, A = some (at_ g o) ∧ ∀ i row, rows[i]? = some row → ∀ (j : Nat) (d : D), row[j]? = some d → ∃ u, Im g (o + (i * esz + j)) ∧ w.cell? (at_ g (o + (i * esz + j))) = some u ∧ Rd w Im d u) := by
  cases h with
  | list _ _ A c vals hc hl ha hr =>
    refine ⟨A, c, rfl, hc, hl, fun hn => ?_⟩
    obtain ⟨g, o, rfl, h⟩ := ha hn
    refine ⟨g, o, rfl, fun i row hi j d hj => ?_⟩
    obtain ⟨_, _, hlt⟩ := row_in hl hi hj
    exact ⟨_, (h _ hlt).1, (h _ hlt).2, hr i row hi j d hj⟩
theorem Rd.mk_list {Im : Pl} {esz : Nat} {rows : List (List D)} {A : Option Addr} {c : Nat} (hc : rows.length ≤ c) (hl : ∀ row ∈ rows, row.length = esz)
    (h : rows ≠ [] → ∃ g o, A = some (at_ g o) ∧ ∀ i row, rows[i]? = some row → ∀ (j : Nat) (d : D), row[j]? = some d → ∃ u, Im g (o + (i * esz + j)) ∧ w.cell? (at_ g (o + (i * esz + j))) = some u ∧ Rd w Im d u) : Rd w Im (.list esz rows) (.slice A rows.length c) := by
  by_cases hn : rows = []
  · subst hn
    exact .list _ _ _ _ (fun _ => Go.undef) hc hl (fun h => absurd rfl h) fun i row hi => by simp at hi
  · obtain ⟨g, o, rfl, h'⟩ := h hn
    have key : ∀ q, q < rows.length * esz → ∃ i row j d, rows[i]? = some row ∧ row[j]? = some d ∧ q = i * esz + j := by
      intro q hq
      have he : 0 < esz := Nat.pos_of_ne_zero fun e => by subst e; simp at hq
      have hi : q / esz < rows.length := (Nat.div_lt_iff_lt_mul he).2 hq
      have hj : q % esz < rows[q / esz].length := by rw [hl _ (List.getElem_mem hi)]; exact Nat.mod_lt _ he
      exact ⟨q / esz, _, q % esz, _, List.getElem?_eq_getElem hi, List.getElem?_eq_getElem hj, by rw [Nat.mul_comm]; exact (Nat.div_add_mod q esz).symm⟩
    refine .list _ _ _ _ (fun q => (w.cell? (at_ g (o + q))).getD Go.undef) hc hl (fun _ => ⟨g, o, rfl, fun q hq => ?_⟩) fun i row hi j d hj => ?_
    · obtain ⟨i, row, j, d, hi, hj, rfl⟩ := key q hq
      obtain ⟨u, h1, h2, _⟩ := h' i row hi j d hj
      exact ⟨h1, by simp [h2]⟩
    · obtain ⟨u, h1, h2, h3⟩ := h' i row hi j d hj
      simpa [h2] using h3

theorem asIntOf_int (k : IntKind) (n : Int) (w : World) : (asIntOf (.int k n)).run P w = .ok (k, n) w := rfl

theorem indexAddrF_ok {α : Type} {X : Env} {t : TypeId} {a i : V} {K : Eff → Option α} {r : α} (h : indexAddrF X fr t a i K = some r) :
    ∃ x, (∀ (β : Type) (K' : Eff → Option β), indexAddrF X fr t a i K' = K' x) ∧ x.bx = [] ∧ x.tk = [] ∧
      ∀ (nt : Nat) (w0 : World) (S : Sp) (w : World) (A : As) (tmps : Array Value) (va vi : Value), St nt w0 S w A fr tmps → RV fr w A a va → RV fr w A i vi → ∃ v, (Instr.indexAt t va vi).run X.P w = .ok v w ∧ RV fr w A x.v v := by
  unfold indexAddrF at h
  split at h
  · rename_i e hu
    have hrun : ∀ (w : World) (k : IntKind) (n : Int) (g o len c : Nat), sz X.P e ≠ 0 → 0 ≤ n → n < (len : Int) → (Instr.indexAt t (.slice (some (at_ g o)) len c) (.int k n)).run X.P w = .ok (.pointer (some (at_ g (o + n.toNat * sz X.P e)))) w := by
      intro w k n g o len c hz h1 h2
      simp only [Instr.indexAt, Sem.run_bind, asIntOf_int, Result.andThen_ok, run_underlying' hu, Sem.run_pure, if_pos (And.intro h1 h2)]
      unfold sz at hz
      simp only [Sem.run_bind, run_sizeOf' hz, Result.andThen_ok, Sem.run_pure, at_add]
      rfl
    split at h
    · rename_i k ep
      split at h
      · rename_i y hy
        replace h := bif_some h; obtain ⟨hc, h⟩ := h
        replace h := intT_ok h; obtain ⟨n, hn, h, hv⟩ := h
        replace h := br_req h; obtain ⟨hb, h⟩ := h
        refine ⟨_, fun β K' => by simp only [indexAddrF, hu, hy, hc, cond_true, hn, hb, br]; rfl, rfl, rfl, fun nt w0 S w A tmps va vi hst ha hi => ?_⟩
        simp only [Bool.and_eq_true, Nat.beq_eq] at hc
        obtain ⟨kk, rfl⟩ := hv fr w A vi hi
        have := ha.own_inv hy hc.1
        subst this
        obtain ⟨h1, h2⟩ := inB_eq hb
        have hrel := (hst.tk k y hy).rel
        obtain ⟨a, c, e1, e2, e3⟩ := hrel.slice
        obtain ⟨g, hg, rfl⟩ := e3 (by omega)
        rw [e1]
        have hz : sz X.P e ≠ 0 := by rw [hg] at hrel; have := hrel.1; omega
        refine ⟨_, hrun w kk n g 0 _ c hz h1 h2, .one _ _ ⟨rfl, ⟨_, _, rfl⟩, y, hy, by omega, fun _ => ⟨by omega, g, hg, ?_⟩⟩⟩
        simp [hc.2]
      · cases h
    · rename_i k ep off len
      split at h
      · rename_i y hy
        replace h := bif_some h; obtain ⟨hc, h⟩ := h
        replace h := intT_ok h; obtain ⟨n, hn, h, hv⟩ := h
        replace h := br_req h; obtain ⟨hb, h⟩ := h
        refine ⟨_, fun β K' => by simp only [indexAddrF, hu, hy, hc, cond_true, hn, hb, br]; rfl, rfl, rfl, fun nt w0 S w A tmps va vi hst ha hi => ?_⟩
        simp only [Bool.and_eq_true, Nat.beq_eq] at hc
        obtain ⟨kk, rfl⟩ := hv fr w A vi hi
        obtain ⟨h0, a, c, rfl, e2, e3⟩ := ha.sub_inv hy hc.1
        obtain ⟨h1, h2⟩ := inB_eq hb
        have hrel := (hst.tk k y hy).rel
        obtain ⟨g, hg, rfl⟩ := e3 (by omega)
        have hz : sz X.P e ≠ 0 := by rw [hg] at hrel; have := hrel.1; omega
        refine ⟨_, hrun w kk n g _ _ c hz h1 h2, .one _ _ ⟨rfl, ⟨_, _, rfl⟩, y, hy, by omega, fun _ => ⟨by omega, g, hg, ?_⟩⟩⟩
        simp [hc.2, Nat.add_mul]
      · cases h
    · replace h := bif_not h; obtain ⟨hz0, h⟩ := h
      have hz := beq_false hz0
      replace h := takeL_some h; obtain ⟨e', rows, rfl, he, h⟩ := h
      replace h := intT_ok h; obtain ⟨n, hn, h, hv⟩ := h
      replace h := br_req h; obtain ⟨hb, h⟩ := h
      refine ⟨_, fun β K' => by simp only [indexAddrF, hu, hz0, cond_false, takeL, if_pos he, hn, hb, br]; rfl, rfl, rfl, fun nt w0 S w A tmps va vi hst ha hi => ?_⟩
      obtain ⟨kk, rfl⟩ := hv fr w A vi hi
      obtain ⟨h1, h2⟩ := inB_eq hb
      obtain ⟨a, c, rfl, e2, e3, e4⟩ := ha.d_inv.list_inv
      have hne : rows ≠ [] := fun e => by subst e; simp at h2; omega
      have he : e' = sz X.P e := he.resolve_right hne
      subst he
      obtain ⟨g, o, rfl, e5⟩ := e4 hne
      have hlt : n.toNat < rows.length := by omega
      have hrow : rows[n.toNat]? = some (rows.getD n.toNat []) := by simp [List.getD, List.getElem?_eq_getElem hlt]
      refine ⟨_, hrun w kk n g o _ c hz h1 h2, .one _ _ ⟨rfl, e3 _ (List.mem_of_getElem? hrow), g, o + n.toNat * sz X.P e, by simp, fun j d hj => ?_⟩⟩
      rw [Nat.add_assoc]
      exact e5 _ _ hrow j d hj
    · cases h
  · rename_i m e hu
    replace h := bif_not h; obtain ⟨hz0, h⟩ := h
    have hz := beq_false hz0
    replace h := intT_ok h; obtain ⟨n, hn, h, hv⟩ := h
    replace h := br_req h; obtain ⟨hb, h⟩ := h
    obtain ⟨h1, h2⟩ := inB_eq hb
    have hrun : ∀ (w : World) (k : IntKind) (g o : Nat), (Instr.indexAt t (.pointer (some (at_ g o))) (.int k n)).run X.P w = .ok (.pointer (some (at_ g (o + n.toNat * sz X.P e)))) w := by
      intro w k g o
      simp only [Instr.indexAt, Sem.run_bind, asIntOf_int, Result.andThen_ok, run_underlying' hu, Sem.run_pure, Instr.sureAddr, if_pos (And.intro h1 h2)]
      unfold sz at hz
      simp only [Sem.run_bind, run_sizeOf' hz, Result.andThen_ok, Sem.run_pure, at_add]
      rfl
    split at h
    · rename_i s ep o
      refine ⟨_, fun β K' => by simp only [indexAddrF, hu, hz0, cond_false, hn, hb, br]; rfl, rfl, rfl, fun nt w0 S w A tmps va vi hst ha hi => ?_⟩
      obtain ⟨kk, rfl⟩ := hv fr w A vi hi
      obtain ⟨_, ⟨k, q, rfl⟩, b, hb, he, hh⟩ := ha.one_inv
      refine ⟨_, hrun w kk _ _, .one _ _ ⟨rfl, ⟨_, _, rfl⟩, b, hb, he, fun e1 => ?_⟩⟩
      have := hh e1
      simp at this
      simp [this, Nat.add_assoc]
    · rename_i t' e' i' o
      refine ⟨_, fun β K' => by simp only [indexAddrF, hu, hz0, cond_false, hn, hb, br]; rfl, rfl, rfl, fun nt w0 S w A tmps va vi hst ha hi => ?_⟩
      obtain ⟨kk, rfl⟩ := hv fr w A vi hi
      obtain ⟨_, ⟨k, q, rfl⟩, b, hb, he, hh⟩ := ha.one_inv
      refine ⟨_, hrun w kk _ _, .one _ _ ⟨rfl, ⟨_, _, rfl⟩, b, hb, he, fun e1 => ?_⟩⟩
      obtain ⟨hi, gg, hg, hh⟩ := hh e1
      refine ⟨hi, gg, hg, ?_⟩
      simp at hh
      simp [hh, Nat.add_assoc]
    · rename_i esz row o
      refine ⟨_, fun β K' => by simp only [indexAddrF, hu, hz0, cond_false, hn, hb, br]; rfl, rfl, rfl, fun nt w0 S w A tmps va vi hst ha hi => ?_⟩
      obtain ⟨kk, rfl⟩ := hv fr w A vi hi
      obtain ⟨_, h2, gg, oo, rfl, hr⟩ := ha.one_inv
      exact ⟨_, hrun w kk _ _, .one _ _ ⟨rfl, h2, gg, oo, by rw [Nat.add_assoc], hr⟩⟩
    · cases h
  · cases h

theorem indexF_ok {α : Type} {X : Env} {t : TypeId} {a i : V} {K : V → Option α} {r : α} (h : indexF X t a i K = some r) :
    ∃ z, (∀ (β : Type) (K' : V → Option β), indexF X t a i K' = K' z) ∧ ∀ (fr : Fr) (w : World) (A : As) (va vi : Value), RV fr w A a va → RV fr w A i vi → ∃ v, (Instr.index t va vi).run X.P w = .ok v w ∧ RV fr w A z v := by
  unfold indexF at h
  split at h
  · rename_i x hu
    replace h := takeS_some h; obtain ⟨s, rfl, h⟩ := h
    replace h := intT_ok h; obtain ⟨n, hn, h, hv⟩ := h
    replace h := br_req h; obtain ⟨hb, h⟩ := h
    refine ⟨_, fun β K' => by simp only [indexF, hu, takeS, hn, hb, br]; rfl, fun fr w A va vi ha hi => ?_⟩
    obtain ⟨kk, rfl⟩ := hv fr w A vi hi
    rw [ha.d_inv.str_inv]
    obtain ⟨h1, h2⟩ := inB_eq hb
    have hlt : n.toNat < s.size := by omega
    have hg : s[n.toNat]? = some (s.data.toList.getD n.toNat 0) := by
      rw [getElem?_pos s n.toNat hlt]
      have hl : n.toNat < s.data.toList.length := by rw [Array.length_toList]; exact hlt
      simp only [List.getD_eq_getElem?_getD, List.getElem?_eq_getElem hl, Option.getD_some, Array.getElem_toList]
      rfl
    refine ⟨_, ?_, RV.int _ _⟩
    simp only [Instr.index, Sem.run_bind, asIntOf_int, Result.andThen_ok, run_underlying' hu, if_pos h1, hg, Sem.run_pure]
  · cases h

theorem lenF_ok {α : Type} {X : Env} {t : TypeId} {a : V} {K : Eff → Option α} {r : α} (h : lenF X fr t a K = some r) :
    ∃ x, (∀ (β : Type) (K' : Eff → Option β), lenF X fr t a K' = K' x) ∧ x.bx = [] ∧ x.tk = [] ∧
      ∀ (nt : Nat) (w0 : World) (S : Sp) (w : World) (A : As) (tmps : Array Value) (va : Value) (ty : TypeId) (ts : Array TypeId), ts[0]? = some t → St nt w0 S w A fr tmps → RV fr w A a va → ∃ v, (Builtin.len_ ts ty #[va]).run X.P w = .ok v w ∧ RV fr w A x.v v := by
  unfold lenF at h
  split at h
  · rename_i x hu
    replace h := takeS_some h; obtain ⟨s, rfl, h⟩ := h
    refine ⟨_, fun β K' => by simp only [lenF, hu, takeS]; rfl, rfl, rfl, fun nt w0 S w A tmps va ty ts hts hst ha => ?_⟩
    rw [ha.d_inv.str_inv]
    exact ⟨_, by simp [Builtin.len_, hts, run_underlying' hu]; rfl, RV.int _ _⟩
  · rename_i n e hu
    refine ⟨_, fun β K' => by simp only [lenF, hu]; rfl, rfl, rfl, fun nt w0 S w A tmps va ty ts hts hst ha => ?_⟩
    exact ⟨_, by simp [Builtin.len_, hts, run_underlying' hu]; rfl, RV.int _ _⟩
  · rename_i e hu
    refine ⟨_, fun β K' => by simp only [lenF, hu]; rfl, rfl, rfl, fun nt w0 S w A tmps va ty ts hts hst ha => ?_⟩
    obtain ⟨_, q, rfl⟩ := ha.one_inv
    exact ⟨_, by simp [Builtin.len_, hts, run_underlying' hu]; rfl, RV.int _ _⟩
  · rename_i e x hu
    replace h := takeR_some h; obtain ⟨esz, rows, rfl, h⟩ := h
    refine ⟨_, fun β K' => by simp only [lenF, hu, takeR]; rfl, rfl, rfl, fun nt w0 S w A tmps va ty ts hts hst ha => ?_⟩
    obtain ⟨q, c, rfl, _⟩ := ha.d_inv.list_inv
    exact ⟨_, by simp [Builtin.len_, hts, run_underlying' hu]; rfl, RV.int _ _⟩
  · rename_i e k ep hu
    split at h
    · rename_i y hy
      replace h := bif_some h; obtain ⟨hc, h⟩ := h
      refine ⟨_, fun β K' => by simp only [lenF, hu, hy, hc, cond_true]; rfl, rfl, rfl, fun nt w0 S w A tmps va ty ts hts hst ha => ?_⟩
      have := ha.own_inv hy (Nat.eq_of_beq_eq_true hc)
      subst this
      obtain ⟨q, c, e1, _⟩ := (hst.tk k y hy).rel.slice
      rw [e1]
      exact ⟨_, by simp [Builtin.len_, hts, run_underlying' hu]; rfl, RV.int _ _⟩
    · cases h
  · rename_i e k ep off len hu
    split at h
    · rename_i y hy
      replace h := bif_some h; obtain ⟨hc, h⟩ := h
      refine ⟨_, fun β K' => by simp only [lenF, hu, hy, hc, cond_true]; rfl, rfl, rfl, fun nt w0 S w A tmps va ty ts hts hst ha => ?_⟩
      obtain ⟨_, q, c, rfl, _⟩ := ha.sub_inv hy (Nat.eq_of_beq_eq_true hc)
      exact ⟨_, by simp [Builtin.len_, hts, run_underlying' hu]; rfl, RV.int _ _⟩
    · cases h
  · cases h

theorem minF_ok {α : Type} (mx : Bool) (k : IntKind) : ∀ (vs : List V) {a : Int} {K : V → Option α} {r : α}, minF mx k a vs K = some r →
    ∃ z, (∀ (β : Type) (K' : V → Option β), minF mx k a vs K' = K' z) ∧ ∀ (fr : Fr) (w : World) (A : As) (us : List Value), us.length = vs.length → (∀ (j : Nat) (x : V) (u : Value), vs[j]? = some x → us[j]? = some u → RV fr w A x u) →
      ∃ v, (us.foldlM (if mx then Builtin.max2 else Builtin.min2) (.int k a)).run P w = .ok v w ∧ RV fr w A z v
  | [], a, K, r, h => ⟨_, fun _ _ => rfl, fun fr w A us hl _ => by
      have : us = [] := List.length_eq_zero_iff.1 hl
      subst this
      exact ⟨_, rfl, RV.int _ _⟩⟩
  | .one (.d y) :: vs, a, K, r, h => by
    replace h := takeI_some h; obtain ⟨b, rfl, h⟩ := h
    obtain ⟨z, hz, hh⟩ := minF_ok mx k vs h
    refine ⟨z, fun β K' => by simp only [minF, takeI, if_true]; exact hz β K', fun fr w A us hl hr => ?_⟩
    match us, hl with
    | u :: us, hl =>
      have := (hr 0 _ u rfl rfl).d_inv.int_inv
      subst this
      obtain ⟨v, h1, h2⟩ := hh fr w A us (by simpa using hl) fun j x u h1 h2 => hr (j + 1) x u (by simpa using h1) (by simpa using h2)
      refine ⟨v, ?_, h2⟩
      cases mx <;> simp only [List.foldlM_cons, Sem.run_bind, Bool.false_eq_true, if_false, if_true, Builtin.min2, Builtin.max2, Sem.run_pure, Result.andThen_ok] <;> simpa using h1
  | .one .nil0 :: vs, a, K, r, h => by cases h
  | .one (.own _ _) :: vs, a, K, r, h => by cases h
  | .one (.sub _ _ _ _) :: vs, a, K, r, h => by cases h
  | .one (.ptr _ _ _) :: vs, a, K, r, h => by cases h
  | .one (.tptr _ _ _ _) :: vs, a, K, r, h => by cases h
  | .one (.rptr _ _ _) :: vs, a, K, r, h => by cases h
  | .one (.fn _ _) :: vs, a, K, r, h => by cases h
  | .one .undef :: vs, a, K, r, h => by cases h
  | .agg _ :: vs, a, K, r, h => by cases h
  | .tup _ :: vs, a, K, r, h => by cases h
  | .skip :: vs, a, K, r, h => by cases h
  | .any :: vs, a, K, r, h => by cases h

end Go.Vm
