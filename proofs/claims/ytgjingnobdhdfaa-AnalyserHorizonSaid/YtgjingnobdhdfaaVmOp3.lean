/- Cuts of slices; what is appended. -/
import Derived.Test.YtgjingnobdhdfaaVmOp2
import Derived.Deep.AppendSrc
import Derived.Deep.Upon
import Derived.Laws.Strings2
set_option linter.unusedVariables false
set_option linter.unusedSimpArgs false
namespace Go.Vm

variable {fr : Fr} {w : World} {A : As} {P : Program} {nt : Nat} {w0 : World} {S : Sp} {tmps : Array Value}

theorem run_bound (k : IntKind) (n : Int) (y : Nat) (code : BoundsCode) (h0 : 0 ≤ n) (h1 : n ≤ (y : Int)) (w : World) : (Instr.sliceBound (.int k n) y code).run P w = .ok n.toNat w := by
  simp only [Instr.sliceBound, Sem.run_bind, asIntOf_int, Result.andThen_ok, if_pos (And.intro h0 h1), Sem.run_pure]

/-- The values of optional operands. -/
def OV (fr : Fr) (w : World) (A : As) (x : Option V) (v : Option Value) : Prop := match x, v with
  | none, none => True
  | some x, some v => RV fr w A x v
  | _, _ => False

theorem cutLo_ok {α : Type} {lo : Option V} {q : Nat} {K : Nat → Option α} {r : α} (h : cutLo lo q K = some r) :
    ∃ l, (∀ (β : Type) (K' : Nat → Option β), cutLo lo q K' = K' l) ∧ K l = some r ∧ l ≤ q ∧
      ∀ (fr : Fr) (w : World) (A : As) (vl : Option Value), OV fr w A lo vl → (vl = none ∧ l = 0) ∨ ∃ k x, vl = some (.int k x) ∧ 0 ≤ x ∧ x ≤ (q : Int) ∧ l = x.toNat := by
  cases lo with
  | none => exact ⟨0, fun _ _ => rfl, h, Nat.zero_le _, fun fr w A vl hv => by cases vl with | none => exact .inl ⟨rfl, rfl⟩ | some v => exact hv.elim⟩
  | some lo =>
    simp only [cutLo] at h
    replace h := intT_ok h; obtain ⟨n, hn, h, hv⟩ := h
    replace h := br_req h; obtain ⟨hb, h⟩ := h
    have hb' : 0 ≤ n ∧ n ≤ (q : Int) := by simpa using hb
    refine ⟨n.toNat, fun β K' => by simp only [cutLo, hn, hb, br], h, by omega, fun fr w A vl ho => ?_⟩
    cases vl with
    | none => exact ho.elim
    | some v =>
      obtain ⟨k, rfl⟩ := hv fr w A v ho
      exact .inr ⟨k, n, rfl, hb'.1, hb'.2, rfl⟩

/-- The values of bounds l ≤ q ≤ len. -/
def Bd (vl vh : Option Value) (l q len : Nat) : Prop :=
  ((vl = none ∧ l = 0) ∨ ∃ k x, vl = some (.int k x) ∧ 0 ≤ x ∧ x ≤ (q : Int) ∧ l = x.toNat) ∧ ((vh = none ∧ q = len) ∨ ∃ k x, vh = some (.int k x) ∧ 0 ≤ x ∧ x ≤ (len : Int) ∧ q = x.toNat)
theorem cutB_ok {α : Type} {lo hi : Option V} {len : Nat} {K : Nat → Nat → Option α} {r : α} (h : cutB lo hi len K = some r) :
    ∃ l q, (∀ (β : Type) (K' : Nat → Nat → Option β), cutB lo hi len K' = K' l q) ∧ K l q = some r ∧ l ≤ q ∧ q ≤ len ∧
      ∀ (fr : Fr) (w : World) (A : As) (vl vh : Option Value), OV fr w A lo vl → OV fr w A hi vh → Bd vl vh l q len := by
  cases hi with
  | none =>
    simp only [cutB] at h
    obtain ⟨l, h1, h2, h3, h4⟩ := cutLo_ok h
    refine ⟨l, len, fun β K' => by simp only [cutB]; exact h1 β _, h2, h3, Nat.le_refl _, fun fr w A vl vh ol oh => ⟨h4 fr w A vl ol, ?_⟩⟩
    cases vh with
    | some v => exact oh.elim
    | none => exact .inl ⟨rfl, rfl⟩
  | some hi =>
    simp only [cutB] at h
    replace h := intT_ok h; obtain ⟨n, hn, h, hv⟩ := h
    replace h := br_req h; obtain ⟨hb, h⟩ := h
    have hb' : 0 ≤ n ∧ n ≤ (len : Int) := by simpa using hb
    obtain ⟨l, h1, h2, h3, h4⟩ := cutLo_ok h
    refine ⟨l, n.toNat, fun β K' => by simp only [cutB, hn, hb, br]; exact h1 β _, h2, h3, by omega, fun fr w A vl vh ol oh => ⟨h4 fr w A vl ol, ?_⟩⟩
    cases vh with
    | none => exact oh.elim
    | some v =>
      obtain ⟨k, rfl⟩ := hv fr w A v oh
      exact .inr ⟨k, n, rfl, hb'.1, hb'.2, rfl⟩

theorem Bd.run {vl vh : Option Value} {l q len : Nat} (h : Bd vl vh l q len) {cap : Nat} (hc : len ≤ cap) (b : Bool) (w : World) : (Instr.sliceBounds b len cap vl vh none).run P w = .ok (l, q, cap) w := by
  obtain ⟨h1, h2⟩ := h
  rcases h1 with ⟨rfl, rfl⟩ | ⟨k, x, rfl, x0, x1, rfl⟩ <;> rcases h2 with ⟨rfl, rfl⟩ | ⟨k', y, rfl, y0, y1, rfl⟩
  · simp [Instr.sliceBounds]
  · simp only [Instr.sliceBounds, Sem.run_bind, Sem.run_pure, Result.andThen_ok, run_bound (P := P) k' y cap _ y0 (by omega) w]
  · simp only [Instr.sliceBounds, Sem.run_bind, Sem.run_pure, Result.andThen_ok, run_bound (P := P) k x q _ x0 x1 w]
  · simp only [Instr.sliceBounds, Sem.run_bind, Sem.run_pure, Result.andThen_ok, run_bound (P := P) k' y cap _ y0 (by omega) w, run_bound (P := P) k x y.toNat _ x0 x1 w]
theorem Bd.runMax {vl vh : Option Value} {l q : Nat} {k : IntKind} {n : Int} (h : Bd vl vh l q n.toNat) (hs : vh.isSome) (h0 : 0 ≤ n) {len cap : Nat} (hc : n ≤ (cap : Int)) (b : Bool) (w : World) :
    (Instr.sliceBounds b len cap vl vh (some (.int k n))).run P w = .ok (l, q, n.toNat) w := by
  obtain ⟨h1, h2⟩ := h
  rcases h2 with ⟨rfl, _⟩ | ⟨k', y, rfl, y0, y1, rfl⟩
  · cases hs
  rcases h1 with ⟨rfl, rfl⟩ | ⟨k'', x, rfl, x0, x1, rfl⟩
  · simp only [Instr.sliceBounds, Sem.run_bind, Sem.run_pure, Result.andThen_ok, run_bound (P := P) k n cap _ h0 hc w, run_bound (P := P) k' y n.toNat _ y0 y1 w]
  · simp only [Instr.sliceBounds, Sem.run_bind, Sem.run_pure, Result.andThen_ok, run_bound (P := P) k n cap _ h0 hc w, run_bound (P := P) k' y n.toNat _ y0 y1 w, run_bound (P := P) k'' x y.toNat _ x0 x1 w]

/-- A cut of a slice in memory, from the bounds. -/
theorem run_cut {t e : TypeId} (hu : P.underlying t = some (.slice e)) (hz : sz P e ≠ 0) (a : Option Addr) (len cap : Nat) (vl vh vm : Option Value) {l q m : Nat} {w : World} (h : (Instr.sliceBounds true len cap vl vh vm).run P w = .ok (l, q, m) w) :
    (Instr.sliceAt t (.slice a len cap) vl vh vm).run P w = .ok (.slice (if m = l then a else a.map (·.add (l * sz P e))) (q - l) (m - l)) w := by
  unfold sz at *
  simp only [Instr.sliceAt, Sem.run_bind, run_underlying' hu, Result.andThen_ok, Instr.slice, h, run_sizeOf' hz, Sem.run_pure]

theorem OV.of {a : Act} (h : St nt w0 S w A fr a.tmps) (o : Option Operand) : OV fr w A (o.map (val fr)) (o.map a.eval) := by
  cases o with
  | none => trivial
  | some x => exact val_rv h x

theorem zeroO_eq {o : Option Operand} (h : zeroO o = true) : ∃ k, o = some (.const (.int k 0)) := by
  unfold zeroO at h
  split at h
  · exact ⟨_, rfl⟩
  · cases h

/-- Cut whatever way the text says, with or without a third bound: the bounds come out. -/
theorem cut_any {α : Type} {lo hi mx : Option Operand} {len : Nat} {K2 : Nat → Nat → Option α} {N : Option α} {r : α}
    (h : cutMx fr lo hi mx len N K2 = some r) :
    ((lo.isNone && zeroO hi && zeroO mx) = true ∧ N = some r ∧ (∀ (β : Type) (K' : Nat → Nat → Option β) (N' : Option β), cutMx fr lo hi mx len N' K' = N')) ∨
    ∃ l q, K2 l q = some r ∧ l ≤ q ∧ q ≤ len ∧ (∀ (β : Type) (K' : Nat → Nat → Option β) (N' : Option β), cutMx fr lo hi mx len N' K' = K' l q) ∧
      ∀ (nt : Nat) (w0 : World) (S : Sp) (w : World) (A : As) (a : Act) (cap : Nat) (P : Program), St nt w0 S w A fr a.tmps → len ≤ cap → ∃ m, q ≤ m ∧ m ≤ cap ∧ (Instr.sliceBounds true len cap (lo.map a.eval) (hi.map a.eval) (mx.map a.eval)).run P w = .ok (l, q, m) w := by
  cases mx with
  | none =>
    simp only [cutMx] at h
    obtain ⟨l, q, hK, h, h1, h2, hbd⟩ := cutB_ok h
    refine .inr ⟨l, q, h, h1, h2, fun β K' N' => by simp only [cutMx]; exact hK β K', fun nt w0 S w A a cap P hst hc => ⟨cap, by omega, Nat.le_refl _, ?_⟩⟩
    exact (hbd fr w A _ _ (OV.of hst lo) (OV.of hst hi)).run hc true w
  | some m =>
    cases hi with
    | none => simp [cutMx] at h
    | some hi =>
      simp only [cutMx] at h
      cases hz : (lo.isNone && zeroO (some hi) && zeroO (some m)) with
      | true =>
        rw [hz, cond_true] at h
        exact .inl ⟨rfl, h, fun β K' N' => by simp only [cutMx, hz, cond_true]⟩
      | false =>
        rw [hz, cond_false] at h
        replace h := intT_ok h; obtain ⟨n, hn, h, hv⟩ := h
        replace h := br_req h; obtain ⟨hb, h⟩ := h
        have hb' : 0 ≤ n ∧ n ≤ (len : Int) := by simpa using hb
        obtain ⟨l, q, hK, h, h1, h2, hbd⟩ := cutB_ok h
        refine .inr ⟨l, q, h, h1, by omega, fun β K' N' => by simp only [cutMx, hz, cond_false, hn, hb, br]; exact hK β K', fun nt w0 S w A a cap P hst hc => ⟨n.toNat, h2, by omega, ?_⟩⟩
        obtain ⟨k, hk⟩ := hv fr w A (a.eval m) (val_rv hst m)
        simp only [Option.map_some, hk]
        exact (hbd fr w A _ _ (OV.of hst lo) (OV.of hst (some hi))).runMax rfl hb'.1 (by omega) true w

theorem sliceF_ok {α : Type} {X : Env} {t : TypeId} {x : V} {lo hi mx : Option Operand} {K : Eff → Option α} {r : α} (h : sliceF X fr t x lo hi mx K = some r) :
    ∃ z, (∀ (β : Type) (K' : Eff → Option β), sliceF X fr t x lo hi mx K' = K' z) ∧ z.bx = [] ∧ z.tk = [] ∧
      ∀ (nt : Nat) (w0 : World) (S : Sp) (w : World) (A : As) (a : Act) (vx : Value), St nt w0 S w A fr a.tmps → RV fr w A x vx →
        ∃ v, (Instr.sliceAt t vx (lo.map a.eval) (hi.map a.eval) (mx.map a.eval)).run X.P w = .ok v w ∧ RV fr w A z.v v := by
  unfold sliceF at h
  split at h
  · rename_i hu
    split at h
    · rename_i x
      replace h := takeS_some h; obtain ⟨s, rfl, h⟩ := h
      obtain ⟨l, q, hK, h, h1, h2, hbd⟩ := cutB_ok h
      refine ⟨_, fun β K' => by simp only [sliceF, hu, takeS, hK]; rfl, rfl, rfl, fun nt w0 S w A a vx hst hx => ?_⟩
      rw [hx.d_inv.str_inv]
      have hb := hbd fr w A _ _ (OV.of hst lo) (OV.of hst hi)
      refine ⟨.string (s.extract l q), ?_, RV.str _⟩
      simp only [Instr.sliceAt, Sem.run_bind, run_underlying' hu, Result.andThen_ok, Instr.slice, Option.map_none, Option.isSome_none, Bool.false_eq_true, if_false, Sem.run_pure, hb.run (P := X.P) (Nat.le_refl _) false w]
    · cases h
  · rename_i e hu
    replace h := bif_not h; obtain ⟨hz0, h⟩ := h
    have hz := beq_false hz0
    -- s[:0:0]
    have zero : ∀ (nt : Nat) (w0 : World) (S : Sp) (w : World) (A : As) (a : Act) (ad : Option Addr) (len cap : Nat), (lo.isNone && zeroO hi && zeroO mx) = true → ∃ v, (Instr.sliceAt t (.slice ad len cap) (lo.map a.eval) (hi.map a.eval) (mx.map a.eval)).run X.P w = .ok v w ∧ RV fr w A (.one .nil0) v := by
      intro nt w0 S w A a ad len cap hh
      simp only [Bool.and_eq_true] at hh
      obtain ⟨⟨h1, h2⟩, h3⟩ := hh
      obtain ⟨k1, rfl⟩ := zeroO_eq h2
      obtain ⟨k2, rfl⟩ := zeroO_eq h3
      have : lo = none := by simpa using h1
      subst this
      refine ⟨.slice ad 0 0, ?_, .one _ _ ⟨rfl, ad, rfl⟩⟩
      have hb : Bd (none : Option Value) (some (.int k1 0)) 0 0 (0 : Int).toNat := ⟨.inl ⟨rfl, rfl⟩, .inr ⟨k1, 0, rfl, by omega, by omega, rfl⟩⟩
      have := run_cut (P := X.P) hu hz ad len cap none (some (.int k1 0)) (some (.int k2 0)) (hb.runMax (P := X.P) (len := len) (cap := cap) (k := k2) rfl (by omega) (by omega) true w)
      simpa [Act.eval] using this
    split at h
    · rename_i k ep
      split at h
      · rename_i y hy
        replace h := bif_some h; obtain ⟨hc, h⟩ := h
        have hcc := hc
        simp only [Bool.and_eq_true, Bool.or_eq_true, Nat.beq_eq] at hc
        rcases cut_any h with ⟨hh, h, hK⟩ | ⟨l, q, h, h1, h2, hK, hrun⟩
        · refine ⟨_, fun β K' => by simp only [sliceF, hu, hz0, cond_false, hy, hcc, cond_true]; exact hK β _ _, rfl, rfl, fun nt w0 S w A a vx hst hx => ?_⟩
          have := hx.own_inv hy hc.1
          subst this
          obtain ⟨ad, c, e1, e2, e3⟩ := (hst.tk k y hy).rel.slice
          rw [e1]
          exact zero nt w0 S w A a ad _ _ hh
        · refine ⟨_, fun β K' => by simp only [sliceF, hu, hz0, cond_false, hy, hcc, cond_true]; exact hK β _ _, rfl, rfl, fun nt w0 S w A a vx hst hx => ?_⟩
          have := hx.own_inv hy hc.1
          subst this
          have hrel := (hst.tk k y hy).rel
          obtain ⟨ad, c, e1, e2, e3⟩ := hrel.slice
          rw [e1]
          obtain ⟨m, m1, m2, hb⟩ := hrun nt w0 S w A a c X.P hst e2
          refine ⟨_, run_cut hu hz ad _ c _ _ _ hb, .one _ _ ⟨rfl, y, hy, by omega, fun _ => ⟨by omega, _, _, rfl, by omega, fun h0 => ?_⟩⟩⟩
          obtain ⟨g, hg, rfl⟩ := e3 (by omega)
          refine ⟨g, hg, ?_⟩
          rw [hg] at hrel
          have := hrel.1
          rw [if_neg (by omega), hc.2.resolve_right (by omega)]
          simp [at_add]
      · cases h
    · rename_i k ep off len
      split at h
      · rename_i y hy
        replace h := bif_some h; obtain ⟨hc, h⟩ := h
        have hcc := hc
        simp only [Bool.and_eq_true, Bool.or_eq_true, Nat.beq_eq] at hc
        rcases cut_any h with ⟨hh, h, hK⟩ | ⟨l, q, h, h1, h2, hK, hrun⟩
        · refine ⟨_, fun β K' => by simp only [sliceF, hu, hz0, cond_false, hy, hcc, cond_true]; exact hK β _ _, rfl, rfl, fun nt w0 S w A a vx hst hx => ?_⟩
          obtain ⟨_, ad, c, rfl, e2, e3⟩ := hx.sub_inv hy hc.1
          exact zero nt w0 S w A a ad _ _ hh
        · refine ⟨_, fun β K' => by simp only [sliceF, hu, hz0, cond_false, hy, hcc, cond_true]; exact hK β _ _, rfl, rfl, fun nt w0 S w A a vx hst hx => ?_⟩
          have hrel := (hst.tk k y hy).rel
          obtain ⟨e0, ad, c, rfl, e2, e3⟩ := hx.sub_inv hy hc.1
          obtain ⟨m, m1, m2, hb⟩ := hrun nt w0 S w A a c X.P hst e2
          refine ⟨_, run_cut hu hz ad _ c _ _ _ hb, .one _ _ ⟨rfl, y, hy, by omega, fun _ => ⟨by omega, _, _, rfl, by omega, fun h0 => ?_⟩⟩⟩
          obtain ⟨g, hg, rfl⟩ := e3 (by omega)
          refine ⟨g, hg, ?_⟩
          rw [hg] at hrel
          have := hrel.1
          rw [if_neg (by omega), hc.2.resolve_right (by omega)]
          simp [Nat.add_mul, at_add]
      · cases h
    · rcases cut_any h with ⟨hh, h, hK⟩ | ⟨l, q, h, h1, h2, hK, hrun⟩
      · refine ⟨_, fun β K' => by simp only [sliceF, hu, hz0, cond_false]; exact hK β _ _, rfl, rfl, fun nt w0 S w A a vx hst hx => ?_⟩
        obtain ⟨_, ad, rfl⟩ := hx.one_inv
        exact zero nt w0 S w A a ad _ _ hh
      · refine ⟨_, fun β K' => by simp only [sliceF, hu, hz0, cond_false]; exact hK β _ _, rfl, rfl, fun nt w0 S w A a vx hst hx => ?_⟩
        obtain ⟨_, ad, rfl⟩ := hx.one_inv
        obtain ⟨m, m1, m2, hb⟩ := hrun nt w0 S w A a 0 X.P hst (by omega)
        have hm : m = 0 := by omega
        have hq : q = 0 := by omega
        have hl : l = 0 := by omega
        subst hm hq hl
        exact ⟨_, run_cut hu hz ad _ 0 _ _ _ hb, .one _ _ ⟨rfl, _, rfl⟩⟩
    · replace h := takeL_some h; obtain ⟨e', rows, rfl, he, h⟩ := h
      rcases cut_any h with ⟨hh, h, hK⟩ | ⟨l, q, h, h1, h2, hK, hrun⟩
      · refine ⟨_, fun β K' => by simp only [sliceF, hu, hz0, cond_false, takeL, if_pos he]; exact hK β _ _, rfl, rfl, fun nt w0 S w A a vx hst hx => ?_⟩
        obtain ⟨ad, c, rfl, _⟩ := hx.d_inv.list_inv
        exact zero nt w0 S w A a ad _ _ hh
      · refine ⟨_, fun β K' => by simp only [sliceF, hu, hz0, cond_false, takeL, if_pos he]; exact hK β _ _, rfl, rfl, fun nt w0 S w A a vx hst hx => ?_⟩
        obtain ⟨ad, c, rfl, e2, e3, e4⟩ := hx.d_inv.list_inv
        obtain ⟨m, m1, m2, hb⟩ := hrun nt w0 S w A a c X.P hst e2
        refine ⟨_, run_cut hu hz ad _ c _ _ _ hb, .one _ _ ⟨rfl, ?_⟩⟩
        have hlen : ((rows.take q).drop l).length = q - l := by rw [List.length_drop, List.length_take]; omega
        have hmk := Rd.mk_list (w := w) (Im := A.Im) (esz := sz X.P e) (rows := (rows.take q).drop l) (A := if m = l then ad else ad.map (·.add (l * sz X.P e))) (c := m - l) (by omega) (fun row hr => ?_) (fun hne => ?_)
        · rwa [hlen] at hmk
        · have hr' := List.mem_of_mem_take (List.mem_of_mem_drop hr)
          rw [e3 row hr']
          exact he.resolve_right fun h => by subst h; cases hr'
        · have hn0 : rows ≠ [] := fun h => by subst h; simp at hne
          have he' := he.resolve_right hn0
          subst he'
          obtain ⟨g, o, rfl, e5⟩ := e4 hn0
          have hql : l < q := by
            have : 0 < ((rows.take q).drop l).length := List.length_pos_iff.2 hne
            omega
          refine ⟨g, o + l * sz X.P e, by rw [if_neg (by omega)]; simp [at_add], fun i row hi j d hj => ?_⟩
          rw [List.getElem?_drop, List.getElem?_take] at hi
          split at hi
          · have := e5 _ row hi j d hj
            rw [show o + l * sz X.P e + (i * sz X.P e + j) = o + ((l + i) * sz X.P e + j) by rw [Nat.add_mul]; omega]
            exact this
          · cases hi
    · cases h
  · cases h

end Go.Vm
