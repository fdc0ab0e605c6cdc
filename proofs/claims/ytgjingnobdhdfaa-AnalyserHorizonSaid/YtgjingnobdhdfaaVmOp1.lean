/- Operations that look at no memory. -/
import Derived.Test.YtgjingnobdhdfaaVmSt
import Derived.Laws.StructEq
import Derived.Laws.Unary
set_option linter.unusedVariables false
set_option linter.unusedSimpArgs false
namespace Go.Vm

section inv
variable {α : Type} {r : α}
theorem br_some {b : Bool} {x y : Option α} (h : br b x y = some r) : (b = true ∧ x = some r) ∨ (b = false ∧ y = some r) := by cases b <;> simp_all [br]
theorem br_req {b : Bool} {x : Option α} (h : br b x none = some r) : b = true ∧ x = some r := by cases b <;> simp_all [br]
theorem br_not {b : Bool} {x : Option α} (h : br b none x = some r) : b = false ∧ x = some r := by cases b <;> simp_all [br]
theorem takeB_some {x : D} {K : Bool → Option α} (h : takeB x K = some r) : ∃ b, x = .bool b ∧ K b = some r := by cases x <;> simp_all [takeB]
theorem takeI_some {k : IntKind} {x : D} {K : Int → Option α} (h : takeI k x K = some r) : ∃ n, x = .int k n ∧ K n = some r := by
  cases x <;> simp_all [takeI]
theorem takeS_some {x : D} {K : ByteArray → Option α} (h : takeS x K = some r) : ∃ s, x = .str s ∧ K s = some r := by cases x <;> simp_all [takeS]
theorem takeL_some {e : Nat} {x : D} {K : List (List D) → Option α} (h : takeL e x K = some r) : ∃ e' rows, x = .list e' rows ∧ (e' = e ∨ rows = []) ∧ K rows = some r := by
  cases x with
  | list e' rows => simp only [takeL] at h; split at h <;> first | exact ⟨e', rows, rfl, by assumption, h⟩ | cases h
  | _ => simp [takeL] at h
theorem takeN_some {x : D} {K : Int → Option α} (h : takeN x K = some r) : ∃ k n, x = .int k n ∧ K n = some r := by
  by_cases hx : ∃ k n, x = .int k n
  · obtain ⟨k, n, rfl⟩ := hx; exact ⟨k, n, rfl, h⟩
  · cases x <;> first | exact absurd ⟨_, _, rfl⟩ hx | cases h
theorem takeR_some {x : D} {K : List (List D) → Option α} (h : takeR x K = some r) : ∃ e l, x = .list e l ∧ K l = some r := by
  by_cases hx : ∃ k n, x = .list k n
  · obtain ⟨k, n, rfl⟩ := hx; exact ⟨k, n, rfl, h⟩
  · cases x <;> first | exact absurd ⟨_, _, rfl⟩ hx | cases h
theorem obind_some {β : Type} {x : Option β} {K : β → Option α} (h : obind x K = some r) : ∃ y, x = some y ∧ K y = some r := by cases x <;> simp_all [obind]
theorem bif_some {c : Bool} {x : Option α} (h : (bif c then x else none) = some r) : c = true ∧ x = some r := by cases c <;> simp_all
theorem bif_not {c : Bool} {x : Option α} (h : (bif c then none else x) = some r) : c = false ∧ x = some r := by cases c <;> simp_all
end inv

variable {fr : Fr} {w : World} {A : As}
theorem RV.d_inv {x : D} {v : Value} (h : RV fr w A (.one (.d x)) v) : Rd w A.Im x v := by cases h with | one c v h => exact h.2
theorem RV.one_inv {c : C} {v : Value} (h : RV fr w A (.one c) v) : RC fr w A c v := by cases h with | one c v h => exact h
theorem RV.agg_inv {cs : List C} {v : Value} (h : RV fr w A (.agg cs) v) : ∃ vs, v = .agg vs ∧ RCs fr w A cs vs.toList := by cases h with | agg cs vs h => exact ⟨vs, rfl, h⟩
theorem Rd.int_inv {Im : Pl} {k : IntKind} {n : Int} {v : Value} (h : Rd w Im (.int k n) v) : v = .int k n := by cases h; rfl
theorem Rd.bool_inv {Im : Pl} {b : Bool} {v : Value} (h : Rd w Im (.bool b) v) : v = .bool b := by cases h; rfl
theorem Rd.str_inv {Im : Pl} {s : ByteArray} {v : Value} (h : Rd w Im (.str s) v) : v = .string s := by cases h; rfl
theorem RV.int (k : IntKind) (n : Int) : RV fr w A (.one (.d (.int k n))) (.int k n) := .one _ _ ⟨rfl, .int k n⟩
theorem RV.bool (b : Bool) : RV fr w A (.one (.d (.bool b))) (.bool b) := .one _ _ ⟨rfl, .bool b⟩
theorem RV.str (s : ByteArray) : RV fr w A (.one (.d (.str s))) (.string s) := .one _ _ ⟨rfl, .str s⟩
theorem RC.d_inv {x : D} {v : Value} (h : RC fr w A (.d x) v) : Rd w A.Im x v := h.2

/-! ### Constants -/
theorem dOf_rd {v : Value} {x : D} {Im : Pl} (h : dOf v = some x) : Rd w Im x v := by
  cases v with
  | bool b => simp [dOf] at h; subst h; exact .bool b
  | int k n => simp [dOf] at h; subst h; exact .int k n
  | string s => simp [dOf] at h; subst h; exact .str s
  | pointer a => cases a <;> simp [dOf] at h; subst h; exact .nilp
  | func f a b =>
    cases f with
    | func f =>
      simp only [dOf] at h
      split at h
      · split at h
        · rename_i h1 h2
          injection h with h
          subst h
          have e1 : a = #[] := by simpa using h1
          have e2 : b = #[] := by simpa using h2
          subst e1 e2
          exact .fn f
        · cases h
      · cases h
    | _ => simp [dOf] at h
  | _ => simp [dOf] at h
theorem cOf_rc {v : Value} (h1 : oneC v = true) : RC fr w A (cOf v) v := by
  refine ⟨h1, ?_⟩
  unfold cOf
  split
  · exact ⟨none, rfl⟩
  · cases hd : dOf v with
    | none => trivial
    | some x => exact dOf_rd hd
theorem vOf_rv (v : Value) : RV fr w A (vOf v) v := by
  unfold vOf
  split
  · rename_i cs
    cases hc : cs.toList.all oneC with
    | false => exact .any _
    | true =>
      refine .agg _ _ ⟨by simp, fun j c v h1 h2 => ?_⟩
      rw [List.getElem?_map, h2] at h1
      simp at h1
      subst h1
      exact cOf_rc (List.all_eq_true.1 hc v (List.mem_of_getElem? h2))
  · exact .any _
  · rename_i h1 h2
    refine .one _ _ (cOf_rc ?_)
    cases v <;> simp_all [oneC]

variable {nt : Nat} {w0 : World} {S : Sp}
theorem val_rv {a : Act} (h : St nt w0 S w A fr a.tmps) (x : Operand) : RV fr w A (val fr x) (a.eval x) := by
  cases x with
  | tmp t => exact h.tm t
  | const v => exact vOf_rv v
  | global g => exact .any _
  | func f => exact .one _ _ ⟨rfl, .fn f⟩

/-! ### Arithmetic -/
variable {P : Program}
theorem cmpI_ok {α : Type} {op : BinOp} {a b : Int} {K : C → Option α} {r : α} (h : cmpI op a b K = some r) :
    ∃ c, (∀ (β : Type) (K' : C → Option β), cmpI op a b K' = K' c) ∧ ∃ x, c = .d (.bool x) ∧ ∀ w, (Op.intCmp op a b).run P w = .ok (.bool x) w := by
  cases op <;> simp only [cmpI] at h <;> first | (cases h; done) | exact ⟨_, fun _ _ => rfl, _, rfl, fun w => rfl⟩
theorem arI_ok {α : Type} {op : BinOp} {k : IntKind} {a b : Int} {K : C → Option α} {r : α} (h : arI op k a b K = some r) (hs : op ≠ .shl) (hs' : op ≠ .shr) (t : TypeId) :
    ∃ c, (∀ (β : Type) (K' : C → Option β), arI op k a b K' = K' c) ∧ ∃ x v, c = .d x ∧ (∀ w, (binOp op t (.int k a) (.int k b)).run P w = .ok v w) ∧ ∀ fr w A, RV fr w A (.one (.d x)) v := by
  cases op <;> simp only [arI] at h
  case shl => exact absurd rfl hs
  case shr => exact absurd rfl hs'
  case quo =>
    obtain ⟨h1, h2⟩ := br_not h
    refine ⟨_, fun β K' => by simp only [arI, h1, br]; rfl, _, _, rfl, fun w => ?_, fun _ _ _ => RV.int _ _⟩
    have : ¬ b = 0 := by simpa using h1
    simp [binOp, Op.intDiv, this]
  case rem =>
    obtain ⟨h1, h2⟩ := br_not h
    refine ⟨_, fun β K' => by simp only [arI, h1, br]; rfl, _, _, rfl, fun w => ?_, fun _ _ _ => RV.int _ _⟩
    have : ¬ b = 0 := by simpa using h1
    simp [binOp, Op.intDiv, this]
  case add => exact ⟨_, fun _ _ => rfl, _, _, rfl, fun w => by simp [binOp, Op.intArith], fun _ _ _ => RV.int _ _⟩
  case sub => exact ⟨_, fun _ _ => rfl, _, _, rfl, fun w => by simp [binOp, Op.intArith], fun _ _ _ => RV.int _ _⟩
  case mul => exact ⟨_, fun _ _ => rfl, _, _, rfl, fun w => by simp [binOp, Op.intArith], fun _ _ _ => RV.int _ _⟩
  case and => exact ⟨_, fun _ _ => rfl, _, _, rfl, fun w => by simp [binOp, Op.intBits], fun _ _ _ => RV.int _ _⟩
  case or => exact ⟨_, fun _ _ => rfl, _, _, rfl, fun w => by simp [binOp, Op.intBits], fun _ _ _ => RV.int _ _⟩
  case xor => exact ⟨_, fun _ _ => rfl, _, _, rfl, fun w => by simp [binOp, Op.intBits], fun _ _ _ => RV.int _ _⟩
  case andNot => exact ⟨_, fun _ _ => rfl, _, _, rfl, fun w => by simp [binOp, Op.intBits], fun _ _ _ => RV.int _ _⟩
  all_goals
    obtain ⟨c, h1, x, rfl, h2⟩ := cmpI_ok (P := P) h
    exact ⟨_, fun β K' => by simp only [arI]; exact h1 β K', _, _, rfl, fun w => by simp only [binOp, ne_eq, not_true_eq_false, if_false]; exact h2 w, fun _ _ _ => RV.bool _⟩
theorem shI_ok {α : Type} {op : BinOp} {k k' : IntKind} {a b : Int} {K : C → Option α} {r : α} (h : shI op k a b K = some r) (t : TypeId) :
    ∃ c, (∀ (β : Type) (K' : C → Option β), shI op k a b K' = K' c) ∧ ∃ x v, c = .d x ∧ (∀ w, (binOp op t (.int k a) (.int k' b)).run P w = .ok v w) ∧ ∀ fr w A, RV fr w A (.one (.d x)) v := by
  cases op <;> simp only [shI] at h <;> try (cases h; done)
  all_goals
    obtain ⟨h1, h2⟩ := br_not h
    have : ¬ b < 0 := by simpa using h1
    exact ⟨_, fun β K' => by simp only [shI, h1, br]; rfl, _, _, rfl, fun w => by simp [binOp, Op.shift, this], fun _ _ _ => RV.int _ _⟩
theorem cmpS_ok {α : Type} {op : BinOp} {a b : ByteArray} {K : C → Option α} {r : α} (h : cmpS op a b K = some r) (t : TypeId) :
    ∃ c, (∀ (β : Type) (K' : C → Option β), cmpS op a b K' = K' c) ∧ ∃ x v, c = .d x ∧ (∀ w, (binOp op t (.string a) (.string b)).run P w = .ok v w) ∧ ∀ fr w A, RV fr w A (.one (.d x)) v := by
  cases op <;> simp only [cmpS] at h <;> try (cases h; done)
  case add =>
    obtain ⟨h1, h2⟩ := br_not h
    have : ¬ ((a.size + b.size : Nat) : Int) > IntKind.i64.max := by simpa using h1
    exact ⟨_, fun β K' => by simp only [cmpS, h1, br]; rfl, _, _, rfl, fun w => by simp only [binOp, Op.stringOp, if_neg this]; rfl, fun _ _ _ => RV.str _⟩
  all_goals exact ⟨_, fun β K' => rfl, _, _, rfl, fun w => by simp [binOp, Op.stringOp], fun _ _ _ => RV.bool _⟩
theorem cmpB_ok {α : Type} {op : BinOp} {a b : Bool} {K : C → Option α} {r : α} (h : cmpB op a b K = some r) (t : TypeId) (ht : P.underlying t = some .bool) :
    ∃ c, (∀ (β : Type) (K' : C → Option β), cmpB op a b K' = K' c) ∧ ∃ x v, c = .d x ∧ (∀ w, (binOp op t (.bool a) (.bool b)).run P w = .ok v w) ∧ ∀ fr w A, RV fr w A (.one (.d x)) v := by
  cases op <;> simp only [cmpB] at h <;> try (cases h; done)
  all_goals exact ⟨_, fun β K' => rfl, _, _, rfl, fun w => by simp [binOp, Op.equal, Op.maxDepth, run_equalIn_bool' w 9999 t a b ht], fun _ _ _ => RV.bool _⟩

/-- A part of an aggregate's cells. -/
def partV (P : Program) (t : TypeId) (vs : List Value) : Value := if isAggT P t then .agg vs.toArray else vs.headD Go.undef
theorem run_underlying' {t : TypeId} {d : TypeDesc} (h : P.underlying t = some d) (w : World) : (underlying t).run P w = .ok d w := by simp [underlying, h]
theorem run_isAgg' {t : TypeId} (hs : (P.underlying t).isSome) (w : World) : (isAgg t).run P w = .ok (isAggT P t) w := by
  obtain ⟨d, hd⟩ := Option.isSome_iff_exists.1 hs
  cases d <;> simp [isAgg, run_underlying' hd, isAggT, hd]
theorem info_of_sz {t : TypeId} {n : Nat} (h : P.cellsOf t = n) (hn : n ≠ 0) : ∃ i, P.info? t = some i ∧ i.size = n := by
  unfold Program.cellsOf at h
  cases hi : P.info? t with
  | none => simp [hi] at h; omega
  | some i => exact ⟨i, rfl, by simpa [hi] using h⟩
theorem run_sizeOf' {t : TypeId} (h : P.cellsOf t ≠ 0) (w : World) : (sizeOf t).run P w = .ok (P.cellsOf t) w := by
  obtain ⟨i, hi, hs⟩ := info_of_sz rfl h
  simp [sizeOf, typeInfo, hi, hs]
theorem und_of_info {t : TypeId} (h : (P.underlying t).isSome) : ∃ i, P.info? t = some i := by
  unfold Program.underlying at h
  cases hi : P.info? t with
  | none => simp [hi] at h
  | some i => exact ⟨i, rfl⟩
theorem run_sizeOf'' {t : TypeId} (h : (P.underlying t).isSome) (w : World) : (sizeOf t).run P w = .ok (P.cellsOf t) w := by
  obtain ⟨i, hi⟩ := und_of_info h
  simp [sizeOf, typeInfo, hi, Program.cellsOf]
theorem run_part {t : TypeId} (ht : (P.underlying t).isSome) (vs : Array Value) (off : Nat) (hl : off + P.cellsOf t ≤ vs.size) (h1 : isAggT P t = false → 0 < P.cellsOf t) (w : World) :
    (part t vs off).run P w = .ok (partV P t ((vs.toList.drop off).take (P.cellsOf t))) w := by
  simp only [part, Sem.run_bind, run_isAgg' ht, Result.andThen_ok, partV]
  cases ha : isAggT P t with
  | true =>
    simp only [if_true, Sem.run_bind, run_sizeOf'' ht, Result.andThen_ok, Sem.run_pure]
    congr 2
    apply Array.ext'
    simp [List.extract_eq_take_drop, Nat.add_sub_cancel_left]
  | false =>
    have := h1 ha
    have hlt : off < vs.size := by omega
    simp only [Bool.false_eq_true, if_false, Array.getElem?_eq_getElem hlt, Sem.run_pure]
    congr 1
    obtain ⟨m, hm⟩ : ∃ m, P.cellsOf t = m + 1 := ⟨P.cellsOf t - 1, by omega⟩
    rw [hm, List.headD_eq_head?_getD, List.head?_take, List.head?_drop]
    simp [hlt]

theorem RCs.cut {cs : List C} {vs : List Value} (h : RCs fr w A cs vs) (off n : Nat) : RCs fr w A ((cs.drop off).take n) ((vs.drop off).take n) := by
  refine ⟨by simp [h.1], fun j c v h1 h2 => ?_⟩
  rw [List.getElem?_take] at h1 h2
  split at h1
  · rw [List.getElem?_drop] at h1
    rw [if_pos (by assumption), List.getElem?_drop] at h2
    exact h.2 _ c v h1 h2
  · cases h1

theorem RCs.one_inv {x : D} {vs : List Value} (h : RCs fr w A [.d x] vs) : ∃ v, vs = [v] ∧ Rd w A.Im x v := by
  obtain ⟨h1, h2⟩ := h
  match vs, h1 with
  | [v], _ => exact ⟨v, rfl, (h2 0 (.d x) v rfl rfl).2⟩

theorem eqT_ok : ∀ (n : Nat) {α : Type} {t : TypeId} {xs ys : List C} {K : Bool → Option α} {r : α}, eqT P n t xs ys K = some r →
    ∃ b, (∀ (β : Type) (K' : Bool → Option β), eqT P n t xs ys K' = K' b) ∧ (P.underlying t).isSome ∧ (isAggT P t = false → xs.length = 1 ∧ ys.length = 1) ∧
      ∀ (fr : Fr) (w : World) (A : As) (m : Nat) (vx vy : List Value), RCs fr w A xs vx → RCs fr w A ys vy → (Op.equalIn (n + m) t (partV P t vx) (partV P t vy)).run P w = .ok b w := by
  intro n
  induction n with
  | zero => intro α t xs ys K r h; simp [eqT] at h
  | succ n ih =>
    intro α t xs ys K r h
    have leaf : ∀ {d : TypeDesc}, P.underlying t = some d → (isAggT P t = false) → ∀ {x y : D} {b : Bool}, xs = [.d x] → ys = [.d y] → (∀ (β : Type) (K' : Bool → Option β), eqT P (n + 1) t [.d x] [.d y] K' = K' b) →
        (∀ (w : World) (Im : Pl) (m : Nat) v u, Rd w Im x v → Rd w Im y u → (Op.equalIn (m + 1) t v u).run P w = .ok b w) →
        ∃ b, (∀ (β : Type) (K' : Bool → Option β), eqT P (n + 1) t xs ys K' = K' b) ∧ (P.underlying t).isSome ∧ (isAggT P t = false → xs.length = 1 ∧ ys.length = 1) ∧
          ∀ (fr : Fr) (w : World) (A : As) (m : Nat) (vx vy : List Value), RCs fr w A xs vx → RCs fr w A ys vy → (Op.equalIn (n + 1 + m) t (partV P t vx) (partV P t vy)).run P w = .ok b w := by
      intro d hd ha x y b hx hy hK hrun
      subst hx hy
      refine ⟨b, hK, by simp [hd], fun _ => ⟨rfl, rfl⟩, fun fr w A m vx vy h1 h2 => ?_⟩
      obtain ⟨v, rfl, q1⟩ := h1.one_inv
      obtain ⟨u, rfl, q2⟩ := h2.one_inv
      rw [show n + 1 + m = (n + m) + 1 by omega]
      simp only [partV, ha, Bool.false_eq_true, if_false, List.headD_cons]
      exact hrun w A.Im _ v u q1 q2
    unfold eqT at h
    split at h
    · rename_i hd
      split at h
      · obtain ⟨a, hx, h'⟩ := takeB_some h
        obtain ⟨b, hy, h''⟩ := takeB_some h'
        clear h h' h''
        subst hx hy
        exact leaf (b := a == b) hd (by simp [isAggT, hd]) rfl rfl (fun β K' => by simp [eqT, hd, takeB]) fun w Im m v u h1 h2 => by rw [h1.bool_inv, h2.bool_inv]; exact run_equalIn_bool' w m t a b hd
      · cases h
    · rename_i k hd
      split at h
      · obtain ⟨a, hx, h'⟩ := takeI_some h
        obtain ⟨b, hy, h''⟩ := takeI_some h'
        clear h h' h''
        subst hx hy
        exact leaf (b := a == b) hd (by simp [isAggT, hd]) rfl rfl (fun β K' => by simp [eqT, hd, takeI]) fun w Im m v u h1 h2 => by rw [h1.int_inv, h2.int_inv]; exact run_equalIn_int w m t k k a b hd
      · cases h
    · rename_i hd
      split at h
      · obtain ⟨a, hx, h'⟩ := takeS_some h
        obtain ⟨b, hy, h''⟩ := takeS_some h'
        clear h h' h''
        subst hx hy
        exact leaf (b := a.toList == b.toList) hd (by simp [isAggT, hd]) rfl rfl (fun β K' => by simp [eqT, hd, takeS]) fun w Im m v u h1 h2 => by rw [h1.str_inv, h2.str_inv]; exact run_equalIn_string w m t a b hd
      · cases h
    · rename_i fs hd
      obtain ⟨hst, h⟩ := bif_not h
      have key : ∀ (l : List Field) {α : Type} {K : Bool → Option α} {r : α}, eqFs P (eqT P n) xs ys l K = some r → ∃ b, (∀ (β : Type) (K' : Bool → Option β), eqFs P (eqT P n) xs ys l K' = K' b) ∧
          ∀ (fr : Fr) (w : World) (A : As) (m : Nat) (vx vy : List Value), RCs fr w A xs vx → RCs fr w A ys vy → (Op.eqFields (n + m) vx.toArray vy.toArray l).run P w = .ok b w := by
        intro l
        induction l with
        | nil => intro α K r h; exact ⟨true, fun _ _ => rfl, fun fr w A m vx vy _ _ => by simp [Op.eqFields]⟩
        | cons f l ihl =>
          intro α K r h
          simp only [eqFs] at h
          obtain ⟨hn, h⟩ := bif_not h
          obtain ⟨hb, h⟩ := bif_some h
          obtain ⟨b, hK, hu, hl1, hrun⟩ := ih h
          rw [hK] at h
          obtain ⟨b2, hK2, hrun2⟩ := ihl h
          have hne : f.name ≠ "_" := by simpa using hn
          simp only [Bool.and_eq_true, Nat.ble_eq] at hb
          refine ⟨b && b2, fun β K' => ?_, fun fr w A m vx vy h1 h2 => ?_⟩
          · simp only [eqFs, hn, cond_false]
            rw [show (Nat.ble (f.offset + sz P f.type) xs.length && Nat.ble (f.offset + sz P f.type) ys.length) = true by simp [Nat.ble_eq, hb.1, hb.2], cond_true, hK, hK2]
          · have g1 : isAggT P f.type = false → 0 < P.cellsOf f.type := fun ha => by
              have := (hl1 ha).1
              rw [List.length_take, List.length_drop] at this
              show 0 < sz P f.type
              omega
            have hx := run_part hu vx.toArray f.offset (by have := h1.1; simp; exact (by have := hb.1; unfold sz at this; omega)) g1 w
            have hy := run_part hu vy.toArray f.offset (by have := h2.1; simp; exact (by have := hb.2; unfold sz at this; omega)) g1 w
            have he := hrun fr w A m _ _ (h1.cut f.offset (sz P f.type)) (h2.cut f.offset (sz P f.type))
            have hr := hrun2 fr w A m vx vy h1 h2
            simp only [Op.eqFields, if_pos hne, Sem.run_bind, hx, hy, Result.andThen_ok, List.toList_toArray]
            unfold sz at he
            rw [he]
            simp only [Result.andThen_ok]
            cases b
            · simp
            · simpa using hr
      obtain ⟨b, hK, hrun⟩ := key fs.toList h
      have ha : isAggT P t = true := by simp [isAggT, hd]
      have hf : P.fieldsOf t = fs := by simp [Program.fieldsOf, hd]
      refine ⟨b, fun β K' => by simp only [eqT, hd, hst, cond_false]; exact hK β K', by simp [hd], (fun hh => by rw [ha] at hh; cases hh), fun fr w A m vx vy h1 h2 => ?_⟩
      rw [show n + 1 + m = (n + m) + 1 by omega]
      simp only [partV, ha, if_true]
      rw [run_equalIn_struct (P := P) w (n + m) t _ _ (by rw [hf]; exact hd) hst, hf]
      exact hrun fr w A m vx vy h1 h2
    · cases h

theorem binF_ok {α : Type} {X : Env} {op : BinOp} {xt yt : TypeId} {x y : V} {K : V → Option α} {r : α} (h : binF X op xt yt x y K = some r) :
    ∃ z, (∀ (β : Type) (K' : V → Option β), binF X op xt yt x y K' = K' z) ∧ ∀ (fr : Fr) (w : World) (A : As) (vx vy : Value) (ox oy : Operand), RV fr w A x vx → RV fr w A y vy →
      ∃ v, (do eqGuard op xt ox oy vx vy; binOp op xt vx vy : Sem Value).run X.P w = .ok v w ∧ RV fr w A z v := by
  have guard1 : ∀ (vx vy : Value) (ox oy : Operand) (w : World), oneC vx = true → oneC vy = true → (∀ t, vx ≠ .iface t .nilIface) → vx ≠ .nilIface → (eqGuard op xt ox oy vx vy).run X.P w = .ok () w := by
    intro vx vy ox oy w h1 h2 _ h3
    cases op <;> simp only [eqGuard] <;> first | rfl | (cases vx <;> first | (cases h1; done) | exact absurd rfl h3 | (cases vy <;> first | rfl | (cases h2; done)))
  unfold binF at h
  split at h
  · rename_i k x y hu
    have ints : ∀ {a b : Int} {z : V} {v : Value} {k' : IntKind}, x = .int k a → y = .int k' b → (∀ (β : Type) (K' : V → Option β), binF X op xt yt (.one (.d x)) (.one (.d y)) K' = K' z) → (∀ w, (binOp op xt (.int k a) (.int k' b)).run X.P w = .ok v w) → (∀ fr w A, RV fr w A z v) →
        ∃ z, (∀ (β : Type) (K' : V → Option β), binF X op xt yt (.one (.d x)) (.one (.d y)) K' = K' z) ∧ ∀ (fr : Fr) (w : World) (A : As) (vx vy : Value) (ox oy : Operand), RV fr w A (.one (.d x)) vx → RV fr w A (.one (.d y)) vy →
          ∃ v, (do eqGuard op xt ox oy vx vy; binOp op xt vx vy : Sem Value).run X.P w = .ok v w ∧ RV fr w A z v := by
      intro a b z v k' hx hy hK hrun hz
      subst hx hy
      refine ⟨z, hK, fun fr w A vx vy ox oy h1 h2 => ⟨v, ?_, hz fr w A⟩⟩
      rw [h1.d_inv.int_inv, h2.d_inv.int_inv]
      simp only [Sem.run_bind, guard1 (.int k a) (.int k' b) ox oy w rfl rfl (by simp) (by simp), Result.andThen_ok]
      exact hrun w
    split at h
    · replace h := takeI_some h; obtain ⟨a, rfl, h⟩ := h
      split at h
      · rename_i k' hu'
        replace h := takeI_some h; obtain ⟨b, rfl, h⟩ := h
        obtain ⟨c, h1, x, v, rfl, h2, h3⟩ := shI_ok (P := X.P) (k' := k') h xt
        exact ints rfl rfl (fun β K' => by simp only [binF, hu, hu', takeI, if_true]; exact h1 β _) h2 h3
      · cases h
    · replace h := takeI_some h; obtain ⟨a, rfl, h⟩ := h
      split at h
      · rename_i k' hu'
        replace h := takeI_some h; obtain ⟨b, rfl, h⟩ := h
        obtain ⟨c, h1, x, v, rfl, h2, h3⟩ := shI_ok (P := X.P) (k' := k') h xt
        exact ints rfl rfl (fun β K' => by simp only [binF, hu, hu', takeI, if_true]; exact h1 β _) h2 h3
      · cases h
    · rename_i hs1 hs2
      replace h := takeI_some h; obtain ⟨a, rfl, h⟩ := h
      replace h := takeI_some h; obtain ⟨b, rfl, h⟩ := h
      obtain ⟨c, h1, x, v, rfl, h2, h3⟩ := arI_ok (P := X.P) h hs1 hs2 xt
      refine ints rfl rfl (fun β K' => ?_) h2 h3
      have g1 := h1 β fun c => K' (.one c)
      cases op <;> first | exact (hs1 rfl).elim | exact (hs2 rfl).elim | (simp only [binF, hu, takeI, if_true]; exact g1)
  · rename_i x y hu
    replace h := takeB_some h; obtain ⟨a, rfl, h⟩ := h
    replace h := takeB_some h; obtain ⟨b, rfl, h⟩ := h
    obtain ⟨c, h1, x, v, rfl, h2, h3⟩ := cmpB_ok (P := X.P) h xt hu
    refine ⟨_, fun β K' => by simp only [binF, hu, takeB]; exact h1 β _, fun fr w A vx vy ox oy q1 q2 => ⟨v, ?_, h3 fr w A⟩⟩
    rw [q1.d_inv.bool_inv, q2.d_inv.bool_inv]
    simp only [Sem.run_bind, guard1 (.bool a) (.bool b) ox oy w rfl rfl (by simp) (by simp), Result.andThen_ok]
    exact h2 w
  · rename_i x y hu
    replace h := takeS_some h; obtain ⟨a, rfl, h⟩ := h
    replace h := takeS_some h; obtain ⟨b, rfl, h⟩ := h
    obtain ⟨c, h1, x, v, rfl, h2, h3⟩ := cmpS_ok (P := X.P) h xt
    refine ⟨_, fun β K' => by simp only [binF, hu, takeS]; exact h1 β _, fun fr w A vx vy ox oy q1 q2 => ⟨v, ?_, h3 fr w A⟩⟩
    rw [q1.d_inv.str_inv, q2.d_inv.str_inv]
    simp only [Sem.run_bind, guard1 (.string a) (.string b) ox oy w rfl rfl (by simp) (by simp), Result.andThen_ok]
    exact h2 w
  · rename_i fs xs ys hu
    obtain ⟨hg, h⟩ := bif_not h
    have ha : isAggT X.P xt = true := by simp [isAggT, hu]
    split at h
    · obtain ⟨b, h1, _, _, h2⟩ := eqT_ok (P := X.P) 60 h
      refine ⟨_, fun β K' => by simp only [binF, hu, hg, cond_false]; exact h1 β _, fun fr w A vx vy ox oy q1 q2 => ?_⟩
      obtain ⟨vx, rfl, p1⟩ := q1.agg_inv
      obtain ⟨vy, rfl, p2⟩ := q2.agg_inv
      have h3 := h2 fr w A 9940 _ _ p1 p2
      simp only [partV, ha, if_true, Array.toArray_toList] at h3
      refine ⟨.bool b, ?_, RV.bool b⟩
      simp only [Sem.run_bind, run_eqGuard_agg (P := X.P) w .eql xt ox oy vx vy hg, Result.andThen_ok, run_eql_struct, h3]
    · obtain ⟨b, h1, _, _, h2⟩ := eqT_ok (P := X.P) 60 h
      refine ⟨_, fun β K' => by simp only [binF, hu, hg, cond_false]; exact h1 β _, fun fr w A vx vy ox oy q1 q2 => ?_⟩
      obtain ⟨vx, rfl, p1⟩ := q1.agg_inv
      obtain ⟨vy, rfl, p2⟩ := q2.agg_inv
      have h3 := h2 fr w A 9940 _ _ p1 p2
      simp only [partV, ha, if_true, Array.toArray_toList] at h3
      refine ⟨.bool (!b), ?_, RV.bool _⟩
      simp only [Sem.run_bind, run_eqGuard_agg (P := X.P) w .neq xt ox oy vx vy hg, Result.andThen_ok, run_neq_struct, h3]
    · cases h
  · cases h

theorem unF_ok {α : Type} {X : Env} {op : UnOp} {xt : TypeId} {x : V} {K : V → Option α} {r : α} (h : unF X op xt x K = some r) :
    ∃ z, (∀ (β : Type) (K' : V → Option β), unF X op xt x K' = K' z) ∧ ∀ (fr : Fr) (w : World) (A : As) (vx : Value), RV fr w A x vx → ∃ v, (Op.unary op vx).run X.P w = .ok v w ∧ RV fr w A z v := by
  unfold unF at h
  split at h
  · rename_i x hu
    replace h := takeB_some h; obtain ⟨b, rfl, h⟩ := h
    refine ⟨_, fun β K' => by simp only [unF, hu, takeB]; rfl, fun fr w A vx q => ?_⟩
    rw [q.d_inv.bool_inv]
    exact ⟨_, rfl, RV.bool _⟩
  · rename_i k x hu
    replace h := takeI_some h; obtain ⟨b, rfl, h⟩ := h
    refine ⟨_, fun β K' => by simp only [unF, hu, takeI, if_true]; rfl, fun fr w A vx q => ?_⟩
    rw [q.d_inv.int_inv]
    exact ⟨_, rfl, RV.int _ _⟩
  · rename_i k x hu
    replace h := takeI_some h; obtain ⟨b, rfl, h⟩ := h
    refine ⟨_, fun β K' => by simp only [unF, hu, takeI, if_true]; rfl, fun fr w A vx q => ?_⟩
    rw [q.d_inv.int_inv]
    exact ⟨_, rfl, RV.int _ _⟩
  · cases h

theorem convF_ok {α : Type} {X : Env} {src dst : TypeId} {x : V} {K : V → Option α} {r : α} (h : convF X src dst x K = some r) :
    ∃ z, (∀ (β : Type) (K' : V → Option β), convF X src dst x K' = K' z) ∧ ∀ (fr : Fr) (w : World) (A : As) (vx : Value), RV fr w A x vx → ∃ v, (convert src dst vx).run X.P w = .ok v w ∧ RV fr w A z v := by
  unfold convF at h
  split at h
  · rename_i k k' x hu hu'
    replace h := takeI_some h; obtain ⟨a, rfl, h⟩ := h
    refine ⟨_, fun β K' => by simp only [convF, hu, hu', takeI, if_true]; rfl, fun fr w A vx q => ?_⟩
    rw [q.d_inv.int_inv]
    refine ⟨_, ?_, RV.int _ _⟩
    simp only [convert, Sem.run_bind, run_underlying' hu, run_underlying' hu', Result.andThen_ok]
    rfl
  · rename_i x hu hu'
    replace h := takeS_some h; obtain ⟨a, rfl, h⟩ := h
    refine ⟨_, fun β K' => by simp only [convF, hu, hu', takeS]; rfl, fun fr w A vx q => ?_⟩
    rw [q.d_inv.str_inv]
    refine ⟨_, ?_, RV.str _⟩
    simp only [convert, Sem.run_bind, run_underlying' hu, run_underlying' hu', Result.andThen_ok]
    rfl
  · cases h

end Go.Vm
