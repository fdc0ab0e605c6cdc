/- Calls: what they are given and give back, and how the caller's state goes on. -/
import Derived.Test.YtgjingnobdhdfaaVmOp5
set_option linter.unusedVariables false
set_option linter.unusedSimpArgs false
namespace Go.Vm

/-- A variable that a call is given by its address. -/
structure Reg where
  k : Nat
  o : Nat
  n : Nat
def Reg.has (g : Reg) (k o : Nat) : Prop := k = g.k ∧ g.o ≤ o ∧ o < g.o + g.n
def regsPl (gs : List Reg) : Pl := fun k o => ∃ g ∈ gs, g.has k o

inductive ArgOk (P : Program) (w : World) (Im : Pl) : Arg → TypeId → Value → List Reg → Prop
  | v (cs : List D) (t : TypeId) (us : List Value) (h : isPtrT P t = none) (hok : okT P t = true) (hl : cs.length = sz P t) (hu : us.length = cs.length)
      (hr : ∀ (j : Nat) (d : D) (u : Value), cs[j]? = some d → us[j]? = some u → Rd w Im d u) : ArgOk P w Im (.v cs) t (partV P t us) []
  | r (cs : List D) (t e : TypeId) (k o : Nat) (h : isPtrT P t = some e) (hl : cs.length = sz P e) (h0 : cs.length ≠ 0)
      (hr : ∀ (j : Nat) (d : D), cs[j]? = some d → w.frozen? (at_ k (o + j)) = false ∧ ¬ Im k (o + j) ∧ ∃ u, w.cell? (at_ k (o + j)) = some u ∧ Rd w Im d u) : ArgOk P w Im (.r cs) t (.pointer (some (at_ k o))) [⟨k, o, cs.length⟩]
inductive ArgsOk (P : Program) (w : World) (Im : Pl) : List Arg → List TypeId → List Value → List Reg → Prop
  | nil : ArgsOk P w Im [] [] [] []
  | cons {a : Arg} {t : TypeId} {v : Value} {gs : List Reg} {as : List Arg} {ts : List TypeId} {vs : List Value} {gs' : List Reg} (h : ArgOk P w Im a t v gs) (hs : ArgsOk P w Im as ts vs gs')
      (dis : ∀ k o, regsPl gs k o → ¬ regsPl gs' k o) : ArgsOk P w Im (a :: as) (t :: ts) (v :: vs) (gs ++ gs')

/-- A cell of a result; where it is a slice of the callee's own, the block that it hands over. -/
inductive CellOk (P : Program) (w : World) (Im : Pl) (B : Nat) : Option TypeId → D → Value → List Nat → Prop
  | plain (d : D) (u : Value) (h : Rd w Im d u) : CellOk P w Im B none d u []
  | empty (e : TypeId) (n : Nat) (a : Option Addr) : CellOk P w Im B (some e) (.list n []) (.slice a 0 0) []
  | fresh (e : TypeId) (rows : List (List D)) (u : Value) (g : Nat) (h : TokRel w Im B ⟨0, false, e, sz P e, rows⟩ u (some g)) : CellOk P w Im B (some e) (.list (sz P e) rows) u [g]
inductive CellsOk (P : Program) (w : World) (Im : Pl) (B : Nat) (F : List (Nat × TypeId)) : Nat → List D → List Value → List Nat → Prop
  | nil (j : Nat) : CellsOk P w Im B F j [] [] []
  | cons {j : Nat} {d : D} {u : Value} {b : List Nat} {ds : List D} {us : List Value} {bl : List Nat} (h : CellOk P w Im B (look j F) d u b) (hs : CellsOk P w Im B F (j + 1) ds us bl) : CellsOk P w Im B F j (d :: ds) (u :: us) (b ++ bl)
inductive ResOk (P : Program) (w : World) (Im : Pl) (B : Nat) (F : List (Nat × TypeId)) : Nat → List TypeId → List D → List Value → List Nat → Prop
  | nil (j : Nat) : ResOk P w Im B F j [] [] [] []
  | ptr {j : Nat} {t e : TypeId} {ts : List TypeId} {cs ds : List D} {g : Nat} {vs : List Value} {bl : List Nat} (h : isPtrT P t = some e) (hl : cs.length = sz P e) (hg : B ≤ g)
      (hc : ∀ (q : Nat) (d : D), cs[q]? = some d → w.frozen? (at_ g q) = false ∧ ∃ u, w.cell? (at_ g q) = some u ∧ Rd w Im d u) (hs : ResOk P w Im B F (j + sz P e) ts ds vs bl) :
      ResOk P w Im B F j (t :: ts) (cs ++ ds) (.pointer (some (at_ g 0)) :: vs) (g :: bl)
  | val {j : Nat} {t : TypeId} {ts : List TypeId} {cs ds : List D} {us vs : List Value} {b bl : List Nat} (h : isPtrT P t = none) (hok : okT P t = true) (hl : cs.length = sz P t) (hc : CellsOk P w Im B F j cs us b)
      (hs : ResOk P w Im B F (j + sz P t) ts ds vs bl) : ResOk P w Im B F j (t :: ts) (cs ++ ds) (partV P t us :: vs) (b ++ bl)
inductive RefsOk (w : World) (Im : Pl) : List Reg → List D → Prop
  | nil : RefsOk w Im [] []
  | cons {g : Reg} {gs : List Reg} {cs ds : List D} (hl : cs.length = g.n) (hc : ∀ (q : Nat) (d : D), cs[q]? = some d → ∃ u, w.cell? (at_ g.k (g.o + q)) = some u ∧ Rd w Im d u) (hs : RefsOk w Im gs ds) : RefsOk w Im (g :: gs) (cs ++ ds)

def tupV : List Value → Value
  | [v] => v
  | vs => .tuple vs.toArray
def scalar : D → Bool
  | .list _ _ => false
  | .bad => false
  | _ => true

/-- What a call leaves. -/
structure Post (P : Program) (F : List (Nat × TypeId)) (fn : Func) (w : World) (Im : Pl) (gs : List Reg) (r : List D) (v : Value) (w' : World) : Prop where
  out : ∃ (Im' : Pl) (vs : List Value) (bl : List Nat) (ds qs : List D), v = tupV vs ∧ r = ds ++ qs ∧ ResOk P w' Im' w.heap.size F 0 fn.resultTypes.toList ds vs bl ∧ RefsOk w' Im' gs qs ∧ bl.Nodup ∧
    (∀ g ∈ bl, ∀ o, ¬ Im' g o) ∧ Keep (regsPl gs) w w' ∧ (∀ k o, Im k o → Im' k o) ∧ (∀ k o, Im' k o → Im k o ∨ w.heap.size ≤ k) ∧ (∀ k o, Im' k o → ∃ u, w'.cell? (at_ k o) = some u) ∧
    ((fn.resultTypes.toList.all (flatT P) && fn.params.toList.all (fun t => (isPtrT P t).isNone)) = true → r.all scalar = true)
def Con (P : Program) (H : FuncId → Hints) (g : FuncId) (as : List Arg) (r : List D) : Prop :=
  ∀ fn, P.funcs[g]? = some fn → ∀ (w : World) (Im : Pl) (vals : List Value) (gs : List Reg), ArgsOk P w Im as fn.params.toList vals gs → (∀ k o, Im k o → ∃ u, w.cell? (at_ k o) = some u) →
    Calls P g vals.toArray w fun e w' => ∃ v, e = .returned v ∧ Post P (H g).fresh fn w Im gs r v w'

variable {nt : Nat} {w0 : World} {S : Sp} {w : World} {A : As} {fr : Fr} {tmps : Array Value} {P : Program}

/-! ### What the caller gives -/
def regOf (A : As) (fr : Fr) : Ref → Reg
  | .b s _ off n => ⟨(A.β s).block, (A.β s).off + off, n⟩
  | .t k _ i off n => ⟨(A.ω k).getD 0, i * ((fr.tk k).map (·.esz)).getD 0 + off, n⟩
/-- A reference that leads to a part of a variable or of a slice of the call's own. -/
def RefOk (A : As) (fr : Fr) : Ref → Prop
  | .b s e off n => ∃ b, fr.bx s = some b ∧ b.e = e ∧ off + n ≤ b.cs.length
  | .t k e i off n => ∃ y g, fr.tk k = some y ∧ y.e = e ∧ y.fz = false ∧ i < y.rows.length ∧ off + n ≤ y.esz ∧ A.ω k = some g
def Ref.own : Ref → Own
  | .b s .. => .b s
  | .t k .. => .t k
theorem key_own {a b : Ref} (h : a.key ≠ b.key) : a.own ≠ b.own := by
  cases a <;> cases b <;> simp [Ref.key, Ref.own] at h ⊢ <;> omega
theorem reg_own (h : St nt w0 S w A fr tmps) {r : Ref} (hr : RefOk A fr r) {k o : Nat} (hh : (regOf A fr r).has k o) : A.own k o = r.own ∧ (w0.heap.size ≤ k ∨ S.S k o) ∧ ∃ v, w.cell? (at_ k o) = some v := by
  obtain ⟨h1, h2, h3⟩ := hh
  cases r with
  | b s e off n =>
    obtain ⟨b, hb, _, hl⟩ := hr
    simp only [regOf] at h1 h2 h3
    obtain ⟨j, rfl⟩ : ∃ j, o = (A.β s).off + j := ⟨o - (A.β s).off, by omega⟩
    subst h1
    have hj : j < b.cs.length := by omega
    have hbo := h.bx s b hb
    obtain ⟨v, hv, _⟩ := hbo.cell j _ (List.getElem?_eq_getElem hj)
    exact ⟨hbo.own j hj, hbo.may j hj, v, hv⟩
  | t t e i off n =>
    obtain ⟨y, g, hy, _, _, hi, hl, hg⟩ := hr
    simp only [regOf, hg, hy, Option.getD_some, Option.map_some] at h1 h2 h3
    subst h1
    have hto := h.tk t y hy
    have hrel := hto.rel
    rw [hg] at hrel
    have hrow : y.rows[i]? = some (y.rows.getD i []) := by simp [List.getD, List.getElem?_eq_getElem hi]
    have hrl : (y.rows.getD i []).length = y.esz := hrel.2.2.1 _ (List.mem_of_getElem? hrow)
    obtain ⟨j, rfl⟩ : ∃ j, o = i * y.esz + j := ⟨o - i * y.esz, by omega⟩
    obtain ⟨v, hv, _⟩ := hrel.cell hrow (List.getElem?_eq_getElem (i := j) (by omega))
    exact ⟨hto.own _ hg _, .inl hrel.2.1, v, hv⟩
theorem reg_im (h : St nt w0 S w A fr tmps) {r : Ref} (hr : RefOk A fr r) {ks : List Nat} (hk : ∀ t ∈ ks, r.key ≠ 2 * t + 1) {k o : Nat} (hh : (regOf A fr r).has k o) : ¬ ImF A fr ks k o := by
  obtain ⟨h1, _, _⟩ := reg_own h hr hh
  intro hi
  rcases hi with hi | ⟨t, ht, x, hx, hω, _⟩
  · have him := h.im k o hi
    cases r with
    | b s e off n => exact him.nob s h1
    | t t e i off n =>
      obtain ⟨y, g, hy, _, hf, hi', hl, hg⟩ := hr
      have : k = g := by have := hh.1; simpa [regOf, hg] using this
      subst this
      have := (him.tok t y h1 hy hg).1
      rw [hf] at this; cases this
  · have h2 := (h.tk t x hx).own k hω o
    rw [h1] at h2
    cases r with
    | b s e off n => cases h2
    | t t' e i off n =>
      injection h2 with h2
      subst h2
      exact hk t' ht rfl

theorem ImF_mono {ks ks' : List Nat} (h : ∀ t ∈ ks, t ∈ ks') : ∀ k o, ImF A fr ks k o → ImF A fr ks' k o := fun k o hh => hh.imp id fun ⟨t, ht, r⟩ => ⟨t, h t ht, r⟩

theorem fits_plain {b : Bool} {v : V} (h : V.fits b v = true) : v.plain = true := by cases b <;> cases v <;> first | rfl | cases h
theorem fits_part {v : V} {u : Value} {t : TypeId} (h : RV fr w A v u) (hf : V.fits (isAggT P t) v = true) : u = partV P t u.cells.toList := by
  unfold partV
  cases h with
  | one c u h =>
    cases ha : isAggT P t with
    | true => rw [ha] at hf; cases hf
    | false => simp [cells_one h.1]
  | agg cs vs h =>
    cases ha : isAggT P t with
    | true => simp [Value.cells]
    | false => rw [ha] at hf; cases hf
  | tup xs vs hl h => cases ha : isAggT P t <;> rw [ha] at hf <;> cases hf
  | skip => cases ha : isAggT P t <;> rw [ha] at hf <;> cases hf
  | any v => cases ha : isAggT P t <;> rw [ha] at hf <;> cases hf

theorem mkArg_ok {X : Env} {v : V} {t : TypeId} {a : Arg} {ro : Option Ref} {k : List Nat} (h : mkArg X fr v t = some (a, ro, k)) (hst : St nt w0 S w A fr tmps) {u : Value} (hv : RV fr w A v u) {ks : List Nat} (hks : ∀ t ∈ k, t ∈ ks)
    (hro : ∀ r, ro = some r → ∀ t ∈ ks, r.key ≠ 2 * t + 1) : ArgOk X.P w (ImF A fr ks) a t u (ro.toList.map (regOf A fr)) ∧ ∀ r, ro = some r → RefOk A fr r := by
  unfold mkArg at h
  split at h
  · rename_i e he
    split at h
    · rename_i s ep off
      split at h
      · rename_i b hb
        replace h := bif_some h; obtain ⟨hc, h⟩ := h
        simp only [Bool.and_eq_true, Nat.beq_eq, Nat.ble_eq, Bool.not_eq_true'] at hc
        obtain ⟨⟨c1, c2⟩, c3⟩ := hc
        have c3 := beq_false c3
        split at h
        · rename_i ds hds
          simp only [Option.some.injEq, Prod.mk.injEq] at h
          obtain ⟨rfl, rfl, rfl⟩ := h
          have hro' : RefOk A fr (.b s ep off (sz X.P e)) := ⟨b, hb, c1, c2⟩
          refine ⟨?_, fun r hr => by injection hr with hr; subst hr; exact hro'⟩
          have := hv.ptr_inv hb c1
          subst this
          have hbo := hst.bx s b hb
          obtain ⟨vs, h1, h2⟩ := region_vals (fr := fr) (w := w) (A := A) (cs := (b.cs.drop off).take (sz X.P e)) (k := (A.β s).block) (o := (A.β s).off + off) fun j c hj => by
            rw [List.getElem?_take] at hj
            split at hj
            · rw [List.getElem?_drop] at hj
              have := hbo.cell (off + j) c hj
              rwa [← Nat.add_assoc] at this
            · cases hj
          have hl : ((b.cs.drop off).take (sz X.P e)).length = sz X.P e := by rw [List.length_take, List.length_drop]; omega
          obtain ⟨hdl, hdr⟩ := toDs_rd hst hds h1 (ks := ks) hks
          have := ArgOk.r (P := X.P) (w := w) (Im := ImF A fr ks) ds t e (A.β s).block ((A.β s).off + off) he (by omega) (by omega) fun j d hj => by
            have hjl := (List.getElem?_eq_some_iff.1 hj).1
            have hvl := h1.1
            have hjv : j < vs.length := by omega
            have e1 := hro _ rfl
            refine ⟨by rw [Nat.add_assoc]; exact hbo.free _ (by omega), reg_im hst hro' e1 ⟨rfl, by simp [regOf], by simp only [regOf]; omega⟩, vs[j], h2 j _ (List.getElem?_eq_getElem hjv), hdr j d _ hj (List.getElem?_eq_getElem hjv)⟩
          rw [show ds.length = sz X.P e by omega] at this
          exact this
        · cases h
      · cases h
    · rename_i k' ep i off
      split at h
      · rename_i y hy
        replace h := bif_some h; obtain ⟨hc, h⟩ := h
        simp only [Bool.and_eq_true, Nat.beq_eq, Nat.ble_eq, Bool.not_eq_true'] at hc
        obtain ⟨⟨⟨c1, c2⟩, c3⟩, c4⟩ := hc
        have c3 := beq_false c3
        simp only [Option.some.injEq, Prod.mk.injEq] at h
        obtain ⟨rfl, rfl, rfl⟩ := h
        obtain ⟨hi, g, hg, rfl⟩ := hv.tptr_inv hy c1
        have hro' : RefOk A fr (.t k' ep i off (sz X.P e)) := ⟨y, g, hy, c1, c4, hi, c2, hg⟩
        refine ⟨?_, fun r hr => by injection hr with hr; subst hr; exact hro'⟩
        have hrel := (hst.tk k' y hy).rel
        rw [hg] at hrel
        have hrow : y.rows[i]? = some (y.rows.getD i []) := by simp [List.getD, List.getElem?_eq_getElem hi]
        have hrl : (y.rows.getD i []).length = y.esz := hrel.2.2.1 _ (List.mem_of_getElem? hrow)
        have := ArgOk.r (P := X.P) (w := w) (Im := ImF A fr ks) ((List.range (sz X.P e)).map fun j => (y.rows.getD i []).getD (off + j) .bad) t e g (i * y.esz + off) he (by simp) (by simpa using c3) fun j d hj => by
          obtain ⟨hjl, rfl⟩ := range_map_get hj
          obtain ⟨u, u1, u2, u3⟩ := hrel.cell hrow (getD_row (j := off + j) (by omega))
          rw [Nat.add_assoc]
          refine ⟨u2, ?_, u, u1, u3.step (fun _ _ h => .inl h) fun _ _ _ => rfl⟩
          exact reg_im hst hro' (hro _ rfl) ⟨by simp [regOf, hg], by simp only [regOf, hy, Option.map_some, Option.getD_some]; omega, by simp only [regOf, hy, Option.map_some, Option.getD_some]; omega⟩
        simpa [regOf, hg, hy] using this
      · cases h
    · cases h
  · rename_i he
    split at h
    · rename_i ds hds
      replace h := bif_some h; obtain ⟨hc, h⟩ := h
      simp only [Bool.and_eq_true, Nat.beq_eq] at hc
      obtain ⟨⟨c1, c2⟩, c3⟩ := hc
      simp only [Option.some.injEq, Prod.mk.injEq] at h
      obtain ⟨rfl, rfl, rfl⟩ := h
      refine ⟨?_, fun r hr => by cases hr⟩
      have c2' := fits_plain c2
      have hcl := hv.cells c2'
      obtain ⟨hdl, hdr⟩ := toDs_rd hst hds hcl (ks := ks) hks
      have hpv := fits_part hv c2
      have := ArgOk.v (P := X.P) (w := w) (Im := ImF A fr ks) ds t u.cells.toList he c3 c1 (by have := hcl.1; omega) hdr
      rw [← hpv] at this
      exact this
    · cases h


theorem distinct_cons {k : Nat} {ks : List Nat} (h : distinct (k :: ks) = true) : k ∉ ks ∧ distinct ks = true := by
  simp only [distinct, Bool.and_eq_true, Bool.not_eq_true'] at h
  refine ⟨fun hm => ?_, h.2⟩
  have : ks.any (Nat.beq k) = true := List.any_eq_true.2 ⟨_, hm, Nat.beq_refl _⟩
  rw [this] at h; cases h.1

theorem regs_mem {rs : List Ref} {k o : Nat} (h : regsPl (rs.map (regOf A fr)) k o) : ∃ r ∈ rs, (regOf A fr r).has k o := by
  obtain ⟨g, hg, hh⟩ := h
  obtain ⟨r, hr, rfl⟩ := List.mem_map.1 hg
  exact ⟨r, hr, hh⟩

theorem mkArgs_ok {X : Env} : ∀ {vs : List V} {ts : List TypeId} {as : List Arg} {rs : List Ref} {k : List Nat}, mkArgs X fr vs ts = some (as, rs, k) → St nt w0 S w A fr tmps → ∀ {us : List Value}, us.length = vs.length →
    (∀ (j : Nat) (x : V) (u : Value), vs[j]? = some x → us[j]? = some u → RV fr w A x u) → ∀ {ks : List Nat}, (∀ t ∈ k, t ∈ ks) → (∀ r ∈ rs, ∀ t ∈ ks, r.key ≠ 2 * t + 1) → distinct (rs.map Ref.key) = true →
      ArgsOk X.P w (ImF A fr ks) as ts us (rs.map (regOf A fr)) ∧ ∀ r ∈ rs, RefOk A fr r
  | [], [], as, rs, k, h, hst, us, hl, hv, ks, hks, hro, hd => by
    simp only [mkArgs, Option.some.injEq, Prod.mk.injEq] at h
    obtain ⟨rfl, rfl, rfl⟩ := h
    have : us = [] := List.length_eq_zero_iff.1 hl
    subst this
    exact ⟨.nil, fun r h => by cases h⟩
  | [], _ :: _, as, rs, k, h, hst, us, hl, hv, ks, hks, hro, hd => by simp [mkArgs] at h
  | _ :: _, [], as, rs, k, h, hst, us, hl, hv, ks, hks, hro, hd => by simp [mkArgs] at h
  | v :: vs, t :: ts, as, rs, k, h, hst, us, hl, hv, ks, hks, hro, hd => by
    simp only [mkArgs] at h
    split at h
    · rename_i a r k1 h1
      split at h
      · rename_i as' rs' k2 h2
        simp only [Option.some.injEq, Prod.mk.injEq] at h
        obtain ⟨rfl, rfl, rfl⟩ := h
        match us, hl with
        | u :: us, hl =>
          obtain ⟨g1, g2⟩ := mkArg_ok h1 hst (hv 0 v u rfl rfl) (ks := ks) (fun t ht => hks t (List.mem_append_left _ ht)) (fun q hq => hro q (List.mem_append_left _ (by simp [hq])))
          have hd' : distinct (rs'.map Ref.key) = true := by
            cases r with
            | none => simpa using hd
            | some r => simp only [Option.toList_some, List.singleton_append, List.map_cons] at hd; exact (distinct_cons hd).2
          obtain ⟨g3, g4⟩ := mkArgs_ok h2 hst (us := us) (by simpa using hl) (fun j x u h1 h2 => hv (j + 1) x u (by simpa using h1) (by simpa using h2)) (ks := ks) (fun t ht => hks t (List.mem_append_right _ ht)) (fun q hq => hro q (List.mem_append_right _ hq)) hd'
          refine ⟨?_, fun q hq => ?_⟩
          · rw [List.map_append]
            refine .cons g1 g3 fun a o ha hb => ?_
            obtain ⟨r1, hr1, hh1⟩ := regs_mem ha
            obtain ⟨r2, hr2, hh2⟩ := regs_mem hb
            cases r with
            | none => cases hr1
            | some r =>
              have : r1 = r := by simpa using hr1
              subst this
              simp only [Option.toList_some, List.singleton_append, List.map_cons] at hd
              have hne : r1.key ≠ r2.key := fun e => (distinct_cons hd).1 (by rw [e]; exact List.mem_map.2 ⟨r2, hr2, rfl⟩)
              have q1 := (reg_own hst (g2 r1 rfl) hh1).1
              have q2 := (reg_own hst (g4 r2 hr2) hh2).1
              exact key_own hne (q1.symm.trans q2)
          · rcases List.mem_append.1 hq with hq | hq
            · exact g2 q (by cases r <;> simp at hq ⊢; exact hq.symm)
            · exact g4 q hq
      · cases h
    · cases h

/-! ### What comes back is taken in -/
/-- Memory that is nobody's yet becomes a variable. -/
theorem St.adoptBox (h : St nt w0 S w A fr tmps) (s e g : Nat) (cs : List D) (h0 : 0 < cs.length) (hg : w0.heap.size ≤ g) (hown : ∀ o, A.own g o = .none) (hIm : ∀ o, ¬ A.Im g o) (he : ∀ b, fr.bx s = some b → b.e < e)
    (hc : ∀ (q : Nat) (d : D), cs[q]? = some d → w.frozen? (at_ g q) = false ∧ ∃ u, w.cell? (at_ g q) = some u ∧ Rd w A.Im d u) :
    ∀ fr', fr' = { fr with bx := upd fr.bx s (some ⟨e, cs.map .d⟩) } → Upd w0 S w A fr w (A.newBox s g) fr' (fun _ _ => False) ∧ St nt w0 S w (A.newBox s g) fr' tmps ∧ RV fr' w (A.newBox s g) (.one (.ptr s e 0)) (.pointer (some (at_ g 0))) := by
  intro fr' hfr
  subst hfr
  have u : Upd w0 S w A fr w (A.newBox s g) { fr with bx := upd fr.bx s (some ⟨e, cs.map .d⟩) } (fun _ _ => False) := by
    refine ⟨Keep.refl _ _, fun _ _ h => h.elim, fun _ _ _ h => h, rfl, fun _ _ h => h, fun k o hk hn => ?_, fun s' b hb => ?_, fun t k hk => ⟨k, hk, .inr ⟨rfl, rfl, rfl, rfl, rfl⟩⟩⟩
    · simp only [As.newBox]
      split
      · rename_i hkg
        subst hkg
        rcases hn with hn | hn
        · exact absurd (hown o) hn
        · exact absurd hn (hIm o)
      · rfl
    · by_cases hs : s' = s
      · subst hs
        exact ⟨_, upd_same _ _ _, .inl (he b hb)⟩
      · exact ⟨b, (upd_ne _ _ hs).trans hb, .inr ⟨rfl, upd_ne _ _ hs⟩⟩
  have e1 : (A.newBox s g).β s = at_ g 0 := upd_same _ _ _
  refine ⟨u, h.of_upd u (fun s' b hb => ?_) (fun t k hk => .inl ⟨⟨k, hk, rfl, rfl, rfl⟩, rfl, rfl, fun _ _ _ h => h⟩) (h.im_old u fun t x hx g hg _ => ⟨x, hx, hg, fun h => h, Nat.le_refl _⟩) (fun _ _ h => .inl h), ?_⟩
  · by_cases hs : s' = s
    · subst hs
      simp only [upd_same, Option.some.injEq] at hb
      subst hb
      refine .inr ⟨fun j c hc' => ?_, fun j hj => ?_, fun j hj => ?_, fun j hj => ?_, fun _ => ?_⟩
      · rw [List.getElem?_map] at hc'
        obtain ⟨d, hd, rfl⟩ := Option.map_eq_some_iff.1 hc'
        obtain ⟨_, v, hv, hr⟩ := hc j d hd
        rw [e1]
        exact ⟨v, by simpa using hv, hr.one, hr⟩
      · rw [e1]
        simp only [List.length_map] at hj
        simpa using (hc j _ (List.getElem?_eq_getElem hj)).1
      · rw [e1]; simp [As.newBox]
      · rw [e1]; exact .inl hg
      · rw [e1]
        obtain ⟨_, u, hu, _⟩ := hc 0 _ (List.getElem?_eq_getElem h0)
        exact ⟨rfl, hg, cell_lt hu, fun o => by simp [As.newBox, at_]⟩
    · exact .inl ⟨(upd_ne _ _ hs).symm.trans hb, upd_ne _ _ hs, fun _ _ h => h⟩
  · exact .one _ _ ⟨rfl, ⟨_, _, rfl⟩, ⟨e, cs.map .d⟩, upd_same _ _ _, Nat.le_refl _, fun _ => by rw [e1]⟩

/-- Memory that is nobody's yet becomes a slice of the call's own. -/
theorem St.adoptTok (h : St nt w0 S w A fr tmps) (t : Nat) (k : Tk) (v : Value) (g : Option Nat) (he : ∀ b, fr.tk t = some b → b.e < k.e) (hf : k.fz = false) (hown : ∀ x, g = some x → ∀ o, A.own x o = .none) (hIm : ∀ x, g = some x → ∀ o, ¬ A.Im x o)
    (hk : TokRel w A.Im w0.heap.size k v g) :
    ∀ fr', fr' = { fr with tk := upd fr.tk t (some k) } → Upd w0 S w A fr w (A.newTok t v g) fr' (fun _ _ => False) ∧ St nt w0 S w (A.newTok t v g) fr' tmps ∧ RC fr' w (A.newTok t v g) (.own t k.e) v := by
  intro fr' hfr
  subst hfr
  have u : Upd w0 S w A fr w (A.newTok t v g) { fr with tk := upd fr.tk t (some k) } (fun _ _ => False) := by
    refine ⟨Keep.refl _ _, fun _ _ h => h.elim, fun _ _ _ h => h, rfl, fun _ _ h => h, fun x o hx hn => ?_, fun s b hb => ⟨b, hb, .inr ⟨rfl, rfl⟩⟩, fun t' k' hk' => ?_⟩
    · simp only [As.newTok]
      split
      · rename_i hg
        rcases hn with hn | hn
        · exact absurd (hown x hg o) hn
        · exact absurd hn (hIm x hg o)
      · rfl
    · by_cases hs : t' = t
      · subst hs
        exact ⟨_, upd_same _ _ _, .inl (he k' hk')⟩
      · exact ⟨k', (upd_ne _ _ hs).trans hk', .inr ⟨rfl, upd_ne _ _ hs, upd_ne _ _ hs, rfl, rfl⟩⟩
  have hone : oneC v = true := by
    cases g with
    | none => obtain ⟨_, a, rfl⟩ := hk; rfl
    | some g => obtain ⟨_, _, _, c, u, rfl, _⟩ := hk; rfl
  have e1 : (A.newTok t v g).τ t = v := upd_same _ _ _
  have e2 : (A.newTok t v g).ω t = g := upd_same _ _ _
  refine ⟨u, h.of_upd u (fun s b hb => .inl ⟨hb, rfl, fun _ _ h => h⟩) (fun t' k' hk' => ?_) (fun a o hi => ?_) (fun _ _ h => .inl h), ⟨hone, k, upd_same _ _ _, Nat.le_refl _, fun _ => e1.symm⟩⟩
  · by_cases hs : t' = t
    · subst hs
      simp only [upd_same, Option.some.injEq] at hk'
      subst hk'
      refine .inr ⟨by rw [e1, e2]; exact hk, fun y hy o => ?_⟩
      rw [e2] at hy
      simp [As.newTok, hy]
    · exact .inl ⟨⟨k', (upd_ne _ _ hs).symm.trans hk', rfl, rfl, rfl⟩, upd_ne _ _ hs, upd_ne _ _ hs, fun _ _ _ h => h⟩
  · have hh := h.im a o hi
    have hng : g ≠ some a := fun e => hIm a e o hi
    have ho : (A.newTok t v g).own a o = A.own a o := by simp [As.newTok, hng]
    refine ⟨hh.cell, fun s => by rw [ho]; exact hh.nob s, fun t' x q1 q2 q3 => ?_⟩
    rw [ho] at q1
    by_cases hs : t' = t
    · subst hs
      rw [e2] at q3
      exact absurd q3 hng
    · exact hh.tok t' x q1 ((upd_ne _ _ hs).symm.trans q2) ((upd_ne _ _ hs).symm.trans q3)

end Go.Vm
