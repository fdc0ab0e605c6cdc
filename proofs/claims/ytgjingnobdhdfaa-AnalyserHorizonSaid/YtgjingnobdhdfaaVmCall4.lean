/- Results of every type; a call as the evaluator has it. -/
import Derived.Test.YtgjingnobdhdfaaVmCall3
set_option linter.unusedVariables false
set_option linter.unusedSimpArgs false
namespace Go.Vm

variable {nt : Nat} {w0 : World} {S : Sp} {w : World} {A : As} {fr : Fr} {tmps : Array Value} {P : Program}

def RVs (fr : Fr) (w : World) (A : As) (xs : List V) (us : List Value) : Prop := us.length = xs.length ∧ ∀ (i : Nat) (x : V) (u : Value), xs[i]? = some x → us[i]? = some u → RV fr w A x u
theorem RVs.cons {x : V} {u : Value} {xs : List V} {us : List Value} (h : RV fr w A x u) (hs : RVs fr w A xs us) : RVs fr w A (x :: xs) (u :: us) := by
  refine ⟨by simp [hs.1], fun i y v h1 h2 => ?_⟩
  cases i with
  | zero => simp at h1 h2; subst h1 h2; exact h
  | succ i => exact hs.2 i y v (by simpa using h1) (by simpa using h2)
theorem RVs.upd {w' : World} {A' : As} {fr' : Fr} {T : Pl} {xs : List V} {us : List Value} (h : RVs fr w A xs us) (hst : St nt w0 S w A fr tmps) (u : Upd w0 S w A fr w' A' fr' T) : RVs fr' w' A' xs us := ⟨h.1, fun i x v h1 h2 => u.rv hst (h.2 i x v h1 h2)⟩

theorem resV_ok {α : Type} {X : Env} {f0 : Fr} {d g : Nat} {kp : Bool} {r : List D} {w' : World} {B : Nat} {Im : Pl} (hB : w0.heap.size ≤ B) : ∀ (ts : List TypeId) (j : Nat) {K : List V → List (Nat × Bx) → List (Nat × Tk) → Option α} {res : α}, resV X f0 d g kp r j ts K = some res →
    ∃ vs bs ks, (∀ (β : Type) (K' : List V → List (Nat × Bx) → List (Nat × Tk) → Option β), resV X f0 d g kp r j ts K' = K' vs bs ks) ∧ K vs bs ks = some res ∧
      ∀ (nt : Nat) (S : Sp) (A : As) (fr : Fr) (tmps : Array Value) (ds : List D) (us : List Value) (bl : List Nat), St nt w0 S w' A fr tmps → ResOk X.P w' Im B (X.H g).fresh j ts ds us bl → (∀ (i : Nat) (x : D), ds[i]? = some x → r[j + i]? = some x) → (∀ k o, Im k o → A.Im k o) →
        (∀ q, j < q → nextT fr (key d q) = nextT f0 (key d q) ∧ nextB fr (key d q) = nextB f0 (key d q)) → bl.Nodup → (∀ g ∈ bl, FreeB w0 A g) →
        ∃ A', Took w0 S w' A fr A' { fr with bx := upds fr.bx bs, tk := upds fr.tk ks } bl d j ∧ St nt w0 S w' A' { fr with bx := upds fr.bx bs, tk := upds fr.tk ks } tmps ∧ RVs { fr with bx := upds fr.bx bs, tk := upds fr.tk ks } w' A' vs us := by
  intro ts
  induction ts with
  | nil =>
    intro j K res h
    refine ⟨[], [], [], fun _ _ => rfl, h, fun nt S A fr tmps ds us bl hst hc hr hIm hq hnd hfr => ?_⟩
    cases hc
    exact ⟨A, Took.refl _ _ _, hst, ⟨rfl, fun j c v h => by simp at h⟩⟩
  | cons t ts ih =>
    intro j K res h
    simp only [resV] at h
    split at h
    · rename_i e he
      replace h := bif_not h; obtain ⟨hz0, h⟩ := h
      have hz := beq_false hz0
      obtain ⟨vs, bs, ks, hK, h, hsem⟩ := ih _ h
      refine ⟨_, _, ks, fun β K' => by simp only [resV, he, hz0, cond_false]; rw [hK], h, fun nt S A fr tmps ds us bl hst hc hr hIm hq hnd hfr => ?_⟩
      cases hc with
      | val h1 _ _ _ _ => rw [he] at h1; cases h1
      | @ptr _ _ e' _ cs ds y us bl h1 hl hg hc hs =>
        rw [he] at h1; injection h1 with h1; subst h1
        obtain ⟨hn1, hn2⟩ := List.nodup_cons.1 hnd
        obtain ⟨A1, t1, s1, c1⟩ := hsem nt S A fr tmps ds us bl hst hs (fun i x hi => by rw [Nat.add_assoc, ← hl]; exact hr (cs.length + i) x (by rw [List.getElem?_append_right (by omega), Nat.add_sub_cancel_left]; exact hi)) hIm (fun q h1 => hq q (by omega)) hn2 fun g hg => hfr g (List.mem_cons_of_mem _ hg)
        have hy : FreeB w0 A1 y := t1.free y hn1 (hfr y List.mem_cons_self)
        have hcs : ((List.range (sz X.P e)).map fun i => C.d (r.getD (j + i) .bad)) = cs.map .d := by
          apply List.ext_getElem?
          intro q
          by_cases hq' : q < cs.length
          · have := hr q _ (by rw [List.getElem?_append_left hq']; exact List.getElem?_eq_getElem hq')
            rw [List.getElem?_map, List.getElem?_range (by omega), List.getElem?_map, List.getElem?_eq_getElem hq']
            simp [List.getD, this]
          · rw [List.getElem?_eq_none (by simp; omega), List.getElem?_eq_none (by simp; omega)]
        have hbx : (upds fr.bx bs) (key d (j + 1)) = fr.bx (key d (j + 1)) := t1.bx (j + 1) (by omega)
        obtain ⟨u2, s2, hrv⟩ := s1.adoptBox (key d (j + 1)) (nextB f0 (key d (j + 1))) y cs (by omega) hy.1 hy.2.1 hy.2.2 (fun b hb => by
          have hb' : fr.bx (key d (j + 1)) = some b := hbx.symm.trans hb
          rw [← (hq (j + 1) (by omega)).2]; exact nextB_lt hb') (fun q x hx => by
            obtain ⟨h1, u, h2, h3⟩ := hc q x hx
            exact ⟨h1, u, h2, h3.step (fun k o hi => t1.upd.im k o (hIm k o hi)) fun _ _ _ => rfl⟩) _ rfl
        rw [hcs]
        refine ⟨_, t1.trans (b2 := [y]) (j2 := j) ⟨u2, fun z hz hf => hf.newBox fun e => hz (by simp [e]), fun q hq' => upd_ne _ _ (key_ne (by omega)), fun _ _ => rfl⟩ (fun z hz => List.mem_cons_of_mem _ hz) (fun z hz => by simp at hz; simp [hz]) (by omega), s2, ?_⟩
        exact RVs.cons hrv (c1.upd s1 u2)
    · rename_i he
      obtain ⟨vs, bs, ks, hK, h, hsem⟩ := ih _ h
      obtain ⟨cs', ks', hK2, h, hcl, hsem2⟩ := resCs_ok (w' := w') (Im := Im) hB _ _ h
      refine ⟨_, bs, _, fun β K' => by simp only [resV, he]; rw [hK, hK2], h, fun nt S A fr tmps ds us bl hst hc hr hIm hq hnd hfr => ?_⟩
      cases hc with
      | ptr h1 _ _ _ _ => rw [he] at h1; cases h1
      | @val _ _ _ cs ds us1 us2 b1 bl2 h1 hok hl hcs hs =>
        obtain ⟨hn1, hn2, hdis⟩ := List.nodup_append.1 hnd
        obtain ⟨A1, t1, s1, c1⟩ := hsem nt S A fr tmps ds us2 bl2 hst hs (fun i x hi => by rw [Nat.add_assoc, ← hl]; exact hr (cs.length + i) x (by rw [List.getElem?_append_right (by omega), Nat.add_sub_cancel_left]; exact hi)) hIm (fun q h1 => hq q (by omega)) hn2 fun g hg => hfr g (List.mem_append_right _ hg)
        obtain ⟨A2, t2, s2, c2⟩ := hsem2 nt S A1 { fr with bx := upds fr.bx bs, tk := upds fr.tk ks } tmps cs us1 b1 s1 hl hcs (fun i x hi => hr i x (by rw [List.getElem?_append_left (List.getElem?_eq_some_iff.1 hi).1]; exact hi)) (fun k o hi => t1.upd.im k o (hIm k o hi)) (fun q q1 q2 => by rw [← (hq q q1).1]; simp only [nextT]; rw [show (upds fr.tk ks) (key d q) = fr.tk (key d q) from t1.tk q q2]) hn1 fun y hy => t1.free y (fun hm => hdis y hy y hm rfl) (hfr y (List.mem_append_left _ hy))
        have e1 : ({ fr with bx := upds fr.bx bs, tk := upds fr.tk (ks' ++ ks) } : Fr) = { ({ fr with bx := upds fr.bx bs, tk := upds fr.tk ks } : Fr) with tk := upds (upds fr.tk ks) ks' } := by rw [upds_append]
        rw [e1]
        refine ⟨A2, t1.trans t2 (fun z hz => List.mem_append_right _ hz) (fun z hz => List.mem_append_left _ hz) (by omega), s2, RVs.cons ?_ (c1.upd s1 t2.upd)⟩
        exact RV.ofCells hok (by rw [hcl]) c2


theorem regOf_congr {A' : As} {fr' : Fr} (h1 : A'.β = A.β) (h2 : A'.ω = A.ω) (h3 : ∀ t, (fr'.tk t).map (·.esz) = (fr.tk t).map (·.esz)) (r : Ref) : regOf A' fr' r = regOf A fr r := by
  cases r <;> simp [regOf, h1, h2, h3]
theorem writeB_congr {fr' : Fr} {r : List D} : ∀ (rs : List Ref) (m : Nat), (∀ x ∈ rs, match x with | .b s .. => fr'.bx s = fr.bx s | .t k .. => fr'.tk k = fr.tk k) → writeB fr' r m rs = writeB fr r m rs
  | [], m, h => rfl
  | .b s e off n :: rs, m, h => by
    have h0 : fr'.bx s = fr.bx s := h _ List.mem_cons_self
    simp only [writeB, h0, writeB_congr rs (m + n) fun x hx => h x (List.mem_cons_of_mem _ hx)]
  | .t k e i off n :: rs, m, h => by
    have h0 : fr'.tk k = fr.tk k := h _ List.mem_cons_self
    simp only [writeB, h0, writeB_congr rs (m + n) fun x hx => h x (List.mem_cons_of_mem _ hx)]

theorem Rd.scalar {Im Im' : Pl} {w' : World} {d : D} {v : Value} (h : Rd w Im d v) (hs : scalar d = true) : Rd w' Im' d v := by
  cases h with
  | bool b => exact .bool b
  | int k n => exact .int k n
  | str s => exact .str s
  | fn f => exact .fn f
  | nilp => exact .nilp
  | list => cases hs
theorem CellsOk.flat {Im Im' : Pl} {B : Nat} {F : List (Nat × TypeId)} {j : Nat} {ds : List D} {us : List Value} {bl : List Nat} (h : CellsOk P w Im B F j ds us bl) (hs : ds.all Vm.scalar = true) : CellsOk P w Im' B F j ds us bl ∧ bl = [] := by
  induction h with
  | nil j => exact ⟨.nil j, rfl⟩
  | @cons j d u b ds us bl hx _ ih =>
    simp only [List.all_cons, Bool.and_eq_true] at hs
    obtain ⟨h1, rfl⟩ := ih hs.2
    revert hx
    intro hx
    have : CellOk P w Im' B (look j F) d u b ∧ b = [] := by
      revert hx
      generalize look j F = o
      intro hx
      cases hx with
      | plain _ _ h => exact ⟨.plain _ _ (h.scalar hs.1), rfl⟩
      | empty e n a => cases hs.1
      | fresh e rows u g h => cases hs.1
    obtain ⟨h2, rfl⟩ := this
    exact ⟨.cons h2 h1, rfl⟩
theorem flat_ptr {t : TypeId} (h : flatT P t = true) : isPtrT P t = none := by
  unfold flatT flatF at h
  unfold isPtrT
  split at h <;> simp_all
theorem ResOk.flat {Im Im' : Pl} {B : Nat} {F : List (Nat × TypeId)} {j : Nat} {ts : List TypeId} {ds : List D} {us : List Value} {bl : List Nat} (h : ResOk P w Im B F j ts ds us bl) (ht : ts.all (flatT P) = true) (hs : ds.all Vm.scalar = true) : ResOk P w Im' B F j ts ds us bl ∧ bl = [] := by
  induction h with
  | nil j => exact ⟨.nil j, rfl⟩
  | ptr h1 _ _ _ _ _ =>
    simp only [List.all_cons, Bool.and_eq_true] at ht
    rw [flat_ptr ht.1] at h1; cases h1
  | val h1 hok hl hc _ ih =>
    simp only [List.all_cons, Bool.and_eq_true] at ht
    simp only [List.all_append, Bool.and_eq_true] at hs
    obtain ⟨q1, rfl⟩ := ih ht.2 hs.2
    obtain ⟨q2, rfl⟩ := hc.flat (Im' := Im') hs.1
    exact ⟨.val h1 hok hl q2 q1, rfl⟩
theorem args_noref {Im : Pl} {as : List Arg} {ts : List TypeId} {us : List Value} {gs : List Reg} (h : ArgsOk P w Im as ts us gs) (hg : gs = []) : ts.all (fun t => (isPtrT P t).isNone) = true := by
  induction h with
  | nil => rfl
  | cons h1 _ _ ih =>
    have hg' := List.append_eq_nil_iff.1 hg
    cases h1 with
    | v _ _ _ h => simp [h, ih hg'.2]
    | r => cases hg'.1
theorem resLen {Im : Pl} {B : Nat} {F : List (Nat × TypeId)} {j : Nat} {ts : List TypeId} {ds : List D} {us : List Value} {bl : List Nat} (h : ResOk P w Im B F j ts ds us bl) : ds.length = cellsOfTs P ts := by
  induction h with
  | nil j => rfl
  | ptr h1 hl _ _ _ ih => simp only [List.length_append, ih, hl, cellsOfTs, List.map_cons, List.foldr_cons, h1]
  | val h1 hok hl hc _ ih => simp only [List.length_append, ih, hl, cellsOfTs, List.map_cons, List.foldr_cons, h1]

theorem RVs.tup {xs : List V} {us : List Value} (h : RVs fr w A xs us) : RV fr w A (tupX xs) (tupV us) := by
  obtain ⟨hl, h⟩ := h
  match xs, us, hl with
  | [x], [u], _ => exact h 0 x u rfl rfl
  | [], [], _ => exact .tup [] #[] rfl fun j x v h1 => by simp at h1
  | x :: y :: xs, u :: v :: us, hl => exact .tup _ _ (by simpa using hl) fun j x v h1 h2 => h j x v h1 (by simpa using h2)

theorem cellsBl {Im : Pl} {B : Nat} {F : List (Nat × TypeId)} {j : Nat} {ds : List D} {us : List Value} {bl : List Nat} (h : CellsOk P w Im B F j ds us bl) : ∀ y ∈ bl, B ≤ y := by
  induction h with
  | nil j => intro y hy; cases hy
  | @cons j d u b ds us bl hx _ ih =>
    intro y hy
    rcases List.mem_append.1 hy with hy | hy
    · revert hx
      generalize look j F = o
      intro hx
      cases hx with
      | plain _ _ h => cases hy
      | empty e n a => cases hy
      | fresh e rows u g h =>
        have : y = g := by simpa using hy
        subst this
        exact h.2.1
    · exact ih y hy
theorem resBl {Im : Pl} {B : Nat} {F : List (Nat × TypeId)} {j : Nat} {ts : List TypeId} {ds : List D} {us : List Value} {bl : List Nat} (h : ResOk P w Im B F j ts ds us bl) : ∀ y ∈ bl, B ≤ y := by
  induction h with
  | nil j => intro y hy; cases hy
  | ptr _ _ hg _ _ ih =>
    intro y hy
    rcases List.mem_cons.1 hy with rfl | hy
    · exact hg
    · exact ih y hy
  | val _ _ _ hc _ ih =>
    intro y hy
    rcases List.mem_append.1 hy with hy | hy
    · exact cellsBl hc y hy
    · exact ih y hy

theorem ImF_tok (h : St nt w0 S w A fr tmps) {ks : List Nat} : ∀ k o, ImF A fr ks k o → ∃ u, w.cell? (at_ k o) = some u := fun k o hi => by
  obtain ⟨_, h1⟩ := h.freeze ks _ rfl
  exact (h1.im k o hi).cell

theorem callF_ok {α : Type} {X : Env} {d g : Nat} {args : List V} {K : Eff → Option α} {r0 : α} (h : callF X fr d g args K = some r0) :
    ∃ z, (∀ (β : Type) (K' : Eff → Option β), callF X fr d g args K' = K' z) ∧ K z = some r0 ∧ ∃ fn, X.P.funcs[g]? = some fn ∧ fn.body.isSome = true ∧
      ∀ (nt : Nat) (w0 : World) (S : Sp) (w : World) (A : As) (tmps : Array Value) (us : List Value), (∀ as r, X.call g as = some r → Con X.P X.H g as r) → St nt w0 S w A fr tmps → RVs fr w A args us →
        Calls X.P g us.toArray w fun e w' => ∃ v A', e = .returned v ∧ St nt w0 S w' A' (fr.mem z) tmps ∧ RV (fr.mem z) w' A' z.v v := by
  unfold callF at h
  split at h
  · cases h
  · rename_i fn hfn
    replace h := bif_not h; obtain ⟨hbody, h⟩ := h
    split at h
    · cases h
    · rename_i as rs ks hm
      replace h := bif_some h; obtain ⟨hd, h⟩ := h
      have hdd := hd
      simp only [Bool.and_eq_true, Bool.not_eq_true'] at hd
      obtain ⟨hdis, hnot⟩ := hd
      replace h := obind_some h; obtain ⟨r, hcall, h⟩ := h
      have hkk : ∀ x ∈ rs, ∀ t ∈ ks, x.key ≠ 2 * t + 1 := fun x hx t ht e => by
        have : (ks.any fun t => rs.any fun r => Nat.beq r.key (2 * t + 1)) = true := List.any_eq_true.2 ⟨t, ht, List.any_eq_true.2 ⟨x, hx, by rw [e]; exact Nat.beq_refl _⟩⟩
        rw [this] at hnot; cases hnot
      obtain ⟨vs, bs, ts, hK, h, _⟩ := resV_ok (w0 := default) (w' := default) (B := (default : World).heap.size) (Im := fun _ _ => False) (Nat.le_refl _) _ _ h
      refine ⟨_, fun β K' => by simp only [callF, hfn, hbody, cond_false, hm, hdd, cond_true, obind, hcall]; rw [hK], h, fn, hfn, by simpa using hbody, fun nt w0 S w A tmps us hcon hst hargs => ?_⟩
      obtain ⟨hA, hR⟩ := mkArgs_ok (ks := ks) hm hst hargs.1 hargs.2 (fun t ht => ht) hkk hdis
      refine (hcon as r hcall fn hfn w (ImF A fr ks) us _ hA (ImF_tok hst)).mono ?_
      rintro e w' ⟨v, rfl, Im', vs', bl, ds, qs, rfl, rfl, hres, href, hnd, hbl, hkeep, hi1, hi2, hi3, hflat⟩
      -- what is frozen
      obtain ⟨kf, hkf, hkf2⟩ : ∃ kf, (bif fn.resultTypes.toList.all (flatT X.P) && rs.isEmpty then [] else freeze fr ks) = freeze fr kf ∧ ((fn.resultTypes.toList.all (flatT X.P) && rs.isEmpty) = true ∧ kf = [] ∨ kf = ks) := by
        cases hc : (fn.resultTypes.toList.all (flatT X.P) && rs.isEmpty) with
        | true => exact ⟨[], rfl, .inl ⟨rfl, rfl⟩⟩
        | false => exact ⟨ks, rfl, .inr rfl⟩
      obtain ⟨u1, st1⟩ := hst.freeze kf _ rfl
      have hreg : ∀ x, regOf { A with Im := ImF A fr kf } { fr with tk := upds fr.tk (freeze fr kf) } x = regOf A fr x := regOf_congr rfl rfl fun t => by
        simp only [upds_freeze]
        split
        · rw [Option.map_map]; rfl
        · rfl
      have hkin : ∀ t ∈ kf, t ∈ ks := fun t ht => by
        rcases hkf2 with ⟨_, rfl⟩ | rfl
        · cases ht
        · exact ht
      have htk1 : ∀ x ∈ rs, match x with | .b s .. => ({ fr with tk := upds fr.tk (freeze fr kf) } : Fr).bx s = fr.bx s | .t k .. => ({ fr with tk := upds fr.tk (freeze fr kf) } : Fr).tk k = fr.tk k := fun x hx => by
        cases x with
        | b s e off n => rfl
        | t k e i off n =>
          show upds fr.tk (freeze fr kf) k = fr.tk k
          rw [upds_freeze, if_neg]
          intro hk
          exact hkk _ hx k (hkin k hk) rfl
      have hR1 : ∀ x ∈ rs, RefOk { A with Im := ImF A fr kf } { fr with tk := upds fr.tk (freeze fr kf) } x := fun x hx => by
        have h1 := hR x hx
        have h2 := htk1 x hx
        cases x with
        | b s e off n => exact h1
        | t k e i off n =>
          obtain ⟨y, g, q1, q2⟩ := h1
          exact ⟨y, g, by rw [h2]; exact q1, q2⟩
      -- the places written no more behind the call
      obtain ⟨ImX, x1, x2, x3, x4, x5, x6⟩ : ∃ ImX : Pl, (∀ k o, ImF A fr kf k o → ImX k o) ∧ (∀ k o, ImX k o → ImF A fr kf k o ∨ w.heap.size ≤ k) ∧ (∀ k o, ImX k o → ∃ u, w'.cell? (at_ k o) = some u) ∧
          ResOk X.P w' ImX w.heap.size (X.H g).fresh 0 fn.resultTypes.toList ds vs' bl ∧ RefsOk w' ImX (rs.map (regOf A fr)) qs ∧ (∀ y ∈ bl, ∀ o, ¬ ImX y o) := by
        rcases hkf2 with ⟨hc, rfl⟩ | rfl
        · simp only [Bool.and_eq_true, List.isEmpty_iff] at hc
          obtain ⟨hc1, hc2⟩ := hc
          subst hc2
          have hsc := hflat (by rw [hc1, args_noref hA rfl]; rfl)
          simp only [List.map_nil] at href
          cases href
          rw [List.append_nil] at hsc
          obtain ⟨q1, rfl⟩ := hres.flat (Im' := ImF A fr []) hc1 hsc
          refine ⟨ImF A fr [], fun _ _ h => h, fun _ _ h => .inl h, fun k o hh => hi3 k o (hi1 k o (ImF_mono (fun t ht => by cases ht) k o hh)), q1, .nil, fun y hy => by cases hy⟩
        · exact ⟨Im', hi1, hi2, hi3, hres, href, hbl⟩
      have hrl := resLen hres
      have hreg' : rs.map (regOf { A with Im := ImF A fr kf } { fr with tk := upds fr.tk (freeze fr kf) }) = rs.map (regOf A fr) := List.map_congr_left fun x _ => hreg x
      obtain ⟨u2, st2⟩ := st1.callStep (r := ds ++ qs) (m := cellsOfTs X.P fn.resultTypes.toList) (rs := rs) (w' := w') (Im' := ImX) (by rw [hreg']; exact hkeep) hR1 hdis x1 x2 x3 (by rw [hreg']; exact x5)
        (fun i d hi => by rw [List.getElem?_append_right (by omega), hrl, Nat.add_sub_cancel_left]; exact hi) _ rfl _ rfl
      have hwb := writeB_congr (fr := fr) (r := ds ++ qs) rs (cellsOfTs X.P fn.resultTypes.toList) htk1
      rw [hwb] at u2 st2
      -- results
      obtain ⟨vs2, bs2, ts2, hK2, _, hsem⟩ := resV_ok (w0 := w0) (w' := w') (B := w.heap.size) (Im := ImX) (α := List V × List (Nat × Bx) × List (Nat × Tk)) hst.keep.size (X := X) (f0 := fr) (d := d) (g := g) (kp := (X.H X.f).keep.any (Nat.beq d)) (r := ds ++ qs) fn.resultTypes.toList 0 (K := fun a b c => some (a, b, c)) (res := (vs, bs, ts)) (hK _ _)
      have heq : (vs2, bs2, ts2) = (vs, bs, ts) := by
        have e1 := hK2 (List V × List (Nat × Bx) × List (Nat × Tk)) (fun a b c => some (a, b, c))
        rw [hK] at e1
        injection e1 with e1
        exact e1.symm
      injection heq with e1 e2
      injection e2 with e2 e3
      subst e1 e2 e3
      have hnext : ∀ q, 0 < q → nextT { ({ fr with tk := upds fr.tk (freeze fr kf) } : Fr) with bx := upds fr.bx (writeB fr (ds ++ qs) (cellsOfTs X.P fn.resultTypes.toList) rs).1, tk := upds (upds fr.tk (freeze fr kf)) (writeB fr (ds ++ qs) (cellsOfTs X.P fn.resultTypes.toList) rs).2 } (key d q) = nextT fr (key d q) ∧
          nextB { ({ fr with tk := upds fr.tk (freeze fr kf) } : Fr) with bx := upds fr.bx (writeB fr (ds ++ qs) (cellsOfTs X.P fn.resultTypes.toList) rs).1, tk := upds (upds fr.tk (freeze fr kf)) (writeB fr (ds ++ qs) (cellsOfTs X.P fn.resultTypes.toList) rs).2 } (key d q) = nextB fr (key d q) := by
        obtain ⟨wb1, wb2, _, _⟩ := wb_ok (A := A) (fr := fr) (r := ds ++ qs) (m := cellsOfTs X.P fn.resultTypes.toList) x5 (fun i d hi => by rw [List.getElem?_append_right (by omega), hrl, Nat.add_sub_cancel_left]; exact hi) hR
        intro q _
        refine ⟨?_, ?_⟩
        · simp only [nextT]
          rcases upds_get (upds fr.tk (freeze fr kf)) (writeB fr (ds ++ qs) (cellsOfTs X.P fn.resultTypes.toList) rs).2 (key d q) with ⟨q1, _⟩ | ⟨k', q1, q2⟩
          · rw [q1, upds_freeze]
            by_cases hq : key d q ∈ kf
            · rw [if_pos hq]; cases fr.tk (key d q) <;> rfl
            · rw [if_neg hq]
          · obtain ⟨e, i, off, n, y, g, new, _, p2, _, rfl, _⟩ := wb2 _ k' q1
            rw [q2, p2]
        · simp only [nextB]
          rcases upds_get fr.bx (writeB fr (ds ++ qs) (cellsOfTs X.P fn.resultTypes.toList) rs).1 (key d q) with ⟨q1, _⟩ | ⟨b', q1, q2⟩
          · rw [q1]
          · obtain ⟨e, off, n, b2, new, _, p2, p3, rfl, _⟩ := wb1 _ b' q1
            rw [q2, p2]; simp [p3]
      obtain ⟨A3, t3, st3, rv3⟩ := hsem nt S _ _ tmps ds vs' bl st2 x4 (fun i x hi => by rw [Nat.zero_add, List.getElem?_append_left (List.getElem?_eq_some_iff.1 hi).1]; exact hi) (fun _ _ h => h) hnext hnd (fun y hy => by
        have hy2 : w.heap.size ≤ y := resBl hres y hy
        exact ⟨Nat.le_trans hst.keep.size hy2, fun o => by simp; omega, x6 y hy⟩)
      have e4 : ({ fr with bx := upds fr.bx (bs2 ++ (writeB fr (ds ++ qs) (cellsOfTs X.P fn.resultTypes.toList) rs).1), tk := upds fr.tk (ts2 ++ (writeB fr (ds ++ qs) (cellsOfTs X.P fn.resultTypes.toList) rs).2 ++ (bif fn.resultTypes.toList.all (flatT X.P) && rs.isEmpty then [] else freeze fr ks)) } : Fr) =
          { ({ ({ fr with tk := upds fr.tk (freeze fr kf) } : Fr) with bx := upds fr.bx (writeB fr (ds ++ qs) (cellsOfTs X.P fn.resultTypes.toList) rs).1, tk := upds (upds fr.tk (freeze fr kf)) (writeB fr (ds ++ qs) (cellsOfTs X.P fn.resultTypes.toList) rs).2 } : Fr) with bx := upds (upds fr.bx (writeB fr (ds ++ qs) (cellsOfTs X.P fn.resultTypes.toList) rs).1) bs2, tk := upds (upds (upds fr.tk (freeze fr kf)) (writeB fr (ds ++ qs) (cellsOfTs X.P fn.resultTypes.toList) rs).2) ts2 } := by
        simp only [hkf, upds_append]
      exact ⟨_, A3, rfl, by simp only [Fr.mem]; rw [e4]; exact st3, by simp only [Fr.mem]; rw [e4]; exact rv3.tup⟩

end Go.Vm
