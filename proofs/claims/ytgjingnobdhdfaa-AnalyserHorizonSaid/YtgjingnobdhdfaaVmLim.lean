/- The evaluator without fuel: its equations. -/
import Derived.Test.YtgjingnobdhdfaaVmCon
set_option linter.unusedVariables false
set_option linter.unusedSimpArgs false
namespace Go.Vm

variable {fr : Fr} {P : Program}

def Evt (φ : Nat → Prop) : Prop := ∃ N, ∀ n, N ≤ n → φ n
theorem Evt.mono {φ ψ : Nat → Prop} (h : Evt φ) (hh : ∀ n, φ n → ψ n) : Evt ψ := by obtain ⟨N, h⟩ := h; exact ⟨N, fun n hn => hh n (h n hn)⟩
theorem Evt.and {φ ψ : Nat → Prop} (h : Evt φ) (h' : Evt ψ) : Evt fun n => φ n ∧ ψ n := by
  obtain ⟨N, h⟩ := h
  obtain ⟨M, h'⟩ := h'
  exact ⟨max N M, fun n hn => ⟨h n (by omega), h' n (by omega)⟩⟩
theorem Evt.all {φ : Nat → Prop} (h : ∀ n, φ n) : Evt φ := ⟨0, fun n _ => h n⟩

def Env.sw (X : Env) (c : FuncId → List Arg → Option (List D)) (k : Nat → Lv → Option (List D)) : Env := { X with call := c, kont := k }
section same
variable {X : Env} {c : FuncId → List Arg → Option (List D)} {k : Nat → Lv → Option (List D)}
theorem mkArgs_same : ∀ (vs : List V) (ts : List TypeId), mkArgs (X.sw c k) fr vs ts = mkArgs X fr vs ts
  | [], [] => rfl
  | [], _ :: _ => rfl
  | _ :: _, [] => rfl
  | v :: vs, t :: ts => by
    simp only [mkArgs, mkArgs_same vs ts]
    rfl
theorem resCs_same {α : Type} {d : Nat} {g : FuncId} {kf : Bool} {r : List D} : ∀ (n j : Nat) (K : List C → List (Nat × Tk) → Option α), resCs (X.sw c k) fr d g kf r j n K = resCs X fr d g kf r j n K
  | 0, j, K => rfl
  | n + 1, j, K => by
    simp only [resCs, resCs_same n]
    rfl
theorem resV_same {α : Type} {d : Nat} {g : FuncId} {kf : Bool} {r : List D} : ∀ (ts : List TypeId) (j : Nat) (K : List V → List (Nat × Bx) → List (Nat × Tk) → Option α), resV (X.sw c k) fr d g kf r j ts K = resV X fr d g kf r j ts K
  | [], j, K => rfl
  | t :: ts, j, K => by
    simp only [resV, resV_same ts, resCs_same]
    rfl
theorem resCells_same : ∀ (rs : List ResultVar) (ts : List TypeId), resCells (X.sw c k) fr rs ts = resCells X fr rs ts
  | [], [] => rfl
  | [], _ :: _ => rfl
  | _ :: _, [] => rfl
  | r :: rs, t :: ts => by
    simp only [resCells, resCells_same rs ts]
    rfl
theorem ptrSites_same : ∀ (rs : List ResultVar) (ts : List TypeId), ptrSites (X.sw c k) fr rs ts = ptrSites X fr rs ts
  | [], [] => rfl
  | [], _ :: _ => rfl
  | _ :: _, [] => rfl
  | r :: rs, t :: ts => by
    simp only [ptrSites, ptrSites_same rs ts]
    rfl
theorem retF_same (fn : Func) : retF (X.sw c k) fn fr = retF X fn fr := by
  simp only [retF, resCells_same, ptrSites_same]
  rfl
theorem enterF_same : ∀ (i : Nat) (as : List Arg) (ts : List TypeId) (fr : Fr), enterF (X.sw c k) i as ts fr = enterF X i as ts fr
  | i, [], [], fr => rfl
  | i, [], _ :: _, fr => rfl
  | i, .v _ :: _, [], fr => rfl
  | i, .r _ :: _, [], fr => rfl
  | i, .v cs :: as, t :: ts, fr => by
    simp only [enterF, enterF_same (i + 1) as ts]
    rfl
  | i, .r cs :: as, t :: ts, fr => by
    simp only [enterF, enterF_same (i + 1) as ts]
    rfl
end same

/-! ### Step by step -/
theorem bif_t {α : Type} {b : Bool} (h : b = true) (x y : α) : (bif b then x else y) = x := by rw [h]; rfl
section lim
variable {X : Env} {cs : Nat → FuncId → List Arg → Option (List D)} {ks : Nat → Nat → Lv → Option (List D)}

theorem callF_lim {α : Type} {d : Nat} {g : FuncId} {args : List V} {K : Eff → Option α} {r : α} (hc : ∀ g as r, X.call g as = some r → Evt fun n => cs n g as = some r) (h : callF X fr d g args K = some r) :
    ∃ z, K z = some r ∧ Evt fun n => ∀ (β : Type) (K' : Eff → Option β), callF (X.sw (cs n) (ks n)) fr d g args K' = K' z := by
  obtain ⟨z, hK, hKz, _⟩ := callF_ok h
  refine ⟨z, hKz, ?_⟩
  have h0 := hK Eff some
  unfold callF at h0
  split at h0
  · cases h0
  · rename_i fn hfn
    replace h0 := bif_not h0; obtain ⟨hb, h0⟩ := h0
    split at h0
    · cases h0
    · rename_i as rs kks hma
      replace h0 := bif_some h0; obtain ⟨hd, h0⟩ := h0
      cases hcall : X.call g as with
      | none => rw [hcall] at h0; cases h0
      | some r1 =>
        refine (hc g as r1 hcall).mono fun n hn β K' => ?_
        have h1 := hK β K'
        unfold callF at h1 ⊢
        have e1 : (X.sw (cs n) (ks n)).P.funcs[g]? = some fn := hfn
        simp only [hfn, hb, cond_false, hma, hd, cond_true, hcall, obind] at h1
        simp only [e1, hb, cond_false, mkArgs_same, hma]
        rw [show (bif distinct (rs.map Ref.key) && !(kks.any fun t => rs.any fun r => Nat.beq r.key (2 * t + 1)) then _ else none) = _ from by rw [hd, cond_true]]
        rw [show (X.sw (cs n) (ks n)).call g as = some r1 from hn]
        simp only [obind, resV_same]
        exact h1

theorem opF_lim {α : Type} {o : Oper} {K : Eff → Option α} {r : α} (hc : ∀ g as r, X.call g as = some r → Evt fun n => cs n g as = some r) (h : opF X fr o K = some r) :
    ∃ z, K z = some r ∧ Evt fun n => ∀ (β : Type) (K' : Eff → Option β), opF (X.sw (cs n) (ks n)) fr o K' = K' z := by
  obtain ⟨z, hK, _⟩ := opF_ok h
  have hz := h
  rw [hK] at hz
  have keep : (∀ (β : Type) (n : Nat) (K' : Eff → Option β), opF (X.sw (cs n) (ks n)) fr o K' = opF X fr o K') → ∃ z, K z = some r ∧ Evt fun n => ∀ (β : Type) (K' : Eff → Option β), opF (X.sw (cs n) (ks n)) fr o K' = K' z :=
    fun hh => ⟨z, hz, .all fun n β K' => (hh β n K').trans (hK β K')⟩
  cases hop : o.op with
  | call c =>
    cases hcc : c.callee with
    | builtin b => exact keep fun β n K' => by unfold opF; simp only [hop, hcc]; rfl
    | value x =>
      cases x with
      | func g =>
        have h' := h
        unfold opF at h'
        simp only [hop, hcc] at h'
        obtain ⟨z', h1, h2⟩ := callF_lim (ks := ks) hc h'
        exact ⟨z', h1, h2.mono fun n hn β K' => by unfold opF; simp only [hop, hcc]; exact hn β K'⟩
      | _ => exact keep fun β n K' => by unfold opF; simp only [hop, hcc]
    | invoke x y => exact keep fun β n K' => by unfold opF; simp only [hop, hcc]
  | _ => exact keep fun β n K' => by unfold opF; first | (simp only [hop]; done) | (simp only [hop]; rfl)

theorem opsF_lim (hc : ∀ g as r, X.call g as = some r → Evt fun n => cs n g as = some r) {all : Array Oper} {r : List D} : ∀ (l : List Oper) (fr : Fr) (acc : List (Nat × List Nat × List Nat)) (K : Fr → List (Nat × List Nat × List Nat) → R) (Kn : Nat → Fr → List (Nat × List Nat × List Nat) → R),
    (∀ fr acc, K fr acc = some r → Evt fun n => Kn n fr acc = some r) → opsF X all l fr acc K = some r → Evt fun n => opsF (X.sw (cs n) (ks n)) all l fr acc (Kn n) = some r := by
  intro l
  induction l with
  | nil => intro fr acc K Kn hk h; exact hk fr acc h
  | cons o rest ih =>
    intro fr acc K Kn hk h
    have go : ∀ fr1 : Fr, (opF X fr1 o fun x => opsF X all rest (fr1.app o.dst x) (entGo all o acc.length x :: acc) K) = some r →
        Evt fun n => (opF (X.sw (cs n) (ks n)) fr1 o fun x => opsF (X.sw (cs n) (ks n)) all rest (fr1.app o.dst x) (entGo all o acc.length x :: acc) (Kn n)) = some r := fun fr1 hh => by
      obtain ⟨z, h1, h2⟩ := opF_lim (ks := ks) hc hh
      exact (h2.and (ih _ _ K Kn hk h1)).mono fun n hn => by rw [hn.1]; exact hn.2
    have no : ∀ fr1 : Fr, opsF X all rest (fr1.put o.dst .skip) (entNo all o acc.length :: acc) K = some r → Evt fun n => opsF (X.sw (cs n) (ks n)) all rest (fr1.put o.dst .skip) (entNo all o acc.length :: acc) (Kn n) = some r := fun fr1 hh => ih _ _ K Kn hk hh
    unfold opsF at h ⊢
    simp only at h ⊢
    cases hg : o.guard with
    | none => simp only [hg] at h ⊢; exact go fr h
    | some jw =>
      obtain ⟨j, want⟩ := jw
      simp only [hg] at h ⊢
      cases ht : (all[j]?).bind (·.dst) with
      | none => simp only [ht] at h ⊢; exact no fr h
      | some t =>
        simp only [ht] at h ⊢
        cases hs : fr.tm t with
        | skip => simp only [hs] at h ⊢; exact no fr h
        | one c =>
          cases c with
          | d x =>
            simp only [hs] at h ⊢
            replace h := takeB_some h; obtain ⟨b, rfl, h⟩ := h
            simp only [takeB]
            cases b <;> cases want <;> simp only [br, cond_true, cond_false] at h ⊢
            · exact go _ h
            · exact no _ h
            · exact no _ h
            · exact go _ h
          | _ => simp only [hs] at h; cases h
        | _ => simp only [hs] at h; cases h

theorem regionF_lim (hc : ∀ g as r, X.call g as = some r → Evt fun n => cs n g as = some r) {ops : Array Oper} {draw : Bool} {r : List D} {K : Fr → R} {Kn : Nat → Fr → R} (hk : ∀ fr, K fr = some r → Evt fun n => Kn n fr = some r) (h : regionF X ops draw fr K = some r) :
    Evt fun n => regionF (X.sw (cs n) (ks n)) ops draw fr (Kn n) = some r := by
  unfold regionF at h ⊢
  replace h := bif_some h; obtain ⟨hb, h⟩ := h
  refine (opsF_lim (ks := ks) hc ops.toList fr [] _ (fun n fr acc => bif draw then (bif edgesOk 0 ops.toList && orderOk (befs ops.toList []) acc then Kn n fr else none) else Kn n fr) (fun fr acc hh => ?_) h).mono fun n hn => ?_
  · cases draw with
    | true =>
      simp only [cond_true] at hh ⊢
      replace hh := bif_some hh; obtain ⟨ho, hh⟩ := hh
      simp only [ho, cond_true]
      exact hk fr hh
    | false => simp only [cond_false] at hh ⊢; exact hk fr hh
  · exact (bif_t hb _ _).trans hn

structure KsLim (r : List D) (K : Ks) (Kn : Nat → Ks) : Prop where
  nx : ∀ fr, K.nx fr = some r → Evt fun n => (Kn n).nx fr = some r
  ex : ∀ i fr, K.ex i fr = some r → Evt fun n => (Kn n).ex i fr = some r
  rt : ∀ fr, K.rt fr = some r → Evt fun n => (Kn n).rt fr = some r

theorem ksOf_lim (r : List D) (fn : Func) : KsLim r (ksOf X fn) fun n => ksOf (X.sw (cs n) (ks n)) fn :=
  ⟨fun fr h => .all fun n => (retF_same fn).trans h, fun i fr h => (by cases h), fun fr h => .all fun n => (retF_same fn).trans h⟩

variable (hc : ∀ g as r, X.call g as = some r → Evt fun n => cs n g as = some r) (hk : ∀ p l r, X.kont p l = some r → Evt fun n => ks n p l = some r)
include hc hk
theorem ev_lim {r : List D} : ∀ (c : Code) (p : Nat) (fr : Fr) (K : Ks) (Kn : Nat → Ks), KsLim r K Kn → ev X p c fr K = some r → Evt fun n => ev (X.sw (cs n) (ks n)) p c fr (Kn n) = some r := by
  intro c
  induction c with
  | skip => intro p fr K Kn hK h; exact hK.nx fr h
  | region id ops draw =>
    intro p fr K Kn hK h
    simp only [ev] at h ⊢
    cases hl : look p (X.H X.f).cuts with
    | none =>
      rw [hl] at h
      refine (regionF_lim hc (ks := ks) (Kn := fun n => (Kn n).nx) hK.nx h).mono fun n hn => ?_
      rw [show look p ((X.sw (cs n) (ks n)).H (X.sw (cs n) (ks n)).f).cuts = none from hl]
      exact hn
    | some hh =>
      rw [hl] at h
      simp only at h
      cases hcn : canon X fr hh with
      | none => rw [hcn] at h; cases h
      | some l =>
        rw [hcn] at h
        refine (hk p l r h).mono fun n hn => ?_
        rw [show look p ((X.sw (cs n) (ks n)).H (X.sw (cs n) (ks n)).f).cuts = some hh from hl]
        simp only
        rw [show canon (X.sw (cs n) (ks n)) fr hh = some l from hcn]
        exact hn
  | seq x y ihx ihy =>
    intro p fr K Kn hK h
    simp only [ev] at h ⊢
    exact ihx (2 * p) fr { K with nx := fun fr => ev X (2 * p + 1) y fr K } (fun n => { Kn n with nx := fun fr => ev (X.sw (cs n) (ks n)) (2 * p + 1) y fr (Kn n) }) ⟨fun fr h => ihy (2 * p + 1) fr K Kn hK h, hK.ex, hK.rt⟩ h
  | cond c x y ihx ihy =>
    intro p fr K Kn hK h
    simp only [ev, splitB] at h ⊢
    split at h
    · rename_i bb
      cases bb
      · exact ihy _ fr K Kn hK h
      · exact ihx _ fr K Kn hK h
    · rename_i t
      split at h
      · rename_i x hx
        replace h := takeB_some h; obtain ⟨bb, rfl, h⟩ := h
        simp only [takeB]
        cases bb
        · exact ihy _ _ K Kn hK h
        · exact ihx _ _ K Kn hK h
      · cases h
    · cases h
  | block id x ih =>
    intro p fr K Kn hK h
    simp only [ev] at h ⊢
    refine ih (2 * p) fr { K with ex := fun i fr => bif Nat.beq i id then K.nx fr else K.ex i fr } (fun n => { Kn n with ex := fun i fr => bif Nat.beq i id then (Kn n).nx fr else (Kn n).ex i fr }) ⟨hK.nx, fun i fr h => ?_, hK.rt⟩ h
    simp only at h ⊢
    cases hb : Nat.beq i id with
    | true => rw [hb] at h; exact hK.nx fr h
    | false => rw [hb] at h; exact hK.ex i fr h
  | loop x ih =>
    intro p fr K Kn hK h
    simp only [ev] at h ⊢
    exact ih (2 * p) fr { K with nx := fun _ => none } (fun n => { Kn n with nx := fun _ => none }) ⟨fun fr h => (by cases h), hK.ex, hK.rt⟩ h
  | scope x ih => intro p fr K Kn hK h; simp only [ev] at h ⊢; exact ih (2 * p) fr K Kn hK h
  | exit id => intro p fr K Kn hK h; exact hK.ex id fr h
  | ret => intro p fr K Kn hK h; exact hK.rt fr h
  | _ => intro p fr K Kn hK h; cases h

theorem evAt_lim {r : List D} : ∀ (bs : List Bool) (c : Code) (p : Nat) (fr : Fr) (K : Ks) (Kn : Nat → Ks), KsLim r K Kn → evAt X bs p c fr K = some r → Evt fun n => evAt (X.sw (cs n) (ks n)) bs p c fr (Kn n) = some r := by
  intro bs
  induction bs with
  | nil =>
    intro c p fr K Kn hK h
    cases c with
    | region id ops draw => exact regionF_lim hc (ks := ks) (Kn := fun n => (Kn n).nx) hK.nx h
    | _ => cases h
  | cons bb bs ih =>
    intro c p fr K Kn hK h
    cases c with
    | seq x y =>
      cases bb with
      | false => simp only [evAt] at h ⊢; exact ih x (2 * p) fr { K with nx := fun fr => ev X (2 * p + 1) y fr K } (fun n => { Kn n with nx := fun fr => ev (X.sw (cs n) (ks n)) (2 * p + 1) y fr (Kn n) }) ⟨fun fr h => ev_lim hc hk y (2 * p + 1) fr K Kn hK h, hK.ex, hK.rt⟩ h
      | true => simp only [evAt] at h ⊢; exact ih y (2 * p + 1) fr K Kn hK h
    | cond c x y =>
      cases bb with
      | false => simp only [evAt] at h ⊢; exact ih x (2 * p) fr K Kn hK h
      | true => simp only [evAt] at h ⊢; exact ih y (2 * p + 1) fr K Kn hK h
    | block id x =>
      cases bb with
      | true => cases h
      | false =>
        simp only [evAt] at h ⊢
        refine ih x (2 * p) fr { K with ex := fun i fr => bif Nat.beq i id then K.nx fr else K.ex i fr } (fun n => { Kn n with ex := fun i fr => bif Nat.beq i id then (Kn n).nx fr else (Kn n).ex i fr }) ⟨hK.nx, fun i fr h => ?_, hK.rt⟩ h
        simp only at h ⊢
        cases hb : Nat.beq i id with
        | true => rw [hb] at h; exact hK.nx fr h
        | false => rw [hb] at h; exact hK.ex i fr h
    | loop x =>
      cases bb with
      | true => cases h
      | false =>
        simp only [evAt] at h ⊢
        exact ih x (2 * p) fr { K with nx := fun fr => ev X (2 * p) x fr { K with nx := fun _ => none } } (fun n => { Kn n with nx := fun fr => ev (X.sw (cs n) (ks n)) (2 * p) x fr { Kn n with nx := fun _ => none } }) ⟨fun fr h => ev_lim hc hk x (2 * p) fr { K with nx := fun _ => none } (fun n => { Kn n with nx := fun _ => none }) ⟨fun fr h => (by cases h), hK.ex, hK.rt⟩ h, hK.ex, hK.rt⟩ h
    | scope x =>
      cases bb with
      | true => cases h
      | false => simp only [evAt] at h ⊢; exact ih x (2 * p) fr K Kn hK h
    | _ => cases bb <;> cases h

theorem body_lim {as : List Arg} {r : List D} (h : body X as = some r) : Evt fun n => body (X.sw (cs n) (ks n)) as = some r := by
  unfold body at h ⊢
  split at h
  · rename_i fn hf
    replace h := bif_some h; obtain ⟨hn, h⟩ := h
    split at h
    · rename_i c fr hb he
      refine (ev_lim hc hk c 1 fr _ _ (ksOf_lim (cs := cs) (ks := ks) r fn) h).mono fun n hh => ?_
      rw [show (X.sw (cs n) (ks n)).P.funcs[(X.sw (cs n) (ks n)).f]? = some fn from hf]
      simp only [hn, cond_true, hb, enterF_same, he]
      exact hh
    · cases h
  · cases h
theorem bodyAt_lim {p : Nat} {l : Lv} {r : List D} (h : bodyAt X p l = some r) : Evt fun n => bodyAt (X.sw (cs n) (ks n)) p l = some r := by
  unfold bodyAt at h ⊢
  split at h
  · rename_i fn hh hf hl
    split at h
    · rename_i c hb
      refine (evAt_lim hc hk (bits p) c 1 _ _ _ (ksOf_lim (cs := cs) (ks := ks) r fn) h).mono fun n hx => ?_
      rw [show (X.sw (cs n) (ks n)).P.funcs[(X.sw (cs n) (ks n)).f]? = some fn from hf, show look p ((X.sw (cs n) (ks n)).H (X.sw (cs n) (ks n)).f).cuts = some hh from hl]
      simp only [hb]
      exact hx
    · cases h
  · cases h
end lim

/-! ### The limit -/
variable {H : FuncId → Hints}
theorem run_mono : ∀ n f q as l r, run P H n f q as l = some r → run P H (n + 1) f q as l = some r := by
  intro n
  induction n with
  | zero => intro f q as l r h; cases h
  | succ n ih =>
    intro f q as l r h
    have hc : ∀ g as r, (envN P H n f).call g as = some r → Evt fun _ => (envN P H (n + 1) f).call g as = some r := fun g as r h => .all fun _ => ih g none as _ r h
    have hk : ∀ p l r, (envN P H n f).kont p l = some r → Evt fun _ => (envN P H (n + 1) f).kont p l = some r := fun p l r h => .all fun _ => ih f (some p) [] l r h
    cases q with
    | none =>
      obtain ⟨N, hh⟩ := body_lim (X := envN P H n f) (cs := fun _ => (envN P H (n + 1) f).call) (ks := fun _ => (envN P H (n + 1) f).kont) hc hk h
      exact hh N (Nat.le_refl _)
    | some p =>
      obtain ⟨N, hh⟩ := bodyAt_lim (X := envN P H n f) (cs := fun _ => (envN P H (n + 1) f).call) (ks := fun _ => (envN P H (n + 1) f).kont) hc hk h
      exact hh N (Nat.le_refl _)
theorem run_le {n m : Nat} (hnm : n ≤ m) {f : FuncId} {q : Option Nat} {as : List Arg} {l : Lv} {r : List D} (h : run P H n f q as l = some r) : run P H m f q as l = some r := by
  induction hnm with
  | refl => exact h
  | step _ ih => exact run_mono _ _ _ _ _ _ ih

open Classical in
noncomputable def runL (P : Program) (H : FuncId → Hints) (f : FuncId) (q : Option Nat) (as : List Arg) (l : Lv) : Option (List D) :=
  if h : ∃ r n, run P H n f q as l = some r then some h.choose else none
theorem runL_some {f : FuncId} {q : Option Nat} {as : List Arg} {l : Lv} {r : List D} : runL P H f q as l = some r ↔ ∃ n, run P H n f q as l = some r := by
  unfold runL
  constructor
  · intro h
    split at h
    · rename_i hh
      injection h with h
      rw [← h]
      exact hh.choose_spec
    · cases h
  · rintro ⟨n, h⟩
    have hh : ∃ r n, run P H n f q as l = some r := ⟨r, n, h⟩
    rw [dif_pos hh]
    obtain ⟨m, hm⟩ := hh.choose_spec
    have a := run_le (Nat.le_max_left n m) h
    have b := run_le (Nat.le_max_right n m) hm
    rw [a] at b
    exact b.symm
noncomputable def callL (P : Program) (H : FuncId → Hints) (f : FuncId) (as : List Arg) : Option (List D) := runL P H f none as ⟨[], [], []⟩
noncomputable def kontL (P : Program) (H : FuncId → Hints) (f : FuncId) (p : Nat) (l : Lv) : Option (List D) := runL P H f (some p) [] l

theorem ext_some {α : Type} {x y : Option α} (h1 : ∀ r, x = some r → y = some r) (h2 : ∀ r, y = some r → x = some r) : x = y := by
  cases x with
  | none => cases y with
    | none => rfl
    | some r => exact (h2 r rfl).symm ▸ rfl
  | some r => exact (h1 r rfl).symm

theorem runL_evt {f : FuncId} {q : Option Nat} {as : List Arg} {l : Lv} {r : List D} (h : runL P H f q as l = some r) : Evt fun n => run P H n f q as l = some r := by
  obtain ⟨n, h⟩ := runL_some.1 h
  exact ⟨n, fun m hm => run_le hm h⟩

theorem callL_eq (f : FuncId) (as : List Arg) : callL P H f as = body ⟨P, H, callL P H, kontL P H f, f⟩ as := by
  refine ext_some (fun r h => ?_) fun r h => ?_
  · obtain ⟨n, h⟩ := runL_some.1 h
    cases n with
    | zero => cases h
    | succ n =>
      obtain ⟨N, hh⟩ := body_lim (X := envN P H n f) (cs := fun _ => callL P H) (ks := fun _ => kontL P H f) (fun g as r h => .all fun _ => runL_some.2 ⟨n, h⟩) (fun p l r h => .all fun _ => runL_some.2 ⟨n, h⟩) h
      exact hh N (Nat.le_refl _)
  · obtain ⟨N, hh⟩ := body_lim (X := ⟨P, H, callL P H, kontL P H f, f⟩) (cs := fun n => (envN P H n f).call) (ks := fun n => (envN P H n f).kont) (fun g as r h => runL_evt h) (fun p l r h => runL_evt h) h
    exact runL_some.2 ⟨N + 1, hh N (Nat.le_refl _)⟩
theorem kontL_eq (f : FuncId) (p : Nat) (l : Lv) : kontL P H f p l = bodyAt ⟨P, H, callL P H, kontL P H f, f⟩ p l := by
  refine ext_some (fun r h => ?_) fun r h => ?_
  · obtain ⟨n, h⟩ := runL_some.1 h
    cases n with
    | zero => cases h
    | succ n =>
      obtain ⟨N, hh⟩ := bodyAt_lim (X := envN P H n f) (cs := fun _ => callL P H) (ks := fun _ => kontL P H f) (fun g as r h => .all fun _ => runL_some.2 ⟨n, h⟩) (fun p l r h => .all fun _ => runL_some.2 ⟨n, h⟩) h
      exact hh N (Nat.le_refl _)
  · obtain ⟨N, hh⟩ := bodyAt_lim (X := ⟨P, H, callL P H, kontL P H f, f⟩) (cs := fun n => (envN P H n f).call) (ks := fun n => (envN P H n f).kont) (fun g as r h => runL_evt h) (fun p l r h => runL_evt h) h
    exact runL_some.2 ⟨N + 1, hh N (Nat.le_refl _)⟩
theorem callL_ok (hN : NoNum P) (hm : P.follows .mixedOrders = true) {f : FuncId} {as : List Arg} {r : List D} (h : callL P H f as = some r) : Con P H f as r := by
  obtain ⟨n, h⟩ := runL_some.1 h
  exact (run_ok hN hm n).1 f as _ r h

end Go.Vm
