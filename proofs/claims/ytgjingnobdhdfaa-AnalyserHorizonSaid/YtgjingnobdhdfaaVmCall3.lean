/- Results of a call are taken in; calls. -/
import Derived.Test.YtgjingnobdhdfaaVmCall2
set_option linter.unusedVariables false
set_option linter.unusedSimpArgs false
namespace Go.Vm

variable {nt : Nat} {w0 : World} {S : Sp} {w : World} {A : As} {fr : Fr} {tmps : Array Value} {P : Program}

/-- Nobody's block. -/
def FreeB (w0 : World) (A : As) (g : Nat) : Prop := w0.heap.size ≤ g ∧ (∀ o, A.own g o = .none) ∧ ∀ o, ¬ A.Im g o

/-- A slice that is handed over and not kept is written no more. -/
theorem St.adoptIm (h : St nt w0 S w A fr tmps) (g : Nat) {e : TypeId} {n : Nat} {rows : List (List D)} {u : Value} {ep : Nat} {B : Nat} (hg : FreeB w0 A g) (hk : TokRel w A.Im B ⟨ep, false, e, n, rows⟩ u (some g)) :
    ∀ A', A' = { A with Im := fun k o => A.Im k o ∨ (k = g ∧ o < rows.length * n) } → Upd w0 S w A fr w A' fr (fun _ _ => False) ∧ St nt w0 S w A' fr tmps ∧ Rd w A'.Im (.list n rows) u := by
  intro A' hA
  subst hA
  have u1 : Upd w0 S w A fr w { A with Im := fun k o => A.Im k o ∨ (k = g ∧ o < rows.length * n) } fr (fun _ _ => False) :=
    ⟨Keep.refl _ _, fun _ _ h => h.elim, fun _ _ _ h => h, rfl, fun _ _ h => .inl h, fun _ _ _ _ => rfl, fun s b hb => ⟨b, hb, .inr ⟨rfl, rfl⟩⟩, fun t k hk => ⟨k, hk, .inr ⟨rfl, rfl, rfl, rfl, rfl⟩⟩⟩
  obtain ⟨h1, h2, h3, cap, cur, h4, h5, h6, h7, h8, h9⟩ := hk
  have hsz : rows.length * n ≤ cur.size := by rw [h8]; exact Nat.mul_le_mul_right _ h6
  refine ⟨u1, h.of_upd u1 (fun s b hb => .inl ⟨hb, rfl, fun _ _ h => h⟩) (fun t k hk => .inl ⟨⟨k, hk, rfl, rfl, rfl⟩, rfl, rfl, fun _ _ _ h => h⟩) (fun k o hi => ?_) (fun k o hi => hi.imp id fun hh => by rw [hh.1]; exact hg.1), ?_⟩
  · rcases hi with hi | ⟨rfl, ho⟩
    · have hh := h.im k o hi
      exact ⟨hh.cell, hh.nob, hh.tok⟩
    · have ho' := hg.2.1 o
      refine ⟨⟨cur[o], ?_⟩, fun s => ?_, fun t x q1 _ _ => ?_⟩
      · have : o < cur.size := by omega
        simp [World.cell?, h5, this]
      · show A.own k o ≠ _
        rw [ho']; simp
      · have q1 : A.own k o = _ := q1
        rw [ho'] at q1; cases q1
  · subst h4
    refine Rd.mk_list h6 h3 fun hne => ⟨g, 0, rfl, fun i row hi j d hj => ?_⟩
    obtain ⟨x, hx, hr⟩ := h9 i row hi j d hj
    have hin := (row_in h3 hi hj).2.2
    refine ⟨x, .inr ⟨rfl, by simpa using hin⟩, ?_, hr.step (fun _ _ h => .inl h) fun _ _ _ => rfl⟩
    simp [World.cell?, h5, hx]

/-- What stays the same of a frame and of memory while results are taken in. -/
structure Took (w0 : World) (S : Sp) (w : World) (A : As) (fr : Fr) (A' : As) (fr' : Fr) (bl : List Nat) (d j : Nat) : Prop where
  upd : Upd w0 S w A fr w A' fr' (fun _ _ => False)
  free : ∀ g, g ∉ bl → FreeB w0 A g → FreeB w0 A' g
  bx : ∀ q, q ≤ j → fr'.bx (key d q) = fr.bx (key d q)
  tk : ∀ q, q ≤ j → fr'.tk (key d q) = fr.tk (key d q)
theorem Took.refl (bl : List Nat) (d j : Nat) : Took w0 S w A fr A fr bl d j :=
  ⟨⟨Keep.refl _ _, fun _ _ h => h.elim, fun _ _ _ h => h, rfl, fun _ _ h => h, fun _ _ _ _ => rfl, fun s b hb => ⟨b, hb, .inr ⟨rfl, rfl⟩⟩, fun t k hk => ⟨k, hk, .inr ⟨rfl, rfl, rfl, rfl, rfl⟩⟩⟩, fun _ _ h => h, fun _ _ => rfl, fun _ _ => rfl⟩
theorem Upd.trans {w1 w2 : World} {A1 A2 : As} {f1 f2 : Fr} (u : Upd w0 S w A fr w A1 f1 (fun _ _ => False)) (v : Upd w0 S w A1 f1 w A2 f2 (fun _ _ => False)) : Upd w0 S w A fr w A2 f2 (fun _ _ => False) := by
  refine ⟨Keep.refl _ _, fun _ _ h => h.elim, fun _ _ _ h => h, v.tm.trans u.tm, fun k o h => v.im k o (u.im k o h), fun k o hk hn => ?_, fun s b hb => ?_, fun t k hk => ?_⟩
  · have e1 := u.own k o hk hn
    exact (v.own k o hk (hn.imp (fun h => by rw [e1]; exact h) (u.im k o))).trans e1
  · obtain ⟨b1, h1, h2⟩ := u.bx s b hb
    obtain ⟨b2, h3, h4⟩ := v.bx s b1 h1
    refine ⟨b2, h3, ?_⟩
    rcases h2 with h2 | ⟨h2, h2'⟩ <;> rcases h4 with h4 | ⟨h4, h4'⟩
    · exact .inl (by omega)
    · exact .inl (by omega)
    · exact .inl (by omega)
    · exact .inr ⟨by omega, h4'.trans h2'⟩
  · obtain ⟨b1, h1, h2⟩ := u.tk t k hk
    obtain ⟨b2, h3, h4⟩ := v.tk t b1 h1
    refine ⟨b2, h3, ?_⟩
    rcases h2 with h2 | ⟨h2, a2, a3, a4, a5⟩ <;> rcases h4 with h4 | ⟨h4, b2, b3, b4, b5⟩
    · exact .inl (by omega)
    · exact .inl (by omega)
    · exact .inl (by omega)
    · exact .inr ⟨by omega, b2.trans a2, b3.trans a3, b4.trans a4, b5.trans a5⟩
theorem Took.trans {A1 A2 : As} {f1 f2 : Fr} {b1 b2 bl : List Nat} {d j1 j2 : Nat} (u : Took w0 S w A fr A1 f1 b1 d j1) (v : Took w0 S w A1 f1 A2 f2 b2 d j2) (h1 : ∀ g ∈ b1, g ∈ bl) (h2 : ∀ g ∈ b2, g ∈ bl) (hj : j2 ≤ j1) : Took w0 S w A fr A2 f2 bl d j2 :=
  ⟨Upd.trans (w1 := w) (w2 := w) u.upd v.upd, fun g hg hf => v.free g (fun h => hg (h2 g h)) (u.free g (fun h => hg (h1 g h)) hf), fun q hq => (v.bx q hq).trans (u.bx q (by omega)), fun q hq => (v.tk q hq).trans (u.tk q (by omega))⟩

theorem key_ne {d a b : Nat} (h : a ≠ b) : key d a ≠ key d b := by simp only [key]; omega

theorem FreeB.newTok {t : Nat} {v : Value} {y : Option Nat} {g : Nat} (h : FreeB w0 A g) (hg : y ≠ some g) : FreeB w0 (A.newTok t v y) g :=
  ⟨h.1, fun o => by simp only [As.newTok]; rw [if_neg hg]; exact h.2.1 o, h.2.2⟩
theorem FreeB.newBox {s x g : Nat} (h : FreeB w0 A g) (hg : g ≠ x) : FreeB w0 (A.newBox s x) g :=
  ⟨h.1, fun o => by simp only [As.newBox]; rw [if_neg hg]; exact h.2.1 o, h.2.2⟩

/-- The cells of a value that a call returns. 'f0': the frame by which counts were taken. -/
theorem resCs_ok {α : Type} {X : Env} {f0 : Fr} {d g : Nat} {kp : Bool} {r : List D} {w' : World} {B : Nat} {Im : Pl} (hB : w0.heap.size ≤ B) : ∀ (n j : Nat) {K : List C → List (Nat × Tk) → Option α} {res : α}, resCs X f0 d g kp r j n K = some res →
    ∃ cs ks, (∀ (β : Type) (K' : List C → List (Nat × Tk) → Option β), resCs X f0 d g kp r j n K' = K' cs ks) ∧ K cs ks = some res ∧ cs.length = n ∧
      ∀ (nt : Nat) (S : Sp) (A : As) (fr : Fr) (tmps : Array Value) (ds : List D) (us : List Value) (bl : List Nat), St nt w0 S w' A fr tmps → ds.length = n → CellsOk X.P w' Im B (X.H g).fresh j ds us bl → (∀ (i : Nat) (x : D), ds[i]? = some x → r[j + i]? = some x) → (∀ k o, Im k o → A.Im k o) →
        (∀ q, j < q → q ≤ j + n → nextT fr (key d q) = nextT f0 (key d q)) → bl.Nodup → (∀ g ∈ bl, FreeB w0 A g) →
        ∃ A', Took w0 S w' A fr A' { fr with tk := upds fr.tk ks } bl d j ∧ St nt w0 S w' A' { fr with tk := upds fr.tk ks } tmps ∧ RCs { fr with tk := upds fr.tk ks } w' A' cs us := by
  intro n
  induction n with
  | zero =>
    intro j K res h
    refine ⟨[], [], fun _ _ => rfl, h, rfl, fun nt S A fr tmps ds us bl hst hl hc hr hIm hq hnd hfr => ?_⟩
    have : ds = [] := List.length_eq_zero_iff.1 hl
    subst this
    cases hc
    exact ⟨A, Took.refl _ _ _, hst, ⟨rfl, fun j c v h => by simp at h⟩⟩
  | succ n ih =>
    intro j K res h
    simp only [resCs] at h
    obtain ⟨cs, ks, hK, h, hcl, hsem⟩ := ih (j + 1) h
    -- the cell taken as data
    have plain : ∀ (hK' : ∀ (β : Type) (K' : List C → List (Nat × Tk) → Option β), resCs X f0 d g kp r j (n + 1) K' = K' (.d (r.getD j .bad) :: cs) ks), K (.d (r.getD j .bad) :: cs) ks = some res →
        ∃ cs ks, (∀ (β : Type) (K' : List C → List (Nat × Tk) → Option β), resCs X f0 d g kp r j (n + 1) K' = K' cs ks) ∧ K cs ks = some res ∧ cs.length = n + 1 ∧
          ∀ (nt : Nat) (S : Sp) (A : As) (fr : Fr) (tmps : Array Value) (ds : List D) (us : List Value) (bl : List Nat), St nt w0 S w' A fr tmps → ds.length = n + 1 → CellsOk X.P w' Im B (X.H g).fresh j ds us bl → (∀ (i : Nat) (x : D), ds[i]? = some x → r[j + i]? = some x) → (∀ k o, Im k o → A.Im k o) →
            (∀ q, j < q → q ≤ j + (n + 1) → nextT fr (key d q) = nextT f0 (key d q)) → bl.Nodup → (∀ g ∈ bl, FreeB w0 A g) →
            ∃ A', Took w0 S w' A fr A' { fr with tk := upds fr.tk ks } bl d j ∧ St nt w0 S w' A' { fr with tk := upds fr.tk ks } tmps ∧ RCs { fr with tk := upds fr.tk ks } w' A' cs us := by
      intro hK' hh
      refine ⟨_, ks, hK', hh, by simp [hcl], fun nt S A fr tmps ds us bl hst hl hc hr hIm hq hnd hfr => ?_⟩
      cases hc with
      | nil => simp at hl
      | @cons _ x u b ds us bl' hx hs =>
        have hget : r.getD j .bad = x := by have := hr 0 x rfl; simp at this; simp [List.getD, this]
        obtain ⟨hn1, hn2, hdis⟩ := List.nodup_append.1 hnd
        obtain ⟨A1, t1, s1, c1⟩ := hsem nt S A fr tmps ds us bl' hst (by simpa using hl) hs (fun i x hi => by rw [Nat.add_assoc, Nat.add_comm 1]; exact hr (i + 1) x (by simpa using hi)) hIm (fun q h1 h2 => hq q (by omega) (by omega)) hn2 fun g hg => hfr g (List.mem_append_right _ hg)
        rw [hget]
        have cons : ∀ {A2 : As}, Upd w0 S w' A1 { fr with tk := upds fr.tk ks } w' A2 { fr with tk := upds fr.tk ks } (fun _ _ => False) → Rd w' A2.Im x u → RCs { fr with tk := upds fr.tk ks } w' A2 (.d x :: cs) (u :: us) := fun u2 hrd => by
          refine ⟨by simp [c1.1], fun q c v q1 q2 => ?_⟩
          cases q with
          | zero => simp at q1 q2; subst q1 q2; exact ⟨hrd.one, hrd⟩
          | succ q => exact u2.rc s1 (c1.2 q c v (by simpa using q1) (by simpa using q2))
        cases hx' : look j (X.H g).fresh with
        | none =>
          rw [hx'] at hx
          cases hx with
          | plain _ _ hrd =>
            refine ⟨A1, ⟨t1.upd, fun y hy => t1.free y fun hm => hy (List.mem_append_right _ hm), fun q hq => t1.bx q (by omega), fun q hq => t1.tk q (by omega)⟩, s1, cons (Took.refl (bl := []) (d := 0) (j := 0)).upd (hrd.step (fun k o hi => t1.upd.im k o (hIm k o hi)) fun _ _ _ => rfl)⟩
        | some e =>
          rw [hx'] at hx
          cases hx with
          | empty _ n' a =>
            exact ⟨A1, ⟨t1.upd, fun y hy => t1.free y fun hm => hy (List.mem_append_right _ hm), fun q hq => t1.bx q (by omega), fun q hq => t1.tk q (by omega)⟩, s1, cons (Took.refl (bl := []) (d := 0) (j := 0)).upd (Rd.mk_list (rows := []) (Nat.zero_le _) (fun _ h => by cases h) fun h => absurd rfl h)⟩
          | fresh _ rows _ y hrel =>
            have hy : FreeB w0 A1 y := t1.free y (fun hm => hdis y (by simp) y hm rfl) (hfr y (by simp))
            have hrel' : TokRel w' A1.Im B ⟨0, false, e, sz X.P e, rows⟩ u (some y) := by
              obtain ⟨q1, q2, q3, cap, cur, q4, q5, q6, q7, q8, q9⟩ := hrel
              exact ⟨q1, q2, q3, cap, cur, q4, q5, q6, q7, q8, fun i row hi j d hj => by obtain ⟨u, r1, r2⟩ := q9 i row hi j d hj; exact ⟨u, r1, r2.step (fun k o hi => t1.upd.im k o (hIm k o hi)) fun _ _ _ => rfl⟩⟩
            obtain ⟨u2, s2, hrd⟩ := s1.adoptIm y hy hrel' _ rfl
            refine ⟨_, t1.trans (b2 := [y]) (j2 := j) ⟨u2, fun z hz hf => ⟨hf.1, hf.2.1, fun o ho => ho.elim (hf.2.2 o) fun hh => hz (by simp [hh.1])⟩, fun _ _ => rfl, fun _ _ => rfl⟩ (fun z hz => List.mem_append_right _ hz) (fun z hz => List.mem_append_left _ hz) (by omega), s2, cons u2 hrd⟩
    cases hkp : kp with
    | false =>
      subst hkp
      simp only [cond_false] at h
      exact plain (fun β K' => by simp only [resCs, cond_false]; rw [hK]) h
    | true =>
      subst hkp
      simp only [cond_true] at h
      cases hlk : look j (X.H g).fresh with
      | none =>
        simp only [hlk] at h
        exact plain (fun β K' => by simp only [resCs, cond_true, hlk]; rw [hK]) h
      | some e =>
        simp only [hlk] at h
        replace h := takeL_some h; obtain ⟨n', rows, hrw, hn', h⟩ := h
        refine ⟨_, _, fun β K' => by simp only [resCs, cond_true, hlk]; rw [hK, hrw]; simp only [takeL, if_pos hn'], h, by simp [hcl], fun nt S A fr tmps ds us bl hst hl hc hr hIm hq hnd hfr => ?_⟩
        cases hc with
        | nil => simp at hl
        | @cons _ x u b ds us bl' hx hs =>
          have hget : r.getD j .bad = x := by have := hr 0 x rfl; simp at this; simp [List.getD, this]
          obtain ⟨hn1, hn2, hdis⟩ := List.nodup_append.1 hnd
          obtain ⟨A1, t1, s1, c1⟩ := hsem nt S A fr tmps ds us bl' hst (by simpa using hl) hs (fun i x hi => by rw [Nat.add_assoc, Nat.add_comm 1]; exact hr (i + 1) x (by simpa using hi)) hIm (fun q h1 h2 => hq q (by omega) (by omega)) hn2 fun g hg => hfr g (List.mem_append_right _ hg)
          rw [hlk] at hx
          have hkt : (upds fr.tk ks) (key d (j + 1)) = fr.tk (key d (j + 1)) := t1.tk (j + 1) (Nat.le_refl _)
          have hep : ∀ z, (upds fr.tk ks) (key d (j + 1)) = some z → z.e < nextT f0 (key d (j + 1)) := fun z hz => by
            rw [← hq (j + 1) (by omega) (by omega)]
            exact nextT_lt (by rw [← hkt]; exact hz)
          have fin : ∀ (og : Option Nat) (rows' : List (List D)), rows' = rows → TokRel w' A1.Im w0.heap.size ⟨nextT f0 (key d (j + 1)), false, e, sz X.P e, rows'⟩ u og → (∀ y, og = some y → FreeB w0 A1 y ∧ y ∈ b ++ bl') →
              ∃ A', Took w0 S w' A fr A' { fr with tk := upds fr.tk ((key d (j + 1), ⟨nextT f0 (key d (j + 1)), false, e, sz X.P e, rows⟩) :: ks) } (b ++ bl') d j ∧ St nt w0 S w' A' { fr with tk := upds fr.tk ((key d (j + 1), ⟨nextT f0 (key d (j + 1)), false, e, sz X.P e, rows⟩) :: ks) } tmps ∧
                RCs { fr with tk := upds fr.tk ((key d (j + 1), ⟨nextT f0 (key d (j + 1)), false, e, sz X.P e, rows⟩) :: ks) } w' A' (.own (key d (j + 1)) (nextT f0 (key d (j + 1))) :: cs) (u :: us) := by
            intro og rows' hrows htr hfo
            subst hrows
            obtain ⟨u2, s2, hrc⟩ := s1.adoptTok (key d (j + 1)) ⟨nextT f0 (key d (j + 1)), false, e, sz X.P e, rows'⟩ u og hep rfl (fun y hy => (hfo y hy).1.2.1) (fun y hy => (hfo y hy).1.2.2) htr _ rfl
            refine ⟨_, t1.trans (b2 := og.toList) (j2 := j) ⟨u2, fun z hz hf => hf.newTok fun e => hz (by simp [e]), fun _ _ => rfl, fun q hq => upd_ne _ _ (key_ne (by omega))⟩ (fun z hz => List.mem_append_right _ hz) (fun z hz => (hfo z (by simpa using hz)).2) (by omega), s2, ?_⟩
            refine ⟨by simp [c1.1], fun q c v q1 q2 => ?_⟩
            cases q with
            | zero => simp at q1 q2; subst q1 q2; exact hrc
            | succ q => exact u2.rc s1 (c1.2 q c v (by simpa using q1) (by simpa using q2))
          rw [hget] at hrw
          cases hx with
          | empty _ n2 a =>
            injection hrw with _ hrw
            exact fin none [] hrw ⟨rfl, a, rfl⟩ fun y hy => by cases hy
          | fresh _ rows2 _ y hrel =>
            injection hrw with _ hrw
            have hy : FreeB w0 A1 y := t1.free y (fun hm => hdis y (by simp) y hm rfl) (hfr y (by simp))
            refine fin (some y) rows2 hrw ?_ fun z hz => by injection hz with hz; subst hz; exact ⟨hy, by simp⟩
            obtain ⟨q1, q2, q3, cap, cur, q4, q5, q6, q7, q8, q9⟩ := hrel
            exact ⟨q1, Nat.le_trans hB q2, q3, cap, cur, q4, q5, q6, q7, q8, fun i row hi j d hj => by obtain ⟨u, r1, r2⟩ := q9 i row hi j d hj; exact ⟨u, r1, r2.step (fun k o hi => t1.upd.im k o (hIm k o hi)) fun _ _ _ => rfl⟩⟩

end Go.Vm
