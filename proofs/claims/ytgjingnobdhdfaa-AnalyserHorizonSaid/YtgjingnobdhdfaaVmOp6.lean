/- Every operation. -/
import Derived.Test.YtgjingnobdhdfaaVmCall4
set_option linter.unusedVariables false
set_option linter.unusedSimpArgs false
namespace Go.Vm

variable {nt : Nat} {w0 : World} {S : Sp} {w : World} {A : As} {fr : Fr} {P : Program}

theorem mapArr {α β : Type} (xs : Array α) (f : α → β) : (xs.toList.map f).toArray = xs.map f := by cases xs; simp
theorem mapArr2 {β γ : Type} (xs : Array (Nat × β)) (f : β → γ) : (xs.map fun (i, x) => (i, f x)) = (xs.toList.map fun p => (p.1, f p.2)).toArray := by cases xs; simp

theorem sem_value {P : Program} {o : Oper} {a : Act} {next : Act → World → Prop} {Q : Exit → Act → World → Prop} {z : Eff} {s : Sem Value} (he : execOp a.eval o = (do pure (.value (← s)))) (hd : ∀ e, o.dst = some e → e < nt)
    (h : Does P fr z nt w0 S w A a.tmps s) (hn : ∀ A' v w', St nt w0 S w' A' (fr.app o.dst z) (a.put o.dst v).tmps → next (a.put o.dst v) w') : o.wp P a w next Q := by
  obtain ⟨v, w', A', h1, h2, h3⟩ := h
  unfold Oper.wp
  rw [he]
  simp only [Sem.run_bind, h1, Result.andThen_ok, Sem.run_pure, Oper.upon]
  exact hn A' v w' (by rw [app_eq]; exact h2.put o.dst z.v v hd h3)
theorem args_rv {a : Act} (h : St nt w0 S w A fr a.tmps) (xs : List Operand) : RVs fr w A (xs.map (val fr)) (xs.map a.eval) := by
  refine ⟨by simp, fun i x u h1 h2 => ?_⟩
  rw [List.getElem?_map] at h1 h2
  cases hi : xs[i]? with
  | none => simp [hi] at h1
  | some y => simp [hi] at h1 h2; subst h1 h2; exact val_rv h y

theorem builtinF_ok {α : Type} {X : Env} {d : Nat} {b : Builtin} {ts : Array TypeId} {args : List V} {K : Eff → Option α} {r : α} (h : builtinF X fr d b ts args K = some r) :
    ∃ z, (∀ (β : Type) (K' : Eff → Option β), builtinF X fr d b ts args K' = K' z) ∧
      ∀ (nt : Nat) (w0 : World) (S : Sp) (w : World) (A : As) (tmps : Array Value) (us : List Value) (ty : TypeId) (cs : Array Bool), St nt w0 S w A fr tmps → RVs fr w A args us →
        ∃ s, builtin b ts ty cs us.toArray = (do pure (.value (← s))) ∧ Does X.P fr z nt w0 S w A tmps s := by
  unfold builtinF at h
  split at h
  · split at h
    · rename_i t x ht
      obtain ⟨z, hK, h1, h2, hr⟩ := lenF_ok h
      refine ⟨z, fun β K' => by simp only [builtinF, ht]; exact hK β K', fun nt w0 S w A tmps us ty cs hst hv => ?_⟩
      match us, hv with
      | [u], hv => exact ⟨_, rfl, Does.read h1 h2 hst (hr nt w0 S w A tmps u ty ts ht hst (hv.2 0 x u rfl rfl))⟩
      | [], hv => have := hv.1; simp at this
      | _ :: _ :: _, hv => have := hv.1; simp at this
    · cases h
  · split at h
    · rename_i t u s x ht
      replace h := bif_some h; obtain ⟨hc, h⟩ := h
      have htu : t = u := Nat.eq_of_beq_eq_true hc
      subst htu
      obtain ⟨z, hK, hr⟩ := appendF_ok h
      refine ⟨z, fun β K' => by simp only [builtinF, ht, hc, cond_true]; exact hK β K', fun nt w0 S w A tmps us ty cs hst hv => ?_⟩
      have hts : ts = #[t, t] := by rw [← Array.toArray_toList (xs := ts), ht]
      match us, hv with
      | [u1, u2], hv => exact ⟨_, by rw [hts]; rfl, hr nt w0 S w A tmps u1 u2 ty hst (hv.2 0 s u1 rfl rfl) (hv.2 1 x u2 rfl rfl)⟩
      | [], hv => have := hv.1; simp at this
      | [_], hv => have := hv.1; simp at this
      | _ :: _ :: _ :: _, hv => have := hv.1; simp at this
    · cases h
  · split at h
    · rename_i t x vs ht
      split at h
      · rename_i k hu
        replace h := takeI_some h; obtain ⟨n, rfl, h⟩ := h
        obtain ⟨z, hK, hr⟩ := minF_ok (P := X.P) false k vs h
        refine ⟨_, fun β K' => by simp only [builtinF, ht, hu, takeI, if_true]; exact hK β _, fun nt w0 S w A tmps us ty cs hst hv => ?_⟩
        match us, hv with
        | u :: us, hv =>
          have := (hv.2 0 _ u rfl rfl).d_inv.int_inv
          subst this
          obtain ⟨v, h1, h2⟩ := hr fr w A us (by simpa using hv.1) fun j x u h1 h2 => hv.2 (j + 1) x u (by simpa using h1) (by simpa using h2)
          refine ⟨_, rfl, Does.read rfl rfl hst ⟨v, ?_, h2⟩⟩
          simpa [Builtin.min_] using h1
        | [], hv => have := hv.1; simp at this
      · cases h
    · cases h
  · split at h
    · rename_i t x vs ht
      split at h
      · rename_i k hu
        replace h := takeI_some h; obtain ⟨n, rfl, h⟩ := h
        obtain ⟨z, hK, hr⟩ := minF_ok (P := X.P) true k vs h
        refine ⟨_, fun β K' => by simp only [builtinF, ht, hu, takeI, if_true]; exact hK β _, fun nt w0 S w A tmps us ty cs hst hv => ?_⟩
        match us, hv with
        | u :: us, hv =>
          have := (hv.2 0 _ u rfl rfl).d_inv.int_inv
          subst this
          obtain ⟨v, h1, h2⟩ := hr fr w A us (by simpa using hv.1) fun j x u h1 h2 => hv.2 (j + 1) x u (by simpa using h1) (by simpa using h2)
          refine ⟨_, rfl, Does.read rfl rfl hst ⟨v, ?_, h2⟩⟩
          simpa [Builtin.max_] using h1
        | [], hv => have := hv.1; simp at this
      · cases h
    · cases h
  · cases h

/-- What is asked of the program's names. -/
def NoNum (P : Program) : Prop := ∀ (f : FuncId) (fn : Func), P.funcs[f]? = some fn → fn.body.isSome = true → (fn.name == "runtime.NumGoroutine") = false

theorem opF_ok {α : Type} {X : Env} {o : Oper} {K : Eff → Option α} {r : α} (h : opF X fr o K = some r) :
    ∃ z, (∀ (β : Type) (K' : Eff → Option β), opF X fr o K' = K' z) ∧
      ∀ (w0 : World) (S : Sp) (w : World) (A : As) (a : Act) (next : Act → World → Prop) (Q : Exit → Act → World → Prop), NoNum X.P → (∀ g as r, X.call g as = some r → Con X.P X.H g as r) → (∀ e, o.dst = some e → e < X.nt) → St X.nt w0 S w A fr a.tmps →
        (∀ A' v w', St X.nt w0 S w' A' (fr.app o.dst z) (a.put o.dst v).tmps → next (a.put o.dst v) w') → o.wp X.P a w next Q := by
  unfold opF at h
  cases hop : o.op with
  | move x =>
    simp only [hop] at h
    refine ⟨_, fun β K' => by unfold opF; simp only [hop]; rfl, fun w0 S w A a next Q hN hC hd hst hn => ?_⟩
    refine sem_value (s := pure (a.eval x)) (by simp only [execOp, hop]; rfl) hd (Does.read rfl rfl hst ⟨_, rfl, val_rv hst x⟩) hn
  | assign x =>
    simp only [hop] at h
    split at h
    · rename_i hv
      cases hc : (X.H X.f).nils.any (Nat.beq (o.dst.getD 0)) with
      | true =>
        rw [hc, cond_true] at h
        refine ⟨_, fun β K' => by unfold opF; simp only [hop, hv, hc, cond_true]; rfl, fun w0 S w A a next Q hN hC hd hst hn => ?_⟩
        have hx := val_rv hst x
        rw [hv] at hx
        obtain ⟨_, ad, he⟩ := hx.one_inv
        obtain ⟨A', _, s1, s2, _, s3⟩ := hst.newTok (key (o.dst.getD 0) 0) ⟨nextT fr (key (o.dst.getD 0) 0), false, (elemT X.P o.type).getD 0, sz X.P ((elemT X.P o.type).getD 0), []⟩ (.slice ad 0 0) none rfl rfl (Keep.refl _ _) (fun q hq => by cases hq) ⟨rfl, ad, rfl⟩ _ rfl
        refine sem_value (A := A) (s := pure (a.eval x)) (by simp only [execOp, hop]; rfl) hd ⟨_, w, A', rfl, s1, ?_⟩ hn
        rw [he]
        exact .one _ _ ⟨rfl, _, upd_same _ _ _, Nat.le_refl _, fun _ => s2.symm⟩
      | false =>
        rw [hc, cond_false] at h
        refine ⟨_, fun β K' => by unfold opF; simp only [hop, hv, hc, cond_false]; rfl, fun w0 S w A a next Q hN hC hd hst hn => ?_⟩
        exact sem_value (s := pure (a.eval x)) (by simp only [execOp, hop]; rfl) hd (Does.read rfl rfl hst ⟨_, rfl, by rw [← hv]; exact val_rv hst x⟩) hn
    · rename_i hne
      refine ⟨{ v := val fr x }, fun β K' => ?_, fun w0 S w A a next Q hN hC hd hst hn => ?_⟩
      · unfold opF
        simp only [hop]
      · exact sem_value (s := pure (a.eval x)) (by simp only [execOp, hop]; rfl) hd (Does.read rfl rfl hst ⟨_, rfl, val_rv hst x⟩) hn
  | pick c x y =>
    simp only [hop] at h
    split at h
    · rename_i cx hv
      replace h := takeB_some h; obtain ⟨b, rfl, h⟩ := h
      refine ⟨{ v := if b then val fr x else val fr y }, fun β K' => by unfold opF; simp only [hop, hv, takeB]; cases b <;> rfl, fun w0 S w A a next Q hN hC hd hst hn => ?_⟩
      have hx := val_rv hst c
      rw [hv] at hx
      have hb := hx.d_inv.bool_inv
      refine sem_value (s := (do if ← asBool (a.eval c) then pure (a.eval x) else pure (a.eval y))) ?_ hd (Does.read rfl rfl hst ⟨if b then a.eval x else a.eval y, ?_, ?_⟩) hn
      · simp only [execOp, hop, hb]
        cases b <;> rfl
      · rw [hb]; cases b <;> simp [asBool]
      · cases b
        · exact val_rv hst y
        · exact val_rv hst x
    · cases h
  | alloc t =>
    simp only [hop] at h
    obtain ⟨z, hK, hr⟩ := alloc_ok h
    exact ⟨z, fun β K' => by unfold opF; simp only [hop]; exact hK β K', fun w0 S w A a next Q hN hC hd hst hn => sem_value (s := Instr.alloc t true (.tuple #[])) (by simp only [execOp, hop]) hd (hr _ w0 S w A a.tmps hst) hn⟩
  | box t x =>
    simp only [hop] at h
    replace h := bif_some h; obtain ⟨hc, h⟩ := h
    have hcc := hc
    simp only [Bool.and_eq_true] at hc
    obtain ⟨z, hK, _, hr⟩ := boxF_ok h
    exact ⟨z, fun β K' => by unfold opF; simp only [hop, hcc, cond_true]; exact hK β K', fun w0 S w A a next Q hN hC hd hst hn => sem_value (s := Instr.box t (a.eval x)) (by simp only [execOp, hop]) hd (hr _ w0 S w A a.tmps (a.eval x) t X.P hst ((val_rv hst x).cells hc.2)) hn⟩
  | build t parts =>
    simp only [hop] at h
    obtain ⟨z, hK, hr⟩ := buildF_ok (fr := fr) (parts := parts.toList) h
    refine ⟨_, fun β K' => by unfold opF; simp only [hop]; exact hK β _, fun w0 S w A a next Q hN hC hd hst hn => ?_⟩
    have := hr _ w0 S w A a hst
    refine sem_value (s := Instr.build t (parts.map fun (i, x) => (i, a.eval x))) (by simp only [execOp, hop]) hd (Does.read rfl rfl hst ?_) hn
    have e1 : (parts.map fun (i, x) => (i, a.eval x)) = (parts.toList.map fun p => (p.1, a.eval p.2)).toArray := mapArr2 parts a.eval
    rw [e1]; exact this
  | buildSlice t n parts =>
    simp only [hop] at h
    obtain ⟨z, hK, hr⟩ := buildSliceF_ok (fr := fr) (parts := parts.toList) h
    refine ⟨z, fun β K' => by unfold opF; simp only [hop]; exact hK β _, fun w0 S w A a next Q hN hC hd hst hn => ?_⟩
    have := hr _ w0 S w A a hst
    refine sem_value (A := A) (s := Instr.buildSlice t n (parts.map fun (i, x) => (i, a.eval x))) (by simp only [execOp, hop]) hd ?_ hn
    have e1 : (parts.map fun (i, x) => (i, a.eval x)) = (parts.toList.map fun p => (p.1, a.eval p.2)).toArray := mapArr2 parts a.eval
    rw [e1]; exact this
  | load t x =>
    simp only [hop] at h
    obtain ⟨z, hK, h1, h2, hr⟩ := loadF_ok h
    exact ⟨z, fun β K' => by unfold opF; simp only [hop]; exact hK β _, fun w0 S w A a next Q hN hC hd hst hn => sem_value (s := Instr.loadAt t (a.eval x)) (by simp only [execOp, hop]) hd (Does.read h1 h2 hst (hr _ w0 S w A a.tmps _ hst (val_rv hst x))) hn⟩
  | store t x y =>
    simp only [hop] at h
    obtain ⟨z, hK, hz, hr⟩ := storeF_ok h
    refine ⟨z, fun β K' => by unfold opF; simp only [hop]; exact hK β _, fun w0 S w A a next Q hN hC hd hst hn => ?_⟩
    obtain ⟨w', A', h1, h2⟩ := hr _ w0 S w A a.tmps _ _ hst (val_rv hst x) (val_rv hst y)
    unfold Oper.wp
    simp only [execOp, hop, Sem.run_bind, h1, Result.andThen_ok, Sem.run_pure, Oper.upon]
    exact hn A' _ w' (by rw [app_eq, hz]; exact h2.put o.dst .skip _ hd .skip)
  | nilCheck x =>
    simp only [hop] at h
    have key : ∀ (c : C), val fr x = .one c → (∀ w A u, RV fr w A (.one c) u → ∃ ad, u = .pointer (some ad)) → (∀ (β : Type) (K' : Eff → Option β), opF X fr o K' = K' { v := .one c }) →
        ∃ z, (∀ (β : Type) (K' : Eff → Option β), opF X fr o K' = K' z) ∧
          ∀ (w0 : World) (S : Sp) (w : World) (A : As) (a : Act) (next : Act → World → Prop) (Q : Exit → Act → World → Prop), NoNum X.P → (∀ g as r, X.call g as = some r → Con X.P X.H g as r) → (∀ e, o.dst = some e → e < X.nt) → St X.nt w0 S w A fr a.tmps →
            (∀ A' v w', St X.nt w0 S w' A' (fr.app o.dst z) (a.put o.dst v).tmps → next (a.put o.dst v) w') → o.wp X.P a w next Q := by
      intro c hv hp hK
      refine ⟨_, hK, fun w0 S w A a next Q hN hC hd hst hn => ?_⟩
      have hx := val_rv hst x
      rw [hv] at hx
      obtain ⟨ad, he⟩ := hp w A _ hx
      refine sem_value (s := pure (a.eval x)) ?_ hd (Does.read rfl rfl hst ⟨_, rfl, hx⟩) hn
      simp only [execOp, hop, he]
      rfl
    split at h
    · rename_i s e off hv
      exact key _ hv (fun w A u hu => by obtain ⟨_, ⟨g, q, rfl⟩, _⟩ := hu.one_inv; exact ⟨_, rfl⟩) fun β K' => by unfold opF; simp only [hop, hv]
    · rename_i s e i off hv
      exact key _ hv (fun w A u hu => by obtain ⟨_, ⟨g, q, rfl⟩, _⟩ := hu.one_inv; exact ⟨_, rfl⟩) fun β K' => by unfold opF; simp only [hop, hv]
    · rename_i n row off hv
      exact key _ hv (fun w A u hu => by obtain ⟨_, _, g, q, rfl, _⟩ := hu.one_inv; exact ⟨_, rfl⟩) fun β K' => by unfold opF; simp only [hop, hv]
    · cases h
  | binOp op xt x y yt =>
    simp only [hop] at h
    obtain ⟨z, hK, hr⟩ := binF_ok h
    refine ⟨_, fun β K' => by unfold opF; simp only [hop]; exact hK β _, fun w0 S w A a next Q hN hC hd hst hn => ?_⟩
    exact sem_value (s := (do eqGuard op xt x y (a.eval x) (a.eval y); binOp op xt (a.eval x) (a.eval y))) (by simp only [execOp, hop]) hd (Does.read rfl rfl hst (hr fr w A _ _ x y (val_rv hst x) (val_rv hst y))) hn
  | unOp op xt x =>
    simp only [hop] at h
    obtain ⟨z, hK, hr⟩ := unF_ok h
    exact ⟨_, fun β K' => by unfold opF; simp only [hop]; exact hK β _, fun w0 S w A a next Q hN hC hd hst hn => sem_value (s := Op.unary op (a.eval x)) (by simp only [execOp, hop]) hd (Does.read rfl rfl hst (hr fr w A _ (val_rv hst x))) hn⟩
  | convert src dst x =>
    simp only [hop] at h
    obtain ⟨z, hK, hr⟩ := convF_ok h
    exact ⟨_, fun β K' => by unfold opF; simp only [hop]; exact hK β _, fun w0 S w A a next Q hN hC hd hst hn => sem_value (s := convert src dst (a.eval x)) (by simp only [execOp, hop]) hd (Does.read rfl rfl hst (hr fr w A _ (val_rv hst x))) hn⟩
  | makeSlice t l c =>
    simp only [hop] at h
    obtain ⟨z, hK, hr⟩ := makeSliceF_ok h
    exact ⟨z, fun β K' => by unfold opF; simp only [hop]; exact hK β _, fun w0 S w A a next Q hN hC hd hst hn => sem_value (s := Instr.makeSlice t (a.eval l) (a.eval c)) (by simp only [execOp, hop]) hd (hr _ w0 S w A a.tmps _ _ hst (val_rv hst l) (val_rv hst c)) hn⟩
  | slice t x lo hi mx =>
    simp only [hop] at h
    obtain ⟨z, hK, h1, h2, hr⟩ := sliceF_ok h
    exact ⟨z, fun β K' => by unfold opF; simp only [hop]; exact hK β _, fun w0 S w A a next Q hN hC hd hst hn => sem_value (s := Instr.sliceAt t (a.eval x) (lo.map a.eval) (hi.map a.eval) (mx.map a.eval)) (by simp only [execOp, hop]) hd (Does.read h1 h2 hst (hr _ w0 S w A a _ hst (val_rv hst x))) hn⟩
  | fieldAddr t x f =>
    simp only [hop] at h
    obtain ⟨z, hK, hr⟩ := fieldAddrF_ok h
    exact ⟨_, fun β K' => by unfold opF; simp only [hop]; exact hK β _, fun w0 S w A a next Q hN hC hd hst hn => sem_value (s := Instr.fieldAt t (a.eval x) f) (by simp only [execOp, hop]) hd (Does.read rfl rfl hst (hr fr w A _ (val_rv hst x))) hn⟩
  | field t x f =>
    simp only [hop] at h
    obtain ⟨z, hK, hr⟩ := fieldF_ok h
    exact ⟨_, fun β K' => by unfold opF; simp only [hop]; exact hK β _, fun w0 S w A a next Q hN hC hd hst hn => sem_value (s := Instr.field t (a.eval x) f) (by simp only [execOp, hop]) hd (Does.read rfl rfl hst (hr fr w A _ (val_rv hst x))) hn⟩
  | indexAddr t x i =>
    simp only [hop] at h
    obtain ⟨z, hK, h1, h2, hr⟩ := indexAddrF_ok h
    exact ⟨z, fun β K' => by unfold opF; simp only [hop]; exact hK β _, fun w0 S w A a next Q hN hC hd hst hn => sem_value (s := Instr.indexAt t (a.eval x) (a.eval i)) (by simp only [execOp, hop]) hd (Does.read h1 h2 hst (hr _ w0 S w A a.tmps _ _ hst (val_rv hst x) (val_rv hst i))) hn⟩
  | index t x i =>
    simp only [hop] at h
    obtain ⟨z, hK, hr⟩ := indexF_ok h
    exact ⟨_, fun β K' => by unfold opF; simp only [hop]; exact hK β _, fun w0 S w A a next Q hN hC hd hst hn => sem_value (s := Instr.index t (a.eval x) (a.eval i)) (by simp only [execOp, hop]) hd (Does.read rfl rfl hst (hr fr w A _ _ (val_rv hst x) (val_rv hst i))) hn⟩
  | extract t i =>
    simp only [hop] at h
    split at h
    · rename_i vs hv
      split at h
      · rename_i v hvi
        refine ⟨_, fun β K' => by unfold opF; simp only [hop, hv, hvi]; rfl, fun w0 S w A a next Q hN hC hd hst hn => ?_⟩
        have hx := val_rv hst t
        rw [hv] at hx
        generalize hu : a.eval t = u at hx
        cases hx with
        | tup _ us hl hr =>
          have hlt := (List.getElem?_eq_some_iff.1 hvi).1
          have hlt' : i < us.size := by omega
          refine sem_value (s := Instr.extract (a.eval t) i) (by simp only [execOp, hop]) hd (Does.read rfl rfl hst ⟨us[i], ?_, hr i v _ hvi (Array.getElem?_eq_getElem hlt')⟩) hn
          rw [hu]
          simp [Instr.extract, hlt']
      · cases h
    · cases h
  | call c =>
    simp only [hop] at h
    split at h
    · rename_i b hb
      obtain ⟨z, hK, hr⟩ := builtinF_ok h
      refine ⟨z, fun β K' => by unfold opF; simp only [hop, hb]; exact hK β _, fun w0 S w A a next Q hN hC hd hst hn => ?_⟩
      obtain ⟨s, hs, hdo⟩ := hr _ w0 S w A a.tmps (c.args.toList.map a.eval) o.type (c.args.map fun | .const _ => true | _ => false) hst (args_rv hst _)
      have e1 : (c.args.toList.map a.eval).toArray = c.args.map a.eval := mapArr c.args a.eval
      rw [e1] at hs
      refine sem_value (s := s) ?_ hd hdo hn
      simp only [execOp, hop, resolve, hb]
      rw [← hs]
      rfl
    · rename_i g hg
      obtain ⟨z, hK, hKz, fn, hfn, hbody, hr⟩ := callF_ok h
      refine ⟨z, fun β K' => by unfold opF; simp only [hop, hg]; exact hK β _, fun w0 S w A a next Q hN hC hd hst hn => ?_⟩
      have hcall := hr _ w0 S w A a.tmps (c.args.toList.map a.eval) (hC g) hst (args_rv hst _)
      have e1 : (c.args.toList.map a.eval).toArray = c.args.map a.eval := mapArr c.args a.eval
      rw [e1] at hcall
      unfold Oper.wp
      have hrun : (execOp a.eval o).run X.P w = .ok (.enter g (c.args.map a.eval)) w := by
        have hnn := hN g fn hfn hbody
        have hnb : fn.body.isNone = false := by cases hq : fn.body <;> simp_all
        have hnn' : ¬ fn.name = "runtime.NumGoroutine" := by intro hq; rw [hq] at hnn; cases hnn
        have hnb' : ¬ fn.body = none := by intro hq; rw [hq] at hbody; cases hbody
        simp [execOp, hop, resolve, hg, Act.eval, Deferred.ofValue, invoke, callFunc, hfn, hnn', hnb']
      rw [hrun]
      simp only [Oper.upon]
      refine hcall.mono ?_
      rintro e w' ⟨v, A', rfl, h2, h3⟩
      exact hn A' v w' (by rw [app_eq]; exact h2.put o.dst z.v v hd h3)
    · cases h
  | _ => simp only [hop] at h; cases h

end Go.Vm
