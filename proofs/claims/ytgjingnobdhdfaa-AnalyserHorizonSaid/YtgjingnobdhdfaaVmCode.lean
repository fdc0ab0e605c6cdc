/- Regions: what the evaluator says of operations in a row is what the machine does. -/
import Derived.Test.YtgjingnobdhdfaaVmOp6
set_option linter.unusedVariables false
set_option linter.unusedSimpArgs false
namespace Go.Vm

variable {nt : Nat} {w0 : World} {S : Sp} {w : World} {A : As} {fr : Fr} {P : Program}

theorem yield_none {all : Array Oper} {tmps : Array Value} {j : Nat} (h : (all[j]?).bind (·.dst) = none) : yielded all tmps j = none := by simp [yielded, h]
theorem yield_bool {all : Array Oper} {tmps : Array Value} {j t : Nat} {b : Bool} (h : (all[j]?).bind (·.dst) = some t) (hv : tmps.getD t Go.undef = .bool b) : yielded all tmps j = some b := by
  simp only [yielded, h, Option.bind_some]
  rw [Array.getD_eq_getD_getElem?] at hv
  cases ht : tmps[t]? with
  | none => rw [ht] at hv; cases hv
  | some u => rw [ht] at hv; simp only [Option.getD_some] at hv; rw [hv]
theorem yield_undef {all : Array Oper} {tmps : Array Value} {j t : Nat} (h : (all[j]?).bind (·.dst) = some t) (hv : tmps.getD t Go.undef = Go.undef) : yielded all tmps j = none := by
  simp only [yielded, h, Option.bind_some]
  rw [Array.getD_eq_getD_getElem?] at hv
  cases ht : tmps[t]? with
  | none => rfl
  | some u => rw [ht] at hv; simp only [Option.getD_some] at hv; rw [hv]; rfl
theorem wanted_no {o : Oper} {y : Nat → Option Bool} {j : Nat} {want : Bool} (h : o.guard = some (j, want)) (hy : y j = none) : Region.wanted o y = false := by simp [Region.wanted, h, hy]
theorem wanted_b {o : Oper} {y : Nat → Option Bool} {j : Nat} {want b : Bool} (h : o.guard = some (j, want)) (hy : y j = some b) : Region.wanted o y = (b == want) := by simp [Region.wanted, h, hy]
theorem opsF_ok {X : Env} (hN : NoNum X.P) (hC : ∀ g as r, X.call g as = some r → Con X.P X.H g as r) {all : Array Oper} (hb : ∀ o ∈ all, ∀ d, o.dst = some d → d < X.nt)
    {Q : Exit → Act → World → Prop} {r : List D} : ∀ (l : List Oper) (k : Nat) (fr : Fr) (acc : List (Nat × List Nat × List Nat)) (K : Fr → List (Nat × List Nat × List Nat) → R), (∀ j, l[j]? = all[k + j]?) → opsF X all l fr acc K = some r →
    ∀ (w : World) (A : As) (a : Act), St X.nt w0 S w A fr a.tmps →
      (∀ fr' acc' w' A' a', K fr' acc' = some r → St X.nt w0 S w' A' fr' a'.tmps → a'.defers = a.defers → Q .normal a' w') → wpOps X.P all Q (List.range' k l.length) a w := by
  intro l
  induction l with
  | nil =>
    intro k fr acc K hl h w A a hst hQ
    exact hQ fr acc w A a h hst rfl
  | cons o rest ih =>
    intro k fr acc K hl h w A a hst hQ
    have ho : all[k]? = some o := by simpa using (hl 0).symm
    have hl' : ∀ j, rest[j]? = all[(k + 1) + j]? := fun j => by have := hl (j + 1); simpa [Nat.add_assoc, Nat.add_comm 1 j] using this
    have hd : ∀ d, o.dst = some d → d < X.nt := hb o (Array.mem_of_getElem? ho)
    simp only [List.length_cons, List.range'_succ, wpOps, ho]
    have go : ∀ fr1, St X.nt w0 S w A fr1 a.tmps → Region.wanted o (yielded all a.tmps) = true →
        (opF X fr1 o fun x => opsF X all rest (fr1.app o.dst x) (entGo all o acc.length x :: acc) K) = some r →
        (if Region.wanted o (yielded all a.tmps) then o.wp X.P a w (wpOps X.P all Q (List.range' (k + 1) rest.length)) Q ∨ (o.asks X.P a w ∧ LetsOut Q) else wpOps X.P all Q (List.range' (k + 1) rest.length) (a.put o.dst Go.undef) w) := by
      intro fr1 h1 hw hh
      obtain ⟨z, hK, hsem⟩ := opF_ok hh
      rw [hK] at hh
      simp only [hw, if_true]
      exact .inl (hsem w0 S w A a _ Q hN hC hd h1 fun A' v w' h2 => ih (k + 1) _ _ K hl' hh w' A' (a.put o.dst v) h2 fun fr' acc' w' A' a' q1 q2 q3 => hQ fr' acc' w' A' a' q1 q2 (by rw [q3]; cases o.dst <;> rfl))
    have no : ∀ fr1, St X.nt w0 S w A fr1 a.tmps → Region.wanted o (yielded all a.tmps) = false → opsF X all rest (fr1.put o.dst .skip) (entNo all o acc.length :: acc) K = some r →
        (if Region.wanted o (yielded all a.tmps) then o.wp X.P a w (wpOps X.P all Q (List.range' (k + 1) rest.length)) Q ∨ (o.asks X.P a w ∧ LetsOut Q) else wpOps X.P all Q (List.range' (k + 1) rest.length) (a.put o.dst Go.undef) w) := by
      intro fr1 h1 hw hh
      simp only [hw, Bool.false_eq_true, if_false]
      exact ih (k + 1) _ _ K hl' hh w A (a.put o.dst Go.undef) (h1.put o.dst .skip _ hd .skip) fun fr' acc' w' A' a' q1 q2 q3 => hQ fr' acc' w' A' a' q1 q2 (by rw [q3]; cases o.dst <;> rfl)
    unfold opsF at h
    simp only at h
    split at h
    · rename_i hg
      exact go fr hst (by simp [Region.wanted, hg]) h
    · rename_i j want hg
      split at h
      · rename_i ht
        exact no fr hst (wanted_no hg (yield_none ht)) h
      · rename_i t ht
        split at h
        · rename_i hs
          have hv := hst.tm t
          rw [hs] at hv
          refine no fr hst (wanted_no hg (yield_undef ht ?_)) h
          generalize a.tmps.getD t Go.undef = u at hv
          cases hv; rfl
        · rename_i x hs
          replace h := takeB_some h; obtain ⟨b, rfl, h⟩ := h
          have hv := hst.tm t
          rw [hs] at hv
          have hb := hv.d_inv.bool_inv
          have hw := wanted_b hg (yield_bool ht hb)
          have hst' : St X.nt w0 S w A { fr with tm := upd fr.tm t (.one (.d (.bool b))) } a.tmps := hst.know t _ hv
          cases b <;> cases want <;> simp only [br, cond_true, cond_false] at h
          · exact go _ hst' (by rw [hw]; rfl) h
          · exact no _ hst' (by rw [hw]; rfl) h
          · exact no _ hst' (by rw [hw]; rfl) h
          · exact go _ hst' (by rw [hw]; rfl) h
        · cases h

end Go.Vm
