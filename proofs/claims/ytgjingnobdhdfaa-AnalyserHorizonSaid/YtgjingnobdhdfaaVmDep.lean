/- What an operation answers hangs on what it looks at. -/
import Derived.Test.YtgjingnobdhdfaaVmCode
set_option linter.unusedVariables false
set_option linter.unusedSimpArgs false
namespace Go.Vm

variable {fr fr' : Fr} {X : Env} {z : Eff}

def AgR (fr fr' : Fr) (l : List Nat) : Prop := (∀ s, 2 * s ∈ l → fr'.bx s = fr.bx s) ∧ (∀ t, 2 * t + 1 ∈ l → fr'.tk t = fr.tk t)
theorem AgR.mono {l l' : List Nat} (h : AgR fr fr' l) (hl : ∀ k ∈ l', k ∈ l) : AgR fr fr' l' := ⟨fun s hs => h.1 s (hl _ hs), fun t ht => h.2 t (hl _ ht)⟩
theorem AgR.nextB {l : List Nat} (h : AgR fr fr' l) {s : Nat} (hs : 2 * s ∈ l) : nextB fr' s = nextB fr s := by simp only [Vm.nextB, h.1 s hs]
theorem AgR.nextT {l : List Nat} (h : AgR fr fr' l) {s : Nat} (hs : 2 * s + 1 ∈ l) : nextT fr' s = nextT fr s := by simp only [Vm.nextT, h.2 s hs]
theorem toD_dep {c : C} (h : ∀ t ∈ c.toks, fr'.tk t = fr.tk t) : toD fr' c = toD fr c := by
  cases c with
  | own t e => simp only [toD, h t (by simp [C.toks])]
  | sub t e o n => simp only [toD, h t (by simp [C.toks])]
  | fn f cs => cases cs <;> rfl
  | _ => rfl
theorem toDs_dep : ∀ {cs : List C}, (∀ t ∈ toksOf cs, fr'.tk t = fr.tk t) → toDs fr' cs = toDs fr cs
  | [], _ => rfl
  | c :: cs, h => by
    simp only [toDs]
    rw [toD_dep fun t ht => h t (by simp only [toksOf, List.flatMap_cons, List.mem_append]; exact .inl ht), toDs_dep fun t ht => h t (by simp only [toksOf, List.flatMap_cons, List.mem_append]; exact .inr ht)]
theorem freeze_dep : ∀ {ks : List Nat}, (∀ t ∈ ks, fr'.tk t = fr.tk t) → freeze fr' ks = freeze fr ks
  | [], _ => rfl
  | t :: ks, h => by simp only [freeze, h t List.mem_cons_self, freeze_dep fun t ht => h t (List.mem_cons_of_mem _ ht)]
theorem keysOf_mem {cs : List C} {t : Nat} (h : t ∈ toksOf cs) : 2 * t + 1 ∈ keysOf cs := by
  obtain ⟨c, hc, ht⟩ := List.mem_flatMap.1 h
  exact List.mem_flatMap.2 ⟨c, hc, List.mem_map.2 ⟨t, ht, rfl⟩⟩

theorem loadF_dep {t : TypeId} {a : V} (h : loadF X fr t a some = some z) (ag : AgR fr fr' z.rd) : loadF X fr' t a some = some z := by
  unfold loadF at h ⊢
  replace h := bif_some h; obtain ⟨hok, h⟩ := h
  simp only [hok, cond_true]
  split at h
  · split at h
    · rename_i b hb
      replace h := bif_some h; obtain ⟨hc, h⟩ := h
      injection h with h; subst h
      simp only [ag.1 _ (List.mem_singleton.2 rfl), hb, hc, cond_true]
    · cases h
  · split at h
    · rename_i b hb
      replace h := bif_some h; obtain ⟨hc, h⟩ := h
      injection h with h; subst h
      simp only [ag.2 _ (List.mem_singleton.2 rfl), hb, hc, cond_true]
    · cases h
  · exact h
  · cases h

theorem storeF_dep {t : TypeId} {a v : V} (h : storeF X fr t a v some = some z) (ag : AgR fr fr' z.rd) : storeF X fr' t a v some = some z := by
  unfold storeF at h ⊢
  replace h := bif_some h; obtain ⟨hok, h⟩ := h
  simp only [hok, cond_true]
  split at h
  · split at h
    · rename_i b hb
      replace h := bif_some h; obtain ⟨hc, h⟩ := h
      injection h with h; subst h
      simp only [ag.1 _ (List.mem_singleton.2 rfl), hb, hc, cond_true]
    · cases h
  · split at h
    · rename_i x hx
      replace h := bif_some h; obtain ⟨hc, h⟩ := h
      split at h
      · rename_i ds hds
        replace h := bif_not h; obtain ⟨hn, h⟩ := h
        injection h with h; subst h
        have hk : ∀ t ∈ toksOf v.cells, fr'.tk t = fr.tk t := fun t ht => ag.2 t (List.mem_cons_of_mem _ (keysOf_mem ht))
        simp only [ag.2 _ List.mem_cons_self, hx, hc, cond_true, toDs_dep hk, hds, hn, cond_false, freeze_dep hk]
      · cases h
    · cases h
  · cases h

theorem br_one {α : Type} {b : Bool} {x : α} {r : α} (h : br b (some x) none = some r) : b = true ∧ x = r := by
  cases b
  · cases h
  · exact ⟨rfl, Option.some.inj h⟩
theorem br_onen {α : Type} {b : Bool} {x : Option α} {r : α} (h : br b x none = some r) : b = true ∧ x = some r := by
  cases b
  · cases h
  · exact ⟨rfl, h⟩

theorem indexAddrF_dep {t : TypeId} {x i : V} (h : indexAddrF X fr t x i some = some z) (ag : AgR fr fr' z.rd) : indexAddrF X fr' t x i some = some z := by
  have h0 := h
  unfold indexAddrF at h
  split at h
  · split at h
    · split at h
      · replace h := (bif_some h).2
        replace h := intT_ok h; obtain ⟨n, hn, h, _⟩ := h
        replace h := (br_one h).2
        subst h
        rw [← h0]; simp only [indexAddrF, ag.2 _ (List.mem_singleton.2 rfl)]
      · cases h
    · split at h
      · replace h := (bif_some h).2
        replace h := intT_ok h; obtain ⟨n, hn, h, _⟩ := h
        replace h := (br_one h).2
        subst h
        rw [← h0]; simp only [indexAddrF, ag.2 _ (List.mem_singleton.2 rfl)]
      · cases h
    · rw [← h0]; simp only [indexAddrF]
    · cases h
  · rename_i hu; rw [← h0]; simp only [indexAddrF, hu]
  · cases h

theorem rowsF_dep {α : Type} {esz : Nat} {x : V} {K : List (List D) → List Nat → Option α} {r : α} (h : rowsF fr esz x K = some r) : ∃ rows rd, (∀ (β : Type) (K' : List (List D) → List Nat → Option β), rowsF fr esz x K' = K' rows rd) ∧ K rows rd = some r ∧
    ∀ fr', AgR fr fr' rd → ∀ (β : Type) (K' : List (List D) → List Nat → Option β), rowsF fr' esz x K' = K' rows rd := by
  unfold rowsF at h
  split at h
  · exact ⟨_, _, fun _ _ => rfl, h, fun _ _ _ _ => rfl⟩
  · replace h := takeL_some h; obtain ⟨e', rows, rfl, he, h⟩ := h
    exact ⟨rows, _, fun β K' => by simp only [rowsF, takeL, he, if_true], h, fun fr' ag β K' => by simp only [rowsF, takeL, he, if_true]⟩
  · split at h
    · rename_i k hk
      replace h := bif_some h; obtain ⟨hc, h⟩ := h
      exact ⟨_, _, fun β K' => by simp only [rowsF, hk, hc, cond_true], h, fun fr' ag β K' => by simp only [rowsF, ag.2 _ (List.mem_singleton.2 rfl), hk, hc, cond_true]⟩
    · cases h
  · split at h
    · rename_i k hk
      replace h := bif_some h; obtain ⟨hc, h⟩ := h
      exact ⟨_, _, fun β K' => by simp only [rowsF, hk, hc, cond_true], h, fun fr' ag β K' => by simp only [rowsF, ag.2 _ (List.mem_singleton.2 rfl), hk, hc, cond_true]⟩
    · cases h
  · cases h

theorem appendF_dep {d : Nat} {t : TypeId} {s x : V} (h : appendF X fr d t s x some = some z) (ag : AgR fr fr' z.rd) : appendF X fr' d t s x some = some z := by
  unfold appendF at h ⊢
  split at h
  · cases h
  · simp only at h ⊢
    replace h := bif_not h; obtain ⟨hz, h⟩ := h
    simp only [hz, cond_false]
    obtain ⟨rows, rd, hK, h, hd⟩ := rowsF_dep h
    split at h
    · split at h
      · rename_i y hy
        replace h := bif_some h; obtain ⟨hc, h⟩ := h
        obtain ⟨hb, h⟩ := br_one h
        subst h
        rw [hd fr' (ag.mono fun k hk => List.mem_cons_of_mem _ hk)]
        simp only [ag.2 _ List.mem_cons_self, hy, hc, cond_true, hb, br]
      · cases h
    · obtain ⟨hb, h⟩ := br_one h
      subst h
      rw [hd fr' (ag.mono fun k hk => List.mem_cons_of_mem _ hk)]
      simp only [hb, br, ag.nextT List.mem_cons_self]
    · cases h

theorem lenF_dep {t : TypeId} {x : V} (h : lenF X fr t x some = some z) (ag : AgR fr fr' z.rd) : lenF X fr' t x some = some z := by
  have h0 := h
  unfold lenF at h
  split at h
  · rename_i hu; rw [← h0]; simp only [lenF, hu]
  · rename_i hu; rw [← h0]; simp only [lenF, hu]
  · rename_i hu; rw [← h0]; simp only [lenF, hu]
  · rename_i hu; rw [← h0]; simp only [lenF, hu]
  · rename_i hu
    split at h
    · replace h := (bif_some h).2
      injection h with h; subst h
      rw [← h0]; simp only [lenF, hu, ag.2 _ (List.mem_singleton.2 rfl)]
    · cases h
  · rename_i hu
    split at h
    · replace h := (bif_some h).2
      injection h with h; subst h
      rw [← h0]; simp only [lenF, hu, ag.2 _ (List.mem_singleton.2 rfl)]
    · cases h
  · cases h

theorem boxF_dep {d : Nat} {cs : List C} (h : boxF fr d cs some = some z) (ag : AgR fr fr' z.rd) : boxF fr' d cs some = some z := by
  unfold boxF at h ⊢
  injection h with h; subst h
  rw [ag.nextB (List.mem_singleton.2 rfl)]

theorem buildSliceF_dep {d : Nat} {t : TypeId} {len : Nat} {parts : List (Nat × V)} (h : buildSliceF X fr d t len parts some = some z) (ag : AgR fr fr' z.rd) : buildSliceF X fr' d t len parts some = some z := by
  unfold buildSliceF at h ⊢
  split at h
  · cases h
  · simp only at h ⊢
    replace h := bif_not h; obtain ⟨hz, h⟩ := h
    simp only [hz, cond_false]
    obtain ⟨zz, _, _, hK, h, _⟩ := zeroF_ok h
    rw [hK]
    split at h
    · rename_i cs hcs
      split at h
      · rename_i ds hds
        replace h := bif_not h; obtain ⟨hn, h⟩ := h
        injection h with h; subst h
        have hk : ∀ t ∈ toksOf cs, fr'.tk t = fr.tk t := fun t ht => ag.2 t (List.mem_cons_of_mem _ (keysOf_mem ht))
        simp only [hcs, toDs_dep hk, hds, hn, cond_false, ag.nextT List.mem_cons_self, freeze_dep hk]
      · cases h
    · cases h

theorem cOf_toks (v : Value) : (cOf v).toks = [] := by
  unfold cOf
  split
  · rfl
  · split <;> rfl
theorem zero_toks (vs : List Value) : toksOf (vs.map cOf) = [] := by
  induction vs with
  | nil => rfl
  | cons v vs ih => simp only [toksOf, List.map_cons, List.flatMap_cons, cOf_toks, List.nil_append] at ih ⊢; exact ih

theorem makeSliceF_dep {d : Nat} {t : TypeId} {l c : V} (h : makeSliceF X fr d t l c some = some z) (ag : AgR fr fr' z.rd) : makeSliceF X fr' d t l c some = some z := by
  unfold makeSliceF at h ⊢
  split at h
  · cases h
  · simp only at h ⊢
    replace h := bif_not h; obtain ⟨hz, h⟩ := h
    simp only [hz, cond_false]
    obtain ⟨zz, _, _, hK, h, _⟩ := zeroF_ok h
    rw [hK]
    have e1 : toDs fr' (zz.cells.toList.map cOf) = toDs fr (zz.cells.toList.map cOf) := toDs_dep fun t ht => by rw [zero_toks] at ht; cases ht
    rw [e1]
    split at h
    · rename_i zs hzs
      obtain ⟨n, hn, h, _⟩ := intT_ok h
      rw [hn]
      obtain ⟨m, hm, h, _⟩ := intT_ok h
      rw [hm]
      obtain ⟨hb, h⟩ := br_one h
      subst h
      simp only [hb, br, ag.nextT (List.mem_singleton.2 rfl)]
    · cases h

theorem map_val {o : Option Operand} (hv : ∀ x ∈ o.toList, val fr' x = val fr x) : o.map (val fr') = o.map (val fr) := by
  cases o with
  | none => rfl
  | some x => simp [hv x (by simp)]
theorem cutMx_dep {α : Type} {lo hi mx : Option Operand} {len : Nat} {N : Option α} {K2 : Nat → Nat → Option α} (hl : ∀ x ∈ lo.toList, val fr' x = val fr x) (hh : ∀ x ∈ hi.toList, val fr' x = val fr x) (hm : ∀ x ∈ mx.toList, val fr' x = val fr x) :
    cutMx fr' lo hi mx len N K2 = cutMx fr lo hi mx len N K2 := by
  unfold cutMx
  rw [map_val hl, map_val hh]
  cases mx with
  | none => rfl
  | some m => cases hi with
    | none => rfl
    | some q => simp only [hm m (by simp)]

theorem sliceF_dep {t : TypeId} {x : V} {lo hi mx : Option Operand} (hl : ∀ x ∈ lo.toList, val fr' x = val fr x) (hh : ∀ x ∈ hi.toList, val fr' x = val fr x) (hm : ∀ x ∈ mx.toList, val fr' x = val fr x)
    (h : sliceF X fr t x lo hi mx some = some z) (ag : AgR fr fr' z.rd) : sliceF X fr' t x lo hi mx some = some z := by
  have h0 := h
  unfold sliceF at h
  split at h
  · rename_i hu
    rw [← h0]; simp only [sliceF, hu, map_val hl, map_val hh]
  · rename_i e hu
    replace h := (bif_not h).2
    split at h
    · rename_i k ep
      split at h
      · replace h := (bif_some h).2
        have hz : z.rd = [2 * k + 1] := by
          rcases cut_any h with ⟨_, h, _⟩ | ⟨l, q, h, _⟩ <;> (injection h with h; rw [← h])
        rw [hz] at ag
        rw [← h0]; simp only [sliceF, hu, ag.2 _ (List.mem_singleton.2 rfl), cutMx_dep hl hh hm]
      · cases h
    · rename_i k ep off len
      split at h
      · replace h := (bif_some h).2
        have hz : z.rd = [2 * k + 1] := by
          rcases cut_any h with ⟨_, h, _⟩ | ⟨l, q, h, _⟩ <;> (injection h with h; rw [← h])
        rw [hz] at ag
        rw [← h0]; simp only [sliceF, hu, ag.2 _ (List.mem_singleton.2 rfl), cutMx_dep hl hh hm]
      · cases h
    · rw [← h0]; simp only [sliceF, hu, cutMx_dep hl hh hm]
    · rw [← h0]; simp only [sliceF, hu, cutMx_dep hl hh hm]
    · cases h
  · cases h

theorem mkArg_dep {v : V} {t : TypeId} {a : Arg} {ro : Option Ref} {ks : List Nat} (h : mkArg X fr v t = some (a, ro, ks)) (h1 : ∀ r, ro = some r → AgR fr fr' [r.key]) (h2 : ∀ k ∈ ks, fr'.tk k = fr.tk k) : mkArg X fr' v t = some (a, ro, ks) := by
  have h0 := h
  unfold mkArg at h
  split at h
  · rename_i e he
    split at h
    · split at h
      · rename_i b hb
        replace h := (bif_some h).2
        split at h
        · rename_i ds hds
          simp only [Option.some.injEq, Prod.mk.injEq] at h
          obtain ⟨rfl, rfl, rfl⟩ := h
          have e1 := (h1 _ rfl).1 _ (List.mem_singleton.2 rfl)
          rw [← h0]; simp only [mkArg, he, e1, hb, toDs_dep h2]
        · cases h
      · cases h
    · split at h
      · rename_i y hy
        replace h := (bif_some h).2
        simp only [Option.some.injEq, Prod.mk.injEq] at h
        obtain ⟨rfl, rfl, rfl⟩ := h
        have e1 := (h1 _ rfl).2 _ (List.mem_singleton.2 rfl)
        rw [← h0]; simp only [mkArg, he, e1]
      · cases h
    · cases h
  · rename_i he
    split at h
    · rename_i ds hds
      replace h := (bif_some h).2
      simp only [Option.some.injEq, Prod.mk.injEq] at h
      obtain ⟨rfl, rfl, rfl⟩ := h
      rw [← h0]; simp only [mkArg, he, toDs_dep h2]
    · cases h

theorem mkArgs_dep : ∀ {vs : List V} {ts : List TypeId} {as : List Arg} {rs : List Ref} {ks : List Nat}, mkArgs X fr vs ts = some (as, rs, ks) → (∀ r ∈ rs, AgR fr fr' [r.key]) → (∀ k ∈ ks, fr'.tk k = fr.tk k) → mkArgs X fr' vs ts = some (as, rs, ks)
  | [], [], as, rs, ks, h, _, _ => h
  | [], _ :: _, as, rs, ks, h, _, _ => by cases h
  | _ :: _, [], as, rs, ks, h, _, _ => by cases h
  | v :: vs, t :: ts, as, rs, ks, h, h1, h2 => by
    simp only [mkArgs] at h ⊢
    split at h
    · rename_i a r k ha
      split at h
      · rename_i as' rs' ks' has
        simp only [Option.some.injEq, Prod.mk.injEq] at h
        obtain ⟨rfl, rfl, rfl⟩ := h
        rw [mkArg_dep ha (fun r hr => h1 r (List.mem_append_left _ (by simp [hr]))) fun k hk => h2 k (List.mem_append_left _ hk), mkArgs_dep has (fun r hr => h1 r (List.mem_append_right _ hr)) fun k hk => h2 k (List.mem_append_right _ hk)]
      · cases h
    · cases h

theorem resCs_dep {α : Type} {d : Nat} {g : FuncId} {kf : Bool} {r : List D} : ∀ {n j : Nat} {K : List C → List (Nat × Tk) → Option α} {q : α}, resCs X fr d g kf r j n K = some q →
    ∃ cs ks, (∀ (β : Type) (K' : List C → List (Nat × Tk) → Option β), resCs X fr d g kf r j n K' = K' cs ks) ∧ K cs ks = some q ∧ ((∀ x ∈ ks, fr'.tk x.1 = fr.tk x.1) → ∀ (β : Type) (K' : List C → List (Nat × Tk) → Option β), resCs X fr' d g kf r j n K' = K' cs ks)
  | 0, j, K, q, h => ⟨_, _, fun _ _ => rfl, h, fun _ _ _ => rfl⟩
  | n + 1, j, K, q, h => by
    simp only [resCs] at h
    obtain ⟨cs, ks, hK, h, hd⟩ := resCs_dep h
    cases kf with
    | false =>
      simp only [cond_false] at h
      exact ⟨_, _, fun β K' => by simp only [resCs]; rw [hK]; rfl, h, fun ag β K' => by simp only [resCs]; rw [hd ag]; rfl⟩
    | true =>
      simp only [cond_true] at h
      split at h
      · rename_i e he
        replace h := takeL_some h; obtain ⟨e', rows, hr, hq, h⟩ := h
        refine ⟨_, _, fun β K' => by simp only [resCs]; rw [hK]; simp only [cond_true, he, hr, takeL, hq, if_true], h, fun ag β K' => ?_⟩
        simp only [resCs]
        rw [hd fun x hx => ag x (List.mem_cons_of_mem _ hx)]
        have e1 : nextT fr' (key d (j + 1)) = nextT fr (key d (j + 1)) := by simp only [nextT, ag _ List.mem_cons_self]
        simp only [cond_true, he, hr, takeL, hq, if_true, e1]
      · rename_i he
        exact ⟨_, _, fun β K' => by simp only [resCs]; rw [hK]; simp only [cond_true, he], h, fun ag β K' => by simp only [resCs]; rw [hd ag]; simp only [cond_true, he]⟩
theorem resV_dep {α : Type} {d : Nat} {g : FuncId} {kf : Bool} {r : List D} : ∀ {ts : List TypeId} {j : Nat} {K : List V → List (Nat × Bx) → List (Nat × Tk) → Option α} {q : α}, resV X fr d g kf r j ts K = some q →
    ∃ vs bs ks, (∀ (β : Type) (K' : List V → List (Nat × Bx) → List (Nat × Tk) → Option β), resV X fr d g kf r j ts K' = K' vs bs ks) ∧ K vs bs ks = some q ∧
      ((∀ x ∈ bs, fr'.bx x.1 = fr.bx x.1) → (∀ x ∈ ks, fr'.tk x.1 = fr.tk x.1) → ∀ (β : Type) (K' : List V → List (Nat × Bx) → List (Nat × Tk) → Option β), resV X fr' d g kf r j ts K' = K' vs bs ks)
  | [], j, K, q, h => ⟨_, _, _, fun _ _ => rfl, h, fun _ _ _ _ => rfl⟩
  | t :: ts, j, K, q, h => by
    simp only [resV] at h
    split at h
    · rename_i e he
      replace h := bif_not h; obtain ⟨hz, h⟩ := h
      obtain ⟨vs, bs, ks, hK, h, hd⟩ := resV_dep h
      refine ⟨_, _, _, fun β K' => by simp only [resV, he, hz, cond_false]; rw [hK], h, fun ab at_ β K' => ?_⟩
      simp only [resV, he, hz, cond_false]
      rw [hd (fun x hx => ab x (List.mem_cons_of_mem _ hx)) at_]
      have e1 : nextB fr' (key d (j + 1)) = nextB fr (key d (j + 1)) := by simp only [nextB, ab _ List.mem_cons_self]
      rw [e1]
    · rename_i he
      obtain ⟨vs, bs, ks, hK, h, hd⟩ := resV_dep h
      obtain ⟨cs, ks', hK2, h, hd2⟩ := resCs_dep (fr' := fr') h
      refine ⟨_, _, _, fun β K' => by simp only [resV, he]; rw [hK, hK2], h, fun ab at_ β K' => ?_⟩
      simp only [resV, he]
      rw [hd ab fun x hx => at_ x (List.mem_append_right _ hx), hd2 fun x hx => at_ x (List.mem_append_left _ hx)]
theorem writeB_dep {r : List D} : ∀ {rs : List Ref} {m : Nat}, (∀ x ∈ rs, AgR fr fr' [x.key]) → writeB fr' r m rs = writeB fr r m rs
  | [], m, _ => rfl
  | .b s e off n :: rs, m, h => by
    have e1 := (h _ List.mem_cons_self).1 s (List.mem_singleton.2 rfl)
    simp only [writeB, writeB_dep fun x hx => h x (List.mem_cons_of_mem _ hx), e1]
  | .t k e i off n :: rs, m, h => by
    have e1 := (h _ List.mem_cons_self).2 k (List.mem_singleton.2 rfl)
    simp only [writeB, writeB_dep fun x hx => h x (List.mem_cons_of_mem _ hx), e1]

theorem callF_dep {d : Nat} {g : FuncId} {args : List V} (h : callF X fr d g args some = some z) (ag : AgR fr fr' z.rd) : callF X fr' d g args some = some z := by
  unfold callF at h ⊢
  split at h
  · cases h
  · rename_i fn hfn
    replace h := bif_not h; obtain ⟨hb, h⟩ := h
    simp only [hb, cond_false]
    split at h
    · cases h
    · rename_i as rs ks hma
      simp only at h
      replace h := bif_some h; obtain ⟨hd, h⟩ := h
      replace h := obind_some h; obtain ⟨q, hq, h⟩ := h
      obtain ⟨vs, bs, ts, hK, h, hdep⟩ := resV_dep (fr' := fr') h
      injection h with h
      subst h
      simp only at ag
      have hr : ∀ r ∈ rs, AgR fr fr' [r.key] := fun r hr => ag.mono fun k hk => by
        rw [List.mem_singleton.1 hk]
        simp only [List.mem_append, List.mem_map]
        exact .inl (.inl (.inl ⟨r, hr, rfl⟩))
      have hk : ∀ k ∈ ks, fr'.tk k = fr.tk k := fun k hk => ag.2 k (by
        simp only [List.mem_append, List.mem_map]
        exact .inl (.inl (.inr ⟨k, hk, rfl⟩)))
      have hb' : ∀ x ∈ bs, fr'.bx x.1 = fr.bx x.1 := fun x hx => ag.1 x.1 (by
        simp only [List.mem_append, List.mem_map]
        exact .inl (.inr ⟨x, hx, rfl⟩))
      have ht' : ∀ x ∈ ts, fr'.tk x.1 = fr.tk x.1 := fun x hx => ag.2 x.1 (by
        simp only [List.mem_append, List.mem_map]
        exact .inr ⟨x, hx, rfl⟩)
      rw [mkArgs_dep hma hr hk]
      simp only [hd, cond_true, hq, obind]
      rw [hdep hb' ht', writeB_dep hr, freeze_dep hk]

theorem builtinF_dep {d : Nat} {b : Builtin} {ts : Array TypeId} {args : List V} (h : builtinF X fr d b ts args some = some z) (ag : AgR fr fr' z.rd) : builtinF X fr' d b ts args some = some z := by
  have h0 := h
  unfold builtinF at h
  split at h
  · split at h
    · rename_i t x ht
      simp only [builtinF, ht]; exact lenF_dep h ag
    · cases h
  · split at h
    · rename_i t u s x ht
      replace h := bif_some h; obtain ⟨hc, h⟩ := h
      simp only [builtinF, ht, hc, cond_true]; exact appendF_dep h ag
    · cases h
  · rw [← h0]; simp only [builtinF]
  · rw [← h0]; simp only [builtinF]
  · cases h

theorem opF_dep {o : Oper} (h : opF X fr o some = some z) (hv : ∀ x ∈ o.op.operands.toList, val fr' x = val fr x) (ag : AgR fr fr' z.rd) : opF X fr' o some = some z := by
  have h0 := h
  unfold opF at h
  have ml : ∀ (xs : Array Operand), (∀ x ∈ xs.toList, val fr' x = val fr x) → xs.toList.map (val fr') = xs.toList.map (val fr) := fun xs hx => List.map_congr_left hx
  have mp : ∀ (ps : Array (Nat × Operand)), (∀ x ∈ (ps.map (·.2)).toList, val fr' x = val fr x) → (ps.toList.map fun p => (p.1, val fr' p.2)) = ps.toList.map fun p => (p.1, val fr p.2) := fun ps hp => List.map_congr_left fun p hm => by
    rw [hp p.2 (by rw [Array.toList_map]; exact List.mem_map.2 ⟨p, hm, rfl⟩)]
  cases hop : o.op with
  | move x =>
    rw [← h0]; unfold opF; simp only [hop]
    rw [hv x (by simp [hop, Op.operands])]
  | assign x =>
    simp only [hop] at h
    have hx := hv x (by simp [hop, Op.operands])
    split at h
    · rename_i hn
      cases hc : (X.H X.f).nils.any (Nat.beq (o.dst.getD 0)) with
      | true =>
        rw [hc, cond_true] at h
        injection h with h
        have e1 : nextT fr' (key (o.dst.getD 0) 0) = nextT fr (key (o.dst.getD 0) 0) := ag.nextT (by rw [← h]; exact List.mem_singleton.2 rfl)
        rw [← h0]; unfold opF; simp only [hop, hx, hn, hc, cond_true, e1]
      | false => rw [← h0]; unfold opF; simp only [hop, hx, hn, hc, cond_false]
    · rw [← h0]; unfold opF; simp only [hop, hx]
  | pick c x y =>
    rw [← h0]; unfold opF; simp only [hop]
    rw [hv c (by simp [hop, Op.operands]), hv x (by simp [hop, Op.operands]), hv y (by simp [hop, Op.operands])]
  | alloc t =>
    simp only [hop] at h
    obtain ⟨zz, _, _, hK, h, _⟩ := zeroF_ok h
    unfold opF; simp only [hop]; rw [hK]; exact boxF_dep h ag
  | box t x =>
    simp only [hop] at h
    replace h := bif_some h; obtain ⟨hc, h⟩ := h
    unfold opF; simp only [hop, hv x (by simp [hop, Op.operands]), hc, cond_true]; exact boxF_dep h ag
  | build t parts =>
    rw [← h0]; unfold opF; simp only [hop]
    rw [mp parts fun x hx => hv x (by simpa [hop, Op.operands] using hx)]
  | buildSlice t n parts =>
    simp only [hop] at h
    unfold opF; simp only [hop]
    rw [mp parts fun x hx => hv x (by simpa [hop, Op.operands] using hx)]
    exact buildSliceF_dep h ag
  | load t x => simp only [hop] at h; unfold opF; simp only [hop, hv x (by simp [hop, Op.operands])]; exact loadF_dep h ag
  | store t x y => simp only [hop] at h; unfold opF; simp only [hop, hv x (by simp [hop, Op.operands]), hv y (by simp [hop, Op.operands])]; exact storeF_dep h ag
  | nilCheck x => rw [← h0]; unfold opF; simp only [hop, hv x (by simp [hop, Op.operands])]
  | binOp op xt x y yt => rw [← h0]; unfold opF; simp only [hop, hv x (by simp [hop, Op.operands]), hv y (by simp [hop, Op.operands])]
  | unOp op xt x => rw [← h0]; unfold opF; simp only [hop, hv x (by simp [hop, Op.operands])]
  | convert s t x => rw [← h0]; unfold opF; simp only [hop, hv x (by simp [hop, Op.operands])]
  | makeSlice t l c => simp only [hop] at h; unfold opF; simp only [hop, hv l (by simp [hop, Op.operands]), hv c (by simp [hop, Op.operands])]; exact makeSliceF_dep h ag
  | slice t x lo hi mx =>
    simp only [hop] at h; unfold opF; simp only [hop, hv x (by simp [hop, Op.operands])]
    refine sliceF_dep (fun y hy => hv y ?_) (fun y hy => hv y ?_) (fun y hy => hv y ?_) h ag
    all_goals simp [hop, Op.operands]; simp at hy; simp [hy]
  | fieldAddr t x f => rw [← h0]; unfold opF; simp only [hop, hv x (by simp [hop, Op.operands])]
  | field t x f => rw [← h0]; unfold opF; simp only [hop, hv x (by simp [hop, Op.operands])]
  | indexAddr t x i => simp only [hop] at h; unfold opF; simp only [hop, hv x (by simp [hop, Op.operands]), hv i (by simp [hop, Op.operands])]; exact indexAddrF_dep h ag
  | index t x i => rw [← h0]; unfold opF; simp only [hop, hv x (by simp [hop, Op.operands]), hv i (by simp [hop, Op.operands])]
  | extract t i => rw [← h0]; unfold opF; simp only [hop, hv t (by simp [hop, Op.operands])]
  | call c =>
    simp only [hop] at h
    have ha := ml c.args fun x hx => hv x (by simp only [hop, Op.operands, Call.operands]; simp at hx; simp [hx])
    split at h
    · rename_i b hb
      unfold opF; simp only [hop, hb, ha]; exact builtinF_dep h ag
    · rename_i g hg
      unfold opF; simp only [hop, hg, ha]; exact callF_dep h ag
    · cases h
  | _ => simp only [hop] at h; cases h

end Go.Vm
