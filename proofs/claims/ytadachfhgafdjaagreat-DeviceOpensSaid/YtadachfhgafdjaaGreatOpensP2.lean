/- OpensP: part 2 of the texts that the proof of opens_holds needs: an evaluator of the program on data, its soundness, the equations of the functions, the plain laws. Conditions: none. -/
import Derived.Test.YtadachfhgafdjaaGreatOpensP1
import Derived.Laws.Externs
import Derived.Lib.SliceRun
import Derived.KernelRfl
import Derived.Scope
/- Aggregates, literals, make; stores. -/
set_option linter.unusedVariables false
set_option linter.unusedSimpArgs false
namespace Go.Vm

variable {nt : Nat} {w0 : World} {S : Sp} {w : World} {A : As} {fr : Fr} {tmps : Array Value} {P : Program}

theorem run_size_info {t : TypeId} (h : (P.info? t).isSome) (w : World) : (sizeOf t).run P w = .ok (sz P t) w := by
  obtain ⟨i, hi⟩ := Option.isSome_iff_exists.1 h
  simp [sizeOf, typeInfo, hi, sz, Program.cellsOf]
theorem run_places (fs : List Field) (h : fs.all (fun f => (P.info? f.type).isSome) = true) (w : World) : (fs.mapM fun f => do pure (f.offset, ← sizeOf f.type) : Sem (List (Nat × Nat))).run P w = .ok (fs.map fun f => (f.offset, sz P f.type)) w := by
  induction fs with
  | nil => rfl
  | cons f fs ih =>
    simp only [List.all_cons, Bool.and_eq_true] at h
    simp only [List.mapM_cons, Sem.run_bind, run_size_info h.1, Result.andThen_ok, Sem.run_pure, ih h.2, List.map_cons]

theorem parts_rv {a : Act} (h : St nt w0 S w A fr a.tmps) (parts : List (Nat × Operand)) : ∀ (j : Nat) (p : Nat × V) (q : Nat × Value), (parts.map fun p => (p.1, val fr p.2))[j]? = some p → (parts.map fun p => (p.1, a.eval p.2))[j]? = some q → q.1 = p.1 ∧ RV fr w A p.2 q.2 := by
  intro j p q h1 h2
  rw [List.getElem?_map] at h1 h2
  cases hj : parts[j]? with
  | none => simp [hj] at h1
  | some x =>
    simp [hj] at h1 h2
    subst h1 h2
    exact ⟨rfl, val_rv h x.2⟩

theorem buildF_ok {α : Type} {X : Env} {t : TypeId} {parts : List (Nat × Operand)} {K : V → Option α} {r : α} (h : buildF X t (parts.map fun p => (p.1, val fr p.2)) K = some r) :
    ∃ z, (∀ (β : Type) (K' : V → Option β), buildF X t (parts.map fun p => (p.1, val fr p.2)) K' = K' z) ∧
      ∀ (nt : Nat) (w0 : World) (S : Sp) (w : World) (A : As) (a : Act), St nt w0 S w A fr a.tmps → ∃ v, (Instr.build t (parts.map fun p => (p.1, a.eval p.2)).toArray).run X.P w = .ok v w ∧ RV fr w A z v := by
  unfold buildF at h
  obtain ⟨zv, hz0, hzs, hK, h, hzr, hrc⟩ := zeroF_ok h
  split at h
  · rename_i fs hu
    replace h := bif_some h; obtain ⟨hi, h⟩ := h
    split at h
    · rename_i cs hf
      refine ⟨_, fun β K' => by unfold buildF; rw [hK]; simp only [hu, hi, cond_true, hf]; rfl, fun nt w0 S w A a hst => ?_⟩
      obtain ⟨vs', r1, r2, r3⟩ := fillF_ok (w := w) (A := A) (vs := zv.cells) hf (hrc fr w A) (by simp) (parts_rv hst parts)
      refine ⟨.agg vs', ?_, .agg _ _ r2⟩
      have hpl := run_places (P := X.P) fs.toList hi w
      simp only [Instr.build, Sem.run_bind, hzr, Result.andThen_ok, run_underlying' hu, Sem.run_pure]
      rw [Array.mapM_eq_mapM_toList]
      simp only [Sem.run_map, hpl, Result.andThen_ok]
      have : (fun (i : Nat) => ((fs.toList.map fun (f : Field) => (f.offset, sz X.P f.type)).toArray)[i]?) = fun i => (fs[i]?).map fun (f : Field) => (f.offset, sz X.P f.type) := by
        funext i; simp
      simp only [this, r1]
      rfl
    · cases h
  · rename_i n e hu
    replace h := bif_some h; obtain ⟨hi, h⟩ := h
    split at h
    · rename_i cs hf
      refine ⟨_, fun β K' => by unfold buildF; rw [hK]; simp only [hu, hi, cond_true, hf]; rfl, fun nt w0 S w A a hst => ?_⟩
      obtain ⟨vs', r1, r2, r3⟩ := fillF_ok (w := w) (A := A) (vs := zv.cells) hf (hrc fr w A) (by simp) (parts_rv hst parts)
      refine ⟨.agg vs', ?_, .agg _ _ r2⟩
      simp only [Instr.build, Sem.run_bind, hzr, Result.andThen_ok, run_underlying' hu, Sem.run_pure, run_size_info hi, r1]
    · cases h
  · cases h

theorem chunk_get {β : Type} (n : Nat) : ∀ (m : Nat) (l : List β) (i : Nat), i < m → (chunk n m l)[i]? = some ((l.drop (i * n)).take n)
  | 0, l, i, h => by omega
  | m + 1, l, 0, h => by simp [chunk]
  | m + 1, l, i + 1, h => by
    simp only [chunk, List.getElem?_cons_succ]
    rw [chunk_get n m (l.drop n) i (by omega), List.drop_drop, Nat.succ_mul, Nat.add_comm n]
theorem chunk_len {β : Type} (n : Nat) : ∀ (m : Nat) (l : List β), (chunk n m l).length = m
  | 0, l => rfl
  | m + 1, l => by simp [chunk, chunk_len n m]

theorem made_get {z : Array Value} {n q : Nat} (h : q < n) : (madeCells z n)[q]? = some z[q % z.size]! := by
  simp [madeCells, h]

theorem buildSliceF_ok {α : Type} {X : Env} {d : Nat} {t : TypeId} {len : Nat} {parts : List (Nat × Operand)} {K : Eff → Option α} {r : α} (h : buildSliceF X fr d t len (parts.map fun p => (p.1, val fr p.2)) K = some r) :
    ∃ z, (∀ (β : Type) (K' : Eff → Option β), buildSliceF X fr d t len (parts.map fun p => (p.1, val fr p.2)) K' = K' z) ∧
      ∀ (nt : Nat) (w0 : World) (S : Sp) (w : World) (A : As) (a : Act), St nt w0 S w A fr a.tmps → Does X.P fr z nt w0 S w A a.tmps (Instr.buildSlice t len (parts.map fun p => (p.1, a.eval p.2)).toArray) := by
  unfold buildSliceF at h
  split at h
  · cases h
  · rename_i e he
    have hu := elemT_eq he
    replace h := bif_not h; obtain ⟨hc, h⟩ := h
    have hcc := hc
    simp only [Bool.or_eq_false_iff, Bool.not_eq_false', Nat.ble_eq] at hc
    obtain ⟨hn0, hle⟩ := hc
    have hn0 := beq_false hn0
    obtain ⟨zv, hz0, hzs, hK, h, hzr, hrc⟩ := zeroF_ok h
    split at h
    · rename_i cs hf
      split at h
      · rename_i ds hds
        replace h := bif_not h; obtain ⟨hk, h⟩ := h
        refine ⟨_, fun β K' => by unfold buildSliceF; simp only [he, hcc, cond_false]; rw [hK]; simp only [hf, hds, hk, cond_false]; rfl, fun nt w0 S w A a hst => ?_⟩
        have hbase : RCs fr w A ((List.range (len * sz X.P e)).map fun q => (zv.cells.toList.map cOf).getD (q % sz X.P e) .undef) (madeCells zv.cells (len * sz X.P e)).toList := by
          refine ⟨by simp [size_madeCells], fun j c v h1 h2 => ?_⟩
          obtain ⟨hj, rfl⟩ := range_map_get h1
          rw [Array.getElem?_toList, made_get hj] at h2
          injection h2 with h2
          subst h2
          have hlt : j % sz X.P e < zv.cells.size := by rw [hzs]; exact Nat.mod_lt _ (Nat.pos_of_ne_zero hn0)
          have := (hrc fr w A).2 (j % sz X.P e) _ _ (List.getElem?_eq_getElem (by simpa using hlt)) (List.getElem?_eq_getElem (by simpa using hlt))
          rw [hzs, getElem!_pos zv.cells _ hlt]
          simpa [List.getD, hlt] using this
        obtain ⟨vs', r1, r2, r3⟩ := fillF_ok (w := w) (A := A) (vs := madeCells zv.cells (len * sz X.P e)) hf hbase (by simp) (parts_rv hst parts)
        rw [size_madeCells] at r3
        obtain ⟨u1, hst1⟩ := hst.freeze (toksOf cs) _ rfl
        obtain ⟨hdl, hdr⟩ := toDs_rd hst hds r2 (ks := toksOf cs) fun t ht => ht
        have hcl := r2.1
        have hkey : key d 0 ∉ toksOf cs := fun hm => by
          have : (toksOf cs).any (Nat.beq (key d 0)) = true := List.any_eq_true.2 ⟨_, hm, Nat.beq_refl _⟩
          rw [this] at hk; cases hk
        have hrel : TokRel (w.alloc (.cells vs' e)) (ImF A fr (toksOf cs)) w0.heap.size ⟨nextT fr (key d 0), false, e, sz X.P e, chunk (sz X.P e) len ds⟩ (.slice (some (at_ w.heap.size 0)) len len) (some w.heap.size) := by
          refine ⟨Nat.pos_of_ne_zero hn0, hst.keep.size, fun row hrow => ?_, len, vs', by rw [chunk_len], heap_alloc_new w _, by rw [chunk_len]; exact Nat.le_refl _, ?_, r3, fun i row hi j x hj => ?_⟩
          · obtain ⟨i, hi⟩ := List.getElem?_of_mem hrow
            have hlt := (List.getElem?_eq_some_iff.1 hi).1
            rw [chunk_len] at hlt
            rw [chunk_get _ _ _ _ hlt] at hi
            injection hi with hi
            subst hi
            show ((ds.drop (i * sz X.P e)).take (sz X.P e)).length = sz X.P e
            rw [List.length_take, List.length_drop, hdl]
            have : i * sz X.P e + sz X.P e ≤ len * sz X.P e := by rw [← Nat.succ_mul]; exact Nat.mul_le_mul_right _ hlt
            simp at hcl
            omega
          · simp only [maxLen]
            have := Nat.le_mul_of_pos_right len (Nat.pos_of_ne_zero hn0)
            omega
          · have hlt := (List.getElem?_eq_some_iff.1 hi).1
            rw [chunk_len] at hlt
            rw [chunk_get _ _ _ _ hlt] at hi
            injection hi with hi
            subst hi
            rw [List.getElem?_take] at hj
            split at hj
            · rename_i hjn
              rw [List.getElem?_drop] at hj
              have hlt2 := (List.getElem?_eq_some_iff.1 hj).1
              have hv : i * sz X.P e + j < vs'.size := by simp at hcl; omega
              refine ⟨vs'[i * sz X.P e + j], by simp [hv], ?_⟩
              have := hdr _ x _ hj (List.getElem?_eq_getElem (by simpa using hv))
              refine Rd.step (by simpa using this) (fun _ _ h => h) fun k o hi => ?_
              obtain ⟨q, hq⟩ := (hst1.im k o hi).cell
              exact cell_alloc w _ o (cell_lt hq)
            · cases hj
        obtain ⟨A', _, s1, s2, _, s3⟩ := hst1.newTok (key d 0) ⟨nextT fr (key d 0), false, e, sz X.P e, chunk (sz X.P e) len ds⟩ (.slice (some (at_ w.heap.size 0)) len len) (some w.heap.size) (by simp only [nextT, upds_freeze, if_neg hkey]) rfl
          (Keep.alloc _ _ _) (fun q hq => by injection hq with hq; omega) hrel _ rfl
        refine ⟨.slice (some (at_ w.heap.size 0)) len len, _, A', ?_, s1, .one _ _ ⟨rfl, _, upd_same _ _ _, Nat.le_refl _, fun _ => s2.symm⟩⟩
        have hsz' := run_sizeOf' (P := X.P) (t := e) hn0 w
        unfold sz at r1 hle
        simp only [Instr.buildSlice, Sem.run_bind, run_underlying' hu, Result.andThen_ok, hsz']
        rw [if_neg (by omega)]
        unfold madeCells at r1
        by_cases h0 : len * X.P.cellsOf e = 0
        · have hmk : (Array.range (len * X.P.cellsOf e)).map (fun x => zv.cells[x % zv.cells.size]!) = (Array.range (len * X.P.cellsOf e)).map (fun x => (#[] : Array Value)[x % (#[] : Array Value).size]!) := by rw [h0]; simp [Array.range_zero']
          rw [hmk] at r1
          simp only [h0, if_true, Sem.run_bind, Sem.run_pure, Result.andThen_ok] at r1 ⊢
          rw [r1]
          simp [newRow]
        · simp only [if_neg h0, Sem.run_bind, hzr, Result.andThen_ok, Sem.run_pure, r1]
          simp [newRow]
      · cases h
    · cases h


theorem made_row {z : Array Value} {n i j : Nat} (hz : z.size = n) (hj : j < n) : (i * n + j) % z.size = j := by
  subst hz
  rw [Nat.mul_comm, Nat.mul_add_mod, Nat.mod_eq_of_lt hj]

theorem makeSliceF_ok {α : Type} {X : Env} {d : Nat} {t : TypeId} {l c : V} {K : Eff → Option α} {r : α} (h : makeSliceF X fr d t l c K = some r) :
    ∃ z, (∀ (β : Type) (K' : Eff → Option β), makeSliceF X fr d t l c K' = K' z) ∧
      ∀ (nt : Nat) (w0 : World) (S : Sp) (w : World) (A : As) (tmps : Array Value) (vl vc : Value), St nt w0 S w A fr tmps → RV fr w A l vl → RV fr w A c vc → Does X.P fr z nt w0 S w A tmps (Instr.makeSlice t vl vc) := by
  unfold makeSliceF at h
  split at h
  · cases h
  · rename_i e he
    have hu := elemT_eq he
    replace h := bif_not h; obtain ⟨hc, h⟩ := h
    have hcc := hc
    simp only [Bool.or_eq_false_iff] at hc
    have hn0 := beq_false hc.1
    have hb0 := beq_false hc.2
    replace h := zeroF_ok h
    obtain ⟨zv, hz0, hzs, hK, h, hzr, hrc⟩ := h
    split at h
    · rename_i zs hzd
      replace h := intT_ok h; obtain ⟨nl, hnl, h, hvl⟩ := h
      replace h := intT_ok h; obtain ⟨nc, hnc, h, hvc⟩ := h
      replace h := br_req h; obtain ⟨hb, h⟩ := h
      refine ⟨_, fun β K' => by unfold makeSliceF; simp only [he, hcc, cond_false]; rw [hK]; simp only [hzd, hnl, hnc, hb, br]; rfl, fun nt w0 S w A tmps vl vc hst h1 h2 => ?_⟩
      obtain ⟨kl, rfl⟩ := hvl fr w A vl h1
      obtain ⟨kc, rfl⟩ := hvc fr w A vc h2
      obtain ⟨b1, b2, b3⟩ : 0 ≤ nl ∧ nl ≤ nc ∧ nc.toNat * X.P.bytesOf e ≤ room := by simpa using hb
      obtain ⟨i, hi, hz⟩ := Option.bind_eq_some_iff.1 hz0
      have hby : i.bytes = X.P.bytesOf e := by simp [Program.bytesOf, hi]
      have hsz : i.size = sz X.P e := by simp [sz, Program.cellsOf, hi]
      have hcb : nc.toNat ≤ 140737488355328 := Nat.le_trans (Nat.le_mul_of_pos_right nc.toNat (Nat.pos_of_ne_zero hb0)) b3
      have hb3 : (i.bytes : Int) * nc ≤ 281474976710656 := by
        have e1 : ((nc.toNat * X.P.bytesOf e : Nat) : Int) = (i.bytes : Int) * nc := by
          rw [hby, Int.natCast_mul, Int.toNat_of_nonneg (by omega), Int.mul_comm]
        rw [← e1]
        simp only [room] at b3
        omega
      have hrun := run_make (P := X.P) w t e i zv hu hi hz kl kc nl nc b1 b2 hb3 (by omega)
      rw [hsz] at hrun
      obtain ⟨hdl, hdr⟩ := toDs_rd hst hzd (hrc fr w A) (ks := []) fun t ht => by
        obtain ⟨c, hc1, hc2⟩ := List.mem_flatMap.1 ht
        obtain ⟨u, _, rfl⟩ := List.mem_map.1 hc1
        unfold cOf at hc2
        split at hc2
        · cases hc2
        · split at hc2 <;> cases hc2
      have hdl' : zs.length = sz X.P e := by simp at hdl; omega
      have him : ∀ k o, ImF A fr [] k o → A.Im k o := fun k o hh => hh.resolve_right fun ⟨t, ht, _⟩ => by cases ht
      have hrel : TokRel (w.alloc (.cells (madeCells zv.cells (nc.toNat * sz X.P e)) e)) A.Im w0.heap.size ⟨nextT fr (key d 0), false, e, sz X.P e, List.replicate nl.toNat zs⟩ (.slice (some (at_ w.heap.size 0)) nl.toNat nc.toNat) (some w.heap.size) := by
        refine ⟨Nat.pos_of_ne_zero hn0, hst.keep.size, fun row hrow => ?_, nc.toNat, _, by simp, heap_alloc_new w _, by simp; omega, by simp only [maxLen]; omega, size_madeCells _ _, fun q row hq j x hj => ?_⟩
        · rw [(List.mem_replicate.1 hrow).2]; exact hdl'
        · have hlt := (List.getElem?_eq_some_iff.1 hq).1
          have hr := (List.mem_replicate.1 (List.mem_of_getElem? hq)).2
          subst hr
          have hjl := (List.getElem?_eq_some_iff.1 hj).1
          simp at hlt
          have hin : q * sz X.P e + j < nc.toNat * sz X.P e := by
            have : q * sz X.P e + sz X.P e ≤ nc.toNat * sz X.P e := by rw [← Nat.succ_mul]; exact Nat.mul_le_mul_right _ (by omega)
            omega
          refine ⟨_, made_get hin, ?_⟩
          rw [made_row hzs (by omega), getElem!_pos zv.cells j (by omega)]
          refine Rd.step (hdr j x _ hj (List.getElem?_eq_getElem (by simp; omega))) (fun k o hh => him k o hh) fun k o hh => ?_
          obtain ⟨u, hu⟩ := (hst.im k o (him k o hh)).cell
          exact cell_alloc w _ o (cell_lt hu)
      obtain ⟨A', _, s1, s2, _, s3⟩ := hst.newTok (key d 0) ⟨nextT fr (key d 0), false, e, sz X.P e, List.replicate nl.toNat zs⟩ (.slice (some (at_ w.heap.size 0)) nl.toNat nc.toNat) (some w.heap.size) rfl rfl
        (Keep.alloc _ _ _) (fun q hq => by injection hq with hq; omega) hrel _ rfl
      exact ⟨_, _, A', hrun, s1, .one _ _ ⟨s3, _, upd_same _ _ _, Nat.le_refl _, fun _ => s2.symm⟩⟩
    · cases h

theorem run_storeVar {t : TypeId} {ad : Addr} {v : Value} (hz : v.cells.size = sz P t) (hu : okT P t = true) {w' : World} (h : (storeCells ad v.cells.toList).run P w = .ok () w') : (storeVar t ad v).run P w = .ok () w' := by
  have := run_sizeOf'' (okT_und hu) w
  unfold sz at hz
  simp only [storeVar, Sem.run_bind, this, Result.andThen_ok]
  rw [if_neg (by omega)]
  simpa using h

theorem storeF_ok {α : Type} {X : Env} {t : TypeId} {a v : V} {K : Eff → Option α} {r : α} (h : storeF X fr t a v K = some r) :
    ∃ z, (∀ (β : Type) (K' : Eff → Option β), storeF X fr t a v K' = K' z) ∧ z.v = .skip ∧
      ∀ (nt : Nat) (w0 : World) (S : Sp) (w : World) (A : As) (tmps : Array Value) (va vv : Value), St nt w0 S w A fr tmps → RV fr w A a va → RV fr w A v vv →
        ∃ w' A', (Instr.storeAt t va vv).run X.P w = .ok () w' ∧ St nt w0 S w' A' (fr.mem z) tmps := by
  unfold storeF at h
  replace h := bif_some h; obtain ⟨hc, h⟩ := h
  have hcc := hc
  simp only [Bool.and_eq_true, Nat.beq_eq] at hc
  obtain ⟨⟨c1, c2⟩, c3⟩ := hc
  split at h
  · rename_i s e off
    split at h
    · rename_i b hb
      replace h := bif_some h; obtain ⟨hq, h⟩ := h
      have hqq := hq
      simp only [Bool.and_eq_true, Nat.beq_eq, Nat.ble_eq] at hq
      refine ⟨_, fun β K' => by simp only [storeF, hcc, cond_true, hb, hqq]; rfl, rfl, fun nt w0 S w A tmps va vv hst ha hv => ?_⟩
      have := ha.ptr_inv hb hq.1
      subst this
      have hcl := hv.cells c3
      have hsz : vv.cells.size = sz X.P t := by have := hcl.1; simp at this; omega
      obtain ⟨r1, r2⟩ := hst.setBox (P := X.P) hb hcl hq.2 _ rfl
      refine ⟨w.setCells (A.β s).block ((A.β s).off + off) vv.cells.toList, A, ?_, ?_⟩
      · simp only [Instr.storeAt, Instr.sureAddr, Sem.run_bind, Sem.run_pure, Result.andThen_ok]
        exact run_storeVar hsz c2 r1
      · have e1 := hq.1
        subst e1
        exact r2
    · cases h
  · rename_i k e i off
    split at h
    · rename_i x hx
      replace h := bif_some h; obtain ⟨hq, h⟩ := h
      have hqq := hq
      simp only [Bool.and_eq_true, Nat.beq_eq, Nat.ble_eq, Bool.not_eq_true'] at hq
      obtain ⟨⟨q1, q2⟩, q3⟩ := hq
      split at h
      · rename_i ds hds
        replace h := bif_not h; obtain ⟨hk, h⟩ := h
        refine ⟨_, fun β K' => by simp only [storeF, hcc, cond_true, hx, hqq, hds, hk, cond_false]; rfl, rfl, fun nt w0 S w A tmps va vv hst ha hv => ?_⟩
        obtain ⟨hi, g, hg, rfl⟩ := ha.tptr_inv hx q1
        have hcl := hv.cells c3
        have hsz : vv.cells.size = sz X.P t := by have := hcl.1; simp at this; omega
        have hkey : k ∉ toksOf v.cells := fun hm => by
          have : (toksOf v.cells).any (Nat.beq k) = true := List.any_eq_true.2 ⟨_, hm, Nat.beq_refl _⟩
          rw [this] at hk; cases hk
        obtain ⟨u1, hst1⟩ := hst.freeze (toksOf v.cells) _ rfl
        obtain ⟨hdl, hdr⟩ := toDs_rd hst hds hcl (ks := toksOf v.cells) fun t ht => ht
        have hcl1 := hcl.1
        simp only [Array.length_toList] at hcl1
        have hx' : (upds fr.tk (freeze fr (toksOf v.cells))) k = some x := by rw [upds_freeze, if_neg hkey]; exact hx
        obtain ⟨r1, r2⟩ := hst1.setTok (P := X.P) (off := off) (ds := ds) (vs := vv.cells.toList) hx' q3 hg hi (by simp; omega) hdr (by omega) _ rfl
        refine ⟨_, _, ?_, r2⟩
        simp only [Instr.storeAt, Instr.sureAddr, Sem.run_bind, Sem.run_pure, Result.andThen_ok]
        exact run_storeVar hsz c2 r1
      · cases h
    · cases h
  · cases h

end Go.Vm

/- Calls: what they are given and give back, and how the caller's state goes on. -/
set_option linter.unusedVariables false
set_option linter.unusedSimpArgs false
namespace Go.Vm

/-- A variable that a call is given by its address. -/
structure Reg where
  k : Nat
  o : Nat
  n : Nat
def Reg.has (g : Reg) (k o : Nat) : Prop := k = g.k ∧ g.o ≤ o ∧ o < g.o + g.n
def regsPl (gs : List Reg) : Pl := fun k o => ∃ g ∈ gs, g.has k o

inductive ArgOk (P : Program) (w : World) (Im : Pl) : Arg → PK → Value → List Reg → Prop
  | v (cs : List D) (t : TypeId) (us : List Value) (hok : okT P t = true) (hl : cs.length = sz P t) (hu : us.length = cs.length)
      (hr : ∀ (j : Nat) (d : D) (u : Value), cs[j]? = some d → us[j]? = some u → Rd w Im d u) : ArgOk P w Im (.v cs) (.v t) (partV P t us) []
  | r (cs : List D) (e : TypeId) (k o : Nat) (hl : cs.length = sz P e) (h0 : cs.length ≠ 0)
      (hr : ∀ (j : Nat) (d : D), cs[j]? = some d → w.frozen? (at_ k (o + j)) = false ∧ ¬ Im k (o + j) ∧ ∃ u, w.cell? (at_ k (o + j)) = some u ∧ Rd w Im d u) : ArgOk P w Im (.r cs) (.r e) (.pointer (some (at_ k o))) [⟨k, o, cs.length⟩]
  | w (d : D) (u : Value) (h : Rd w Im d u) : ArgOk P w Im (.v [d]) .w u []
  | f (g b : FuncId) (ix : List Nat) (u : Value) : ArgOk P w Im (.v []) (.f g b ix) u []
  | n (a : Option Addr) : ArgOk P w Im (.v []) .n (.slice a 0 0) []
inductive ArgsOk (P : Program) (w : World) (Im : Pl) : List Arg → List PK → List Value → List Reg → Prop
  | nil : ArgsOk P w Im [] [] [] []
  | cons {a : Arg} {t : PK} {v : Value} {gs : List Reg} {as : List Arg} {ts : List PK} {vs : List Value} {gs' : List Reg} (h : ArgOk P w Im a t v gs) (hs : ArgsOk P w Im as ts vs gs')
      (dis : ∀ k o, regsPl gs k o → ¬ regsPl gs' k o) : ArgsOk P w Im (a :: as) (t :: ts) (v :: vs) (gs ++ gs')
/-- The functions among the arguments: what they have captured lies among these. -/
def FnsOk (ks : List PK) (vals : List Value) : Prop := ∀ (i : Nat) (g b : FuncId) (ix : List Nat), ks[i]? = some (.f g b ix) → ∃ us : List Value, vals[i]? = some (.func (.func b) #[] us.toArray) ∧ us.length = ix.length ∧
  ∀ (j q : Nat), ix[j]? = some q → ∃ u, us[j]? = some u ∧ vals[q]? = some u

/-- A cell of a result; where it is a slice of the callee's own, the block that it hands over. -/
inductive CellOk (P : Program) (w : World) (Im : Pl) (B : Nat) : Option TypeId → D → Value → List Nat → Prop
  | plain (d : D) (u : Value) (h : Rd w Im d u) : CellOk P w Im B none d u []
  | empty (e : TypeId) (n : Nat) (a : Option Addr) : CellOk P w Im B (some e) (.list n []) (.slice a 0 0) []
  | fresh (e : TypeId) (rows : List (List D)) (u : Value) (g : Nat) (h : TokRel w Im B ⟨0, false, e, sz P e, rows⟩ u (some g)) : CellOk P w Im B (some e) (.list (sz P e) rows) u [g]
inductive CellsOk (P : Program) (w : World) (Im : Pl) (B : Nat) (F : List (Nat × TypeId)) : Nat → List D → List Value → List Nat → Prop
  | nil (j : Nat) : CellsOk P w Im B F j [] [] []
  | cons {j : Nat} {d : D} {u : Value} {b : List Nat} {ds : List D} {us : List Value} {bl : List Nat} (h : CellOk P w Im B (look j F) d u b) (hs : CellsOk P w Im B F (j + 1) ds us bl) : CellsOk P w Im B F j (d :: ds) (u :: us) (b ++ bl)
inductive ResOk (P : Program) (w : World) (Im : Pl) (B : Nat) (F : List (Nat × TypeId)) : Nat → List TypeId → List D → List Value → List Nat → Prop
  | nil (j : Nat) : ResOk P w Im B F j [] [] [] []
  | ptr {j : Nat} {t e : TypeId} {ts : List TypeId} {cs ds : List D} {g : Nat} {vs : List Value} {bl : List Nat} (h : isPtrT P t = some e) (hl : cs.length = sz P e) (hg : B ≤ g)
      (hc : ∀ (q : Nat) (d : D), cs[q]? = some d → w.frozen? (at_ g q) = false ∧ ∃ u, w.cell? (at_ g q) = some u ∧ Rd w Im d u) (hs : ResOk P w Im B F (j + sz P e) ts ds vs bl) :
      ResOk P w Im B F j (t :: ts) (cs ++ ds) (.pointer (some (at_ g 0)) :: vs) (g :: bl)
  | val {j : Nat} {t : TypeId} {ts : List TypeId} {cs ds : List D} {us vs : List Value} {b bl : List Nat} (h : isPtrT P t = none) (hok : okT P t = true) (hl : cs.length = sz P t) (hc : CellsOk P w Im B F j cs us b)
      (hs : ResOk P w Im B F (j + sz P t) ts ds vs bl) : ResOk P w Im B F j (t :: ts) (cs ++ ds) (partV P t us :: vs) (b ++ bl)
inductive RefsOk (w : World) (Im : Pl) : List Reg → List D → Prop
  | nil : RefsOk w Im [] []
  | cons {g : Reg} {gs : List Reg} {cs ds : List D} (hl : cs.length = g.n) (hc : ∀ (q : Nat) (d : D), cs[q]? = some d → ∃ u, w.cell? (at_ g.k (g.o + q)) = some u ∧ Rd w Im d u) (hs : RefsOk w Im gs ds) : RefsOk w Im (g :: gs) (cs ++ ds)

def tupV : List Value → Value
  | [v] => v
  | vs => .tuple vs.toArray
def scalar : D → Bool
  | .list _ _ => false
  | .bad => false
  | _ => true

/-- What a call leaves. -/
structure Post (P : Program) (F : List (Nat × TypeId)) (ks : List PK) (fn : Func) (w : World) (Im : Pl) (gs : List Reg) (r : List D) (v : Value) (w' : World) : Prop where
  out : ∃ (Im' : Pl) (vs : List Value) (bl : List Nat) (ds qs : List D), v = tupV vs ∧ r = ds ++ qs ∧ ResOk P w' Im' w.heap.size F 0 fn.resultTypes.toList ds vs bl ∧ RefsOk w' Im' gs qs ∧ bl.Nodup ∧
    (∀ g ∈ bl, ∀ o, ¬ Im' g o) ∧ Keep (regsPl gs) w w' ∧ (∀ k o, Im k o → Im' k o) ∧ (∀ k o, Im' k o → Im k o ∨ w.heap.size ≤ k) ∧ (∀ k o, Im' k o → ∃ u, w'.cell? (at_ k o) = some u) ∧
    ((fn.resultTypes.toList.all (flatT P) && ks.all (fun k => k.ref.isNone)) = true → r.all scalar = true)
def Con (P : Program) (H : FuncId → Hints) (g : FuncId) (as : List Arg) (r : List D) : Prop :=
  ∀ fn, P.funcs[baseOf H g]? = some fn → ∀ (w : World) (Im : Pl) (vals : List Value) (gs : List Reg), ArgsOk P w Im as (kindsOf P H g fn) vals gs → FnsOk (kindsOf P H g fn) vals → (∀ k o, Im k o → ∃ u, w.cell? (at_ k o) = some u) →
    Calls P (baseOf H g) (vals.take (nreal H g fn)).toArray w fun e w' => ∃ v, e = .returned v ∧ Post P (H g).fresh (kindsOf P H g fn) fn w Im gs r v w'

variable {nt : Nat} {w0 : World} {S : Sp} {w : World} {A : As} {fr : Fr} {tmps : Array Value} {P : Program}

/-! ### What the caller gives -/
def regOf (A : As) (fr : Fr) : Ref → Reg
  | .b s _ off n => ⟨(A.β s).block, (A.β s).off + off, n⟩
  | .t k _ i off n => ⟨(A.ω k).getD 0, i * ((fr.tk k).map (·.esz)).getD 0 + off, n⟩
/-- A reference that leads to a part of a variable or of a slice of the call's own. -/
def RefOk (A : As) (fr : Fr) : Ref → Prop
  | .b s e off n => ∃ b, fr.bx s = some b ∧ b.e = e ∧ off + n ≤ b.cs.length
  | .t k e i off n => ∃ y g, fr.tk k = some y ∧ y.e = e ∧ y.fz = false ∧ i < y.rows.length ∧ off + n ≤ y.esz ∧ A.ω k = some g
def Ref.own : Ref → Own
  | .b s .. => .b s
  | .t k .. => .t k
theorem key_own {a b : Ref} (h : a.key ≠ b.key) : a.own ≠ b.own := by
  cases a <;> cases b <;> simp [Ref.key, Ref.own] at h ⊢ <;> omega
theorem reg_own (h : St nt w0 S w A fr tmps) {r : Ref} (hr : RefOk A fr r) {k o : Nat} (hh : (regOf A fr r).has k o) : A.own k o = r.own ∧ (w0.heap.size ≤ k ∨ S.S k o) ∧ ∃ v, w.cell? (at_ k o) = some v := by
  obtain ⟨h1, h2, h3⟩ := hh
  cases r with
  | b s e off n =>
    obtain ⟨b, hb, _, hl⟩ := hr
    simp only [regOf] at h1 h2 h3
    obtain ⟨j, rfl⟩ : ∃ j, o = (A.β s).off + j := ⟨o - (A.β s).off, by omega⟩
    subst h1
    have hj : j < b.cs.length := by omega
    have hbo := h.bx s b hb
    obtain ⟨v, hv, _⟩ := hbo.cell j _ (List.getElem?_eq_getElem hj)
    exact ⟨hbo.own j hj, hbo.may j hj, v, hv⟩
  | t t e i off n =>
    obtain ⟨y, g, hy, _, _, hi, hl, hg⟩ := hr
    simp only [regOf, hg, hy, Option.getD_some, Option.map_some] at h1 h2 h3
    subst h1
    have hto := h.tk t y hy
    have hrel := hto.rel
    rw [hg] at hrel
    have hrow : y.rows[i]? = some (y.rows.getD i []) := by simp [List.getD, List.getElem?_eq_getElem hi]
    have hrl : (y.rows.getD i []).length = y.esz := hrel.2.2.1 _ (List.mem_of_getElem? hrow)
    obtain ⟨j, rfl⟩ : ∃ j, o = i * y.esz + j := ⟨o - i * y.esz, by omega⟩
    obtain ⟨v, hv, _⟩ := hrel.cell hrow (List.getElem?_eq_getElem (i := j) (by omega))
    exact ⟨hto.own _ hg _, .inl hrel.2.1, v, hv⟩
theorem reg_im (h : St nt w0 S w A fr tmps) {r : Ref} (hr : RefOk A fr r) {ks : List Nat} (hk : ∀ t ∈ ks, r.key ≠ 2 * t + 1) {k o : Nat} (hh : (regOf A fr r).has k o) : ¬ ImF A fr ks k o := by
  obtain ⟨h1, _, _⟩ := reg_own h hr hh
  intro hi
  rcases hi with hi | ⟨t, ht, x, hx, hω, _⟩
  · have him := h.im k o hi
    cases r with
    | b s e off n => exact him.nob s h1
    | t t e i off n =>
      obtain ⟨y, g, hy, _, hf, hi', hl, hg⟩ := hr
      have : k = g := by have := hh.1; simpa [regOf, hg] using this
      subst this
      have := (him.tok t y h1 hy hg).1
      rw [hf] at this; cases this
  · have h2 := (h.tk t x hx).own k hω o
    rw [h1] at h2
    cases r with
    | b s e off n => cases h2
    | t t' e i off n =>
      injection h2 with h2
      subst h2
      exact hk t' ht rfl

theorem ImF_mono {ks ks' : List Nat} (h : ∀ t ∈ ks, t ∈ ks') : ∀ k o, ImF A fr ks k o → ImF A fr ks' k o := fun k o hh => hh.imp id fun ⟨t, ht, r⟩ => ⟨t, h t ht, r⟩

theorem fits_plain {b : Bool} {v : V} (h : V.fits b v = true) : v.plain = true := by cases b <;> cases v <;> first | rfl | cases h
theorem fits_part {v : V} {u : Value} {t : TypeId} (h : RV fr w A v u) (hf : V.fits (isAggT P t) v = true) : u = partV P t u.cells.toList := by
  unfold partV
  cases h with
  | one c u h =>
    cases ha : isAggT P t with
    | true => rw [ha] at hf; cases hf
    | false => simp [cells_one h.1]
  | agg cs vs h =>
    cases ha : isAggT P t with
    | true => simp [Value.cells]
    | false => rw [ha] at hf; cases hf
  | tup xs vs hl h => cases ha : isAggT P t <;> rw [ha] at hf <;> cases hf
  | skip => cases ha : isAggT P t <;> rw [ha] at hf <;> cases hf
  | any v => cases ha : isAggT P t <;> rw [ha] at hf <;> cases hf

theorem mkArg_ok {X : Env} {v : V} {t : PK} {a : Arg} {ro : Option Ref} {k : List Nat} (h : mkArg X fr v t = some (a, ro, k)) (hst : St nt w0 S w A fr tmps) {u : Value} (hv : RV fr w A v u) {ks : List Nat} (hks : ∀ t ∈ k, t ∈ ks)
    (hro : ∀ r, ro = some r → ∀ t ∈ ks, r.key ≠ 2 * t + 1) : ArgOk X.P w (ImF A fr ks) a t u (ro.toList.map (regOf A fr)) ∧ ∀ r, ro = some r → RefOk A fr r := by
  unfold mkArg at h
  split at h
  · rename_i e
    split at h
    · rename_i s ep off
      split at h
      · rename_i b hb
        replace h := bif_some h; obtain ⟨hc, h⟩ := h
        simp only [Bool.and_eq_true, Nat.beq_eq, Nat.ble_eq, Bool.not_eq_true'] at hc
        obtain ⟨⟨c1, c2⟩, c3⟩ := hc
        have c3 := beq_false c3
        split at h
        · rename_i ds hds
          simp only [Option.some.injEq, Prod.mk.injEq] at h
          obtain ⟨rfl, rfl, rfl⟩ := h
          have hro' : RefOk A fr (.b s ep off (sz X.P e)) := ⟨b, hb, c1, c2⟩
          refine ⟨?_, fun r hr => by injection hr with hr; subst hr; exact hro'⟩
          have := hv.ptr_inv hb c1
          subst this
          have hbo := hst.bx s b hb
          obtain ⟨vs, h1, h2⟩ := region_vals (fr := fr) (w := w) (A := A) (cs := (b.cs.drop off).take (sz X.P e)) (k := (A.β s).block) (o := (A.β s).off + off) fun j c hj => by
            rw [List.getElem?_take] at hj
            split at hj
            · rw [List.getElem?_drop] at hj
              have := hbo.cell (off + j) c hj
              rwa [← Nat.add_assoc] at this
            · cases hj
          have hl : ((b.cs.drop off).take (sz X.P e)).length = sz X.P e := by rw [List.length_take, List.length_drop]; omega
          obtain ⟨hdl, hdr⟩ := toDs_rd hst hds h1 (ks := ks) hks
          have := ArgOk.r (P := X.P) (w := w) (Im := ImF A fr ks) ds e (A.β s).block ((A.β s).off + off) (by omega) (by omega) fun j d hj => by
            have hjl := (List.getElem?_eq_some_iff.1 hj).1
            have hvl := h1.1
            have hjv : j < vs.length := by omega
            have e1 := hro _ rfl
            refine ⟨by rw [Nat.add_assoc]; exact hbo.free _ (by omega), reg_im hst hro' e1 ⟨rfl, by simp [regOf], by simp only [regOf]; omega⟩, vs[j], h2 j _ (List.getElem?_eq_getElem hjv), hdr j d _ hj (List.getElem?_eq_getElem hjv)⟩
          rw [show ds.length = sz X.P e by omega] at this
          exact this
        · cases h
      · cases h
    · rename_i k' ep i off
      split at h
      · rename_i y hy
        replace h := bif_some h; obtain ⟨hc, h⟩ := h
        simp only [Bool.and_eq_true, Nat.beq_eq, Nat.ble_eq, Bool.not_eq_true'] at hc
        obtain ⟨⟨⟨c1, c2⟩, c3⟩, c4⟩ := hc
        have c3 := beq_false c3
        simp only [Option.some.injEq, Prod.mk.injEq] at h
        obtain ⟨rfl, rfl, rfl⟩ := h
        obtain ⟨hi, g, hg, rfl⟩ := hv.tptr_inv hy c1
        have hro' : RefOk A fr (.t k' ep i off (sz X.P e)) := ⟨y, g, hy, c1, c4, hi, c2, hg⟩
        refine ⟨?_, fun r hr => by injection hr with hr; subst hr; exact hro'⟩
        have hrel := (hst.tk k' y hy).rel
        rw [hg] at hrel
        have hrow : y.rows[i]? = some (y.rows.getD i []) := by simp [List.getD, List.getElem?_eq_getElem hi]
        have hrl : (y.rows.getD i []).length = y.esz := hrel.2.2.1 _ (List.mem_of_getElem? hrow)
        have := ArgOk.r (P := X.P) (w := w) (Im := ImF A fr ks) ((List.range (sz X.P e)).map fun j => (y.rows.getD i []).getD (off + j) .bad) e g (i * y.esz + off) (by simp) (by simpa using c3) fun j d hj => by
          obtain ⟨hjl, rfl⟩ := range_map_get hj
          obtain ⟨u, u1, u2, u3⟩ := hrel.cell hrow (getD_row (j := off + j) (by omega))
          rw [Nat.add_assoc]
          refine ⟨u2, ?_, u, u1, u3.step (fun _ _ h => .inl h) fun _ _ _ => rfl⟩
          exact reg_im hst hro' (hro _ rfl) ⟨by simp [regOf, hg], by simp only [regOf, hy, Option.map_some, Option.getD_some]; omega, by simp only [regOf, hy, Option.map_some, Option.getD_some]; omega⟩
        simpa [regOf, hg, hy] using this
      · cases h
    · cases h
  · rename_i t
    split at h
    · rename_i ds hds
      replace h := bif_some h; obtain ⟨hc, h⟩ := h
      simp only [Bool.and_eq_true, Nat.beq_eq] at hc
      obtain ⟨⟨c1, c2⟩, c3⟩ := hc
      simp only [Option.some.injEq, Prod.mk.injEq] at h
      obtain ⟨rfl, rfl, rfl⟩ := h
      refine ⟨?_, fun r hr => by cases hr⟩
      have c2' := fits_plain c2
      have hcl := hv.cells c2'
      obtain ⟨hdl, hdr⟩ := toDs_rd hst hds hcl (ks := ks) hks
      have hpv := fits_part hv c2
      have := ArgOk.v (P := X.P) (w := w) (Im := ImF A fr ks) ds t u.cells.toList c3 c1 (by have := hcl.1; omega) hdr
      rw [← hpv] at this
      exact this
    · cases h
  · split at h
    · rename_i c
      split at h
      · rename_i x hx
        simp only [Option.some.injEq, Prod.mk.injEq] at h
        obtain ⟨rfl, rfl, rfl⟩ := h
        refine ⟨?_, fun r hr => by cases hr⟩
        cases hv with
        | one c v hc => exact .w x _ (toD_rd hst hx hc hks)
      · cases h
    · cases h
  · split at h
    · replace h := (bif_some h).2
      simp only [Option.some.injEq, Prod.mk.injEq] at h
      obtain ⟨rfl, rfl, rfl⟩ := h
      exact ⟨.f _ _ _ _, fun r hr => by cases hr⟩
    · replace h := (bif_some h).2
      simp only [Option.some.injEq, Prod.mk.injEq] at h
      obtain ⟨rfl, rfl, rfl⟩ := h
      exact ⟨.f _ _ _ _, fun r hr => by cases hr⟩
    · cases h
  · split at h
    · simp only [Option.some.injEq, Prod.mk.injEq] at h
      obtain ⟨rfl, rfl, rfl⟩ := h
      obtain ⟨_, b, rfl⟩ := hv.one_inv
      exact ⟨.n b, fun r hr => by cases hr⟩
    · cases h

theorem distinct_cons {k : Nat} {ks : List Nat} (h : distinct (k :: ks) = true) : k ∉ ks ∧ distinct ks = true := by
  simp only [distinct, Bool.and_eq_true, Bool.not_eq_true'] at h
  refine ⟨fun hm => ?_, h.2⟩
  have : ks.any (Nat.beq k) = true := List.any_eq_true.2 ⟨_, hm, Nat.beq_refl _⟩
  rw [this] at h; cases h.1

theorem regs_mem {rs : List Ref} {k o : Nat} (h : regsPl (rs.map (regOf A fr)) k o) : ∃ r ∈ rs, (regOf A fr r).has k o := by
  obtain ⟨g, hg, hh⟩ := h
  obtain ⟨r, hr, rfl⟩ := List.mem_map.1 hg
  exact ⟨r, hr, hh⟩

theorem mkArgs_ok {X : Env} : ∀ {vs : List V} {ts : List PK} {as : List Arg} {rs : List Ref} {k : List Nat}, mkArgs X fr vs ts = some (as, rs, k) → St nt w0 S w A fr tmps → ∀ {us : List Value}, us.length = vs.length →
    (∀ (j : Nat) (x : V) (u : Value), vs[j]? = some x → us[j]? = some u → RV fr w A x u) → ∀ {ks : List Nat}, (∀ t ∈ k, t ∈ ks) → (∀ r ∈ rs, ∀ t ∈ ks, r.key ≠ 2 * t + 1) → distinct (rs.map Ref.key) = true →
      ArgsOk X.P w (ImF A fr ks) as ts us (rs.map (regOf A fr)) ∧ ∀ r ∈ rs, RefOk A fr r
  | [], [], as, rs, k, h, hst, us, hl, hv, ks, hks, hro, hd => by
    simp only [mkArgs, Option.some.injEq, Prod.mk.injEq] at h
    obtain ⟨rfl, rfl, rfl⟩ := h
    have : us = [] := List.length_eq_zero_iff.1 hl
    subst this
    exact ⟨.nil, fun r h => by cases h⟩
  | [], _ :: _, as, rs, k, h, hst, us, hl, hv, ks, hks, hro, hd => by simp [mkArgs] at h
  | _ :: _, [], as, rs, k, h, hst, us, hl, hv, ks, hks, hro, hd => by simp [mkArgs] at h
  | v :: vs, t :: ts, as, rs, k, h, hst, us, hl, hv, ks, hks, hro, hd => by
    simp only [mkArgs] at h
    split at h
    · rename_i a r k1 h1
      split at h
      · rename_i as' rs' k2 h2
        simp only [Option.some.injEq, Prod.mk.injEq] at h
        obtain ⟨rfl, rfl, rfl⟩ := h
        match us, hl with
        | u :: us, hl =>
          obtain ⟨g1, g2⟩ := mkArg_ok h1 hst (hv 0 v u rfl rfl) (ks := ks) (fun t ht => hks t (List.mem_append_left _ ht)) (fun q hq => hro q (List.mem_append_left _ (by simp [hq])))
          have hd' : distinct (rs'.map Ref.key) = true := by
            cases r with
            | none => simpa using hd
            | some r => simp only [Option.toList_some, List.singleton_append, List.map_cons] at hd; exact (distinct_cons hd).2
          obtain ⟨g3, g4⟩ := mkArgs_ok h2 hst (us := us) (by simpa using hl) (fun j x u h1 h2 => hv (j + 1) x u (by simpa using h1) (by simpa using h2)) (ks := ks) (fun t ht => hks t (List.mem_append_right _ ht)) (fun q hq => hro q (List.mem_append_right _ hq)) hd'
          refine ⟨?_, fun q hq => ?_⟩
          · rw [List.map_append]
            refine .cons g1 g3 fun a o ha hb => ?_
            obtain ⟨r1, hr1, hh1⟩ := regs_mem ha
            obtain ⟨r2, hr2, hh2⟩ := regs_mem hb
            cases r with
            | none => cases hr1
            | some r =>
              have : r1 = r := by simpa using hr1
              subst this
              simp only [Option.toList_some, List.singleton_append, List.map_cons] at hd
              have hne : r1.key ≠ r2.key := fun e => (distinct_cons hd).1 (by rw [e]; exact List.mem_map.2 ⟨r2, hr2, rfl⟩)
              have q1 := (reg_own hst (g2 r1 rfl) hh1).1
              have q2 := (reg_own hst (g4 r2 hr2) hh2).1
              exact key_own hne (q1.symm.trans q2)
          · rcases List.mem_append.1 hq with hq | hq
            · exact g2 q (by cases r <;> simp at hq ⊢; exact hq.symm)
            · exact g4 q hq
      · cases h
    · cases h

/-! ### What comes back is taken in -/
/-- Memory that is nobody's yet becomes a variable. -/
theorem St.adoptBox (h : St nt w0 S w A fr tmps) (s e g : Nat) (cs : List D) (h0 : 0 < cs.length) (hg : w0.heap.size ≤ g) (hown : ∀ o, A.own g o = .none) (hIm : ∀ o, ¬ A.Im g o) (he : ∀ b, fr.bx s = some b → b.e < e)
    (hc : ∀ (q : Nat) (d : D), cs[q]? = some d → w.frozen? (at_ g q) = false ∧ ∃ u, w.cell? (at_ g q) = some u ∧ Rd w A.Im d u) :
    ∀ fr', fr' = { fr with bx := upd fr.bx s (some ⟨e, cs.map .d⟩) } → Upd w0 S w A fr w (A.newBox s g) fr' (fun _ _ => False) ∧ St nt w0 S w (A.newBox s g) fr' tmps ∧ RV fr' w (A.newBox s g) (.one (.ptr s e 0)) (.pointer (some (at_ g 0))) := by
  intro fr' hfr
  subst hfr
  have u : Upd w0 S w A fr w (A.newBox s g) { fr with bx := upd fr.bx s (some ⟨e, cs.map .d⟩) } (fun _ _ => False) := by
    refine ⟨Keep.refl _ _, fun _ _ h => h.elim, fun _ _ _ h => h, rfl, fun _ _ h => h, fun k o hk hn => ?_, fun s' b hb => ?_, fun t k hk => ⟨k, hk, .inr ⟨rfl, rfl, rfl, rfl, rfl⟩⟩⟩
    · simp only [As.newBox]
      split
      · rename_i hkg
        subst hkg
        rcases hn with hn | hn
        · exact absurd (hown o) hn
        · exact absurd hn (hIm o)
      · rfl
    · by_cases hs : s' = s
      · subst hs
        exact ⟨_, upd_same _ _ _, .inl (he b hb)⟩
      · exact ⟨b, (upd_ne _ _ hs).trans hb, .inr ⟨rfl, upd_ne _ _ hs⟩⟩
  have e1 : (A.newBox s g).β s = at_ g 0 := upd_same _ _ _
  refine ⟨u, h.of_upd u (fun s' b hb => ?_) (fun t k hk => .inl ⟨⟨k, hk, rfl, rfl, rfl⟩, rfl, rfl, fun _ _ _ h => h⟩) (h.im_old u fun t x hx g hg _ => ⟨x, hx, hg, fun h => h, Nat.le_refl _⟩) (fun _ _ h => .inl h), ?_⟩
  · by_cases hs : s' = s
    · subst hs
      simp only [upd_same, Option.some.injEq] at hb
      subst hb
      refine .inr ⟨fun j c hc' => ?_, fun j hj => ?_, fun j hj => ?_, fun j hj => ?_, fun _ => ?_⟩
      · rw [List.getElem?_map] at hc'
        obtain ⟨d, hd, rfl⟩ := Option.map_eq_some_iff.1 hc'
        obtain ⟨_, v, hv, hr⟩ := hc j d hd
        rw [e1]
        exact ⟨v, by simpa using hv, hr.one, hr⟩
      · rw [e1]
        simp only [List.length_map] at hj
        simpa using (hc j _ (List.getElem?_eq_getElem hj)).1
      · rw [e1]; simp [As.newBox]
      · rw [e1]; exact .inl hg
      · rw [e1]
        obtain ⟨_, u, hu, _⟩ := hc 0 _ (List.getElem?_eq_getElem h0)
        exact ⟨rfl, hg, cell_lt hu, fun o => by simp [As.newBox, at_]⟩
    · exact .inl ⟨(upd_ne _ _ hs).symm.trans hb, upd_ne _ _ hs, fun _ _ h => h⟩
  · exact .one _ _ ⟨rfl, ⟨_, _, rfl⟩, ⟨e, cs.map .d⟩, upd_same _ _ _, Nat.le_refl _, fun _ => by rw [e1]⟩

/-- Memory that is nobody's yet becomes a slice of the call's own. -/
theorem St.adoptTok (h : St nt w0 S w A fr tmps) (t : Nat) (k : Tk) (v : Value) (g : Option Nat) (he : ∀ b, fr.tk t = some b → b.e < k.e) (hf : k.fz = false) (hown : ∀ x, g = some x → ∀ o, A.own x o = .none) (hIm : ∀ x, g = some x → ∀ o, ¬ A.Im x o)
    (hk : TokRel w A.Im w0.heap.size k v g) :
    ∀ fr', fr' = { fr with tk := upd fr.tk t (some k) } → Upd w0 S w A fr w (A.newTok t v g) fr' (fun _ _ => False) ∧ St nt w0 S w (A.newTok t v g) fr' tmps ∧ RC fr' w (A.newTok t v g) (.own t k.e) v := by
  intro fr' hfr
  subst hfr
  have u : Upd w0 S w A fr w (A.newTok t v g) { fr with tk := upd fr.tk t (some k) } (fun _ _ => False) := by
    refine ⟨Keep.refl _ _, fun _ _ h => h.elim, fun _ _ _ h => h, rfl, fun _ _ h => h, fun x o hx hn => ?_, fun s b hb => ⟨b, hb, .inr ⟨rfl, rfl⟩⟩, fun t' k' hk' => ?_⟩
    · simp only [As.newTok]
      split
      · rename_i hg
        rcases hn with hn | hn
        · exact absurd (hown x hg o) hn
        · exact absurd hn (hIm x hg o)
      · rfl
    · by_cases hs : t' = t
      · subst hs
        exact ⟨_, upd_same _ _ _, .inl (he k' hk')⟩
      · exact ⟨k', (upd_ne _ _ hs).trans hk', .inr ⟨rfl, upd_ne _ _ hs, upd_ne _ _ hs, rfl, rfl⟩⟩
  have hone : oneC v = true := by
    cases g with
    | none => obtain ⟨_, a, rfl⟩ := hk; rfl
    | some g => obtain ⟨_, _, _, c, u, rfl, _⟩ := hk; rfl
  have e1 : (A.newTok t v g).τ t = v := upd_same _ _ _
  have e2 : (A.newTok t v g).ω t = g := upd_same _ _ _
  refine ⟨u, h.of_upd u (fun s b hb => .inl ⟨hb, rfl, fun _ _ h => h⟩) (fun t' k' hk' => ?_) (fun a o hi => ?_) (fun _ _ h => .inl h), ⟨hone, k, upd_same _ _ _, Nat.le_refl _, fun _ => e1.symm⟩⟩
  · by_cases hs : t' = t
    · subst hs
      simp only [upd_same, Option.some.injEq] at hk'
      subst hk'
      refine .inr ⟨by rw [e1, e2]; exact hk, fun y hy o => ?_⟩
      rw [e2] at hy
      simp [As.newTok, hy]
    · exact .inl ⟨⟨k', (upd_ne _ _ hs).symm.trans hk', rfl, rfl, rfl⟩, upd_ne _ _ hs, upd_ne _ _ hs, fun _ _ _ h => h⟩
  · have hh := h.im a o hi
    have hng : g ≠ some a := fun e => hIm a e o hi
    have ho : (A.newTok t v g).own a o = A.own a o := by simp [As.newTok, hng]
    refine ⟨hh.cell, fun s => by rw [ho]; exact hh.nob s, fun t' x q1 q2 q3 => ?_⟩
    rw [ho] at q1
    by_cases hs : t' = t
    · subst hs
      rw [e2] at q3
      exact absurd q3 hng
    · exact hh.tok t' x q1 ((upd_ne _ _ hs).symm.trans q2) ((upd_ne _ _ hs).symm.trans q3)

end Go.Vm

/- A call carried out: the caller's state behind it. -/
set_option linter.unusedVariables false
set_option linter.unusedSimpArgs false
namespace Go.Vm

variable {nt : Nat} {w0 : World} {S : Sp} {w : World} {A : As} {fr : Fr} {tmps : Array Value} {P : Program}

theorem upds_get {α : Type} (f : Nat → Option α) : ∀ (l : List (Nat × α)) (t : Nat), (upds f l t = f t ∧ ∀ v, (t, v) ∉ l) ∨ ∃ v, (t, v) ∈ l ∧ upds f l t = some v
  | [], t => .inl ⟨rfl, fun v h => by cases h⟩
  | (k, x) :: l, t => by
    by_cases h : t = k
    · subst h
      exact .inr ⟨x, List.mem_cons_self, upds_same _ _ _ _⟩
    · rw [upds_ne _ _ _ h]
      rcases upds_get f l t with ⟨h1, h2⟩ | ⟨v, h1, h2⟩
      · exact .inl ⟨h1, fun v hv => by
          rcases List.mem_cons.1 hv with hv | hv
          · injection hv with e1 _; exact h e1
          · exact h2 v hv⟩
      · exact .inr ⟨v, List.mem_cons_of_mem _ h1, h2⟩
theorem upds_append {α : Type} (f : Nat → Option α) (a b : List (Nat × α)) : upds f (a ++ b) = upds (upds f b) a := by
  induction a with
  | nil => rfl
  | cons x a ih => obtain ⟨k, v⟩ := x; simp only [List.cons_append, upds, ih]

theorem distinct_eq : ∀ {rs : List Ref} {a b : Ref}, distinct (rs.map Ref.key) = true → a ∈ rs → b ∈ rs → a.key = b.key → a = b
  | r :: rs, a, b, hd, ha, hb, he => by
    simp only [List.map_cons] at hd
    obtain ⟨h1, h2⟩ := distinct_cons hd
    rcases List.mem_cons.1 ha with ha' | ha'
    · rcases List.mem_cons.1 hb with hb' | hb'
      · rw [ha', hb']
      · exact absurd (List.mem_map.2 ⟨b, hb', by rw [← he, ha']⟩) h1
    · rcases List.mem_cons.1 hb with hb' | hb'
      · exact absurd (List.mem_map.2 ⟨a, ha', by rw [he, hb']⟩) h1
      · exact distinct_eq h2 ha' hb' he

/-- What is known of new cells at a region. -/
def NewAt (w : World) (Im : Pl) (k o n : Nat) (new : List D) : Prop := new.length = n ∧ ∀ (q : Nat) (d : D), new[q]? = some d → ∃ u, w.cell? (at_ k (o + q)) = some u ∧ Rd w Im d u

theorem wb_ok {w' : World} {Im' : Pl} {r : List D} : ∀ {rs : List Ref} {m : Nat} {qs : List D}, RefsOk w' Im' (rs.map (regOf A fr)) qs → (∀ (i : Nat) (d : D), qs[i]? = some d → r[m + i]? = some d) → (∀ x ∈ rs, RefOk A fr x) →
    (∀ s b', (s, b') ∈ (writeB fr r m rs).1 → ∃ e off n b new, Ref.b s e off n ∈ rs ∧ fr.bx s = some b ∧ b.e = e ∧ b' = ⟨e, splice b.cs off (new.map C.d)⟩ ∧ NewAt w' Im' (A.β s).block ((A.β s).off + off) n new) ∧
    (∀ t k', (t, k') ∈ (writeB fr r m rs).2 → ∃ e i off n y g new, Ref.t t e i off n ∈ rs ∧ fr.tk t = some y ∧ A.ω t = some g ∧ k' = { y with rows := y.rows.set i (splice (y.rows.getD i []) off new) } ∧ NewAt w' Im' g (i * y.esz + off) n new) ∧
    (∀ s e off n, Ref.b s e off n ∈ rs → ∃ b', (s, b') ∈ (writeB fr r m rs).1) ∧ (∀ t e i off n, Ref.t t e i off n ∈ rs → ∃ k', (t, k') ∈ (writeB fr r m rs).2)
  | [], m, qs, h, hr, ho => by
    refine ⟨fun s b h => ?_, fun s b h => ?_, fun s e off n h => ?_, fun t e i off n h => ?_⟩
    · simp [writeB] at h
    · simp [writeB] at h
    · cases h
    · cases h
  | x :: rs, m, qs, h, hr, ho => by
    simp only [List.map_cons] at h
    cases h with
    | @cons _ _ cs ds hl hc hs =>
      have hgot : ∀ q, q < cs.length → r.getD (m + q) .bad = cs[q]! := fun q hq => by
        have := hr q _ (by rw [List.getElem?_append_left hq]; exact List.getElem?_eq_getElem hq)
        rw [getElem!_pos cs q hq]
        simp [List.getD, this]
      have hrest : ∀ (i : Nat) (d : D), ds[i]? = some d → r[m + cs.length + i]? = some d := fun i d hi => by
        rw [Nat.add_assoc]
        exact hr (cs.length + i) d (by rw [List.getElem?_append_right (by omega), Nat.add_sub_cancel_left]; exact hi)
      have hcs : ∀ n, cs.length = n → ((List.range n).map fun i => r.getD (m + i) .bad) = cs := fun n hn => by
        subst hn
        apply List.ext_getElem?
        intro q
        by_cases hq : q < cs.length
        · rw [List.getElem?_map, List.getElem?_range hq, List.getElem?_eq_getElem hq]
          simp only [Option.map_some]
          rw [hgot q hq, getElem!_pos cs q hq]
        · rw [List.getElem?_eq_none (by simp; omega), List.getElem?_eq_none (by omega)]
      cases x with
      | b s e off n =>
        have hl' : cs.length = n := hl
        obtain ⟨g1, g2, g3, g4⟩ := wb_ok (m := m + n) hs (by rw [← hl']; exact hrest) fun x hx => ho x (List.mem_cons_of_mem _ hx)
        obtain ⟨b, hb, he, hbl⟩ := ho _ List.mem_cons_self
        simp only [writeB, hb]
        refine ⟨fun s' b' hm => ?_, fun t k' hm => ?_, fun s' e' off' n' hm => ?_, fun t e' i' off' n' hm => ?_⟩
        · rcases List.mem_cons.1 hm with hm | hm
          · injection hm with e1 e2
            subst e1
            refine ⟨e, off, n, b, cs, List.mem_cons_self, hb, he, ?_, hl', hc⟩
            rw [e2]
            have := hcs n hl'
            congr 2
            rw [← this, List.map_map]; rfl
          · obtain ⟨e', off', n', b2, new, q1, q2⟩ := g1 s' b' hm
            exact ⟨e', off', n', b2, new, List.mem_cons_of_mem _ q1, q2⟩
        · obtain ⟨e', i', off', n', y, g, new, q1, q2⟩ := g2 t k' hm
          exact ⟨e', i', off', n', y, g, new, List.mem_cons_of_mem _ q1, q2⟩
        · rcases List.mem_cons.1 hm with hm | hm
          · injection hm with e1
            subst e1
            exact ⟨_, List.mem_cons_self⟩
          · obtain ⟨b', hb'⟩ := g3 s' e' off' n' hm
            exact ⟨b', List.mem_cons_of_mem _ hb'⟩
        · rcases List.mem_cons.1 hm with hm | hm
          · cases hm
          · exact g4 t e' i' off' n' hm
      | t t e i off n =>
        have hl' : cs.length = n := hl
        obtain ⟨g1, g2, g3, g4⟩ := wb_ok (m := m + n) hs (by rw [← hl']; exact hrest) fun x hx => ho x (List.mem_cons_of_mem _ hx)
        obtain ⟨y, g, hy, he, hf, hi, hbl, hg⟩ := ho _ List.mem_cons_self
        simp only [regOf, hg, hy, Option.getD_some, Option.map_some] at hc
        simp only [writeB, hy]
        refine ⟨fun s' b' hm => ?_, fun t' k' hm => ?_, fun s' e' off' n' hm => ?_, fun t' e' i' off' n' hm => ?_⟩
        · obtain ⟨e', off', n', b2, new, q1, q2⟩ := g1 s' b' hm
          exact ⟨e', off', n', b2, new, List.mem_cons_of_mem _ q1, q2⟩
        · rcases List.mem_cons.1 hm with hm | hm
          · injection hm with e1 e2
            subst e1
            exact ⟨e, i, off, n, y, g, cs, List.mem_cons_self, hy, hg, by rw [e2, hcs n hl'], hl', hc⟩
          · obtain ⟨e', i', off', n', y2, g', new, q1, q2⟩ := g2 t' k' hm
            exact ⟨e', i', off', n', y2, g', new, List.mem_cons_of_mem _ q1, q2⟩
        · rcases List.mem_cons.1 hm with hm | hm
          · cases hm
          · exact g3 s' e' off' n' hm
        · rcases List.mem_cons.1 hm with hm | hm
          · injection hm with e1
            subst e1
            exact ⟨_, List.mem_cons_self⟩
          · obtain ⟨b', hb'⟩ := g4 t' e' i' off' n' hm
            exact ⟨b', List.mem_cons_of_mem _ hb'⟩

/-- Behind a call: what it wrote by addresses stands in the frame. -/
theorem St.callStep (h : St nt w0 S w A fr tmps) {w' : World} {Im' : Pl} {rs : List Ref} {qs r : List D} {m : Nat} (hk : Keep (regsPl (rs.map (regOf A fr))) w w') (hro : ∀ x ∈ rs, RefOk A fr x) (hd : distinct (rs.map Ref.key) = true)
    (hi1 : ∀ k o, A.Im k o → Im' k o) (hi2 : ∀ k o, Im' k o → A.Im k o ∨ w.heap.size ≤ k) (hi3 : ∀ k o, Im' k o → ∃ u, w'.cell? (at_ k o) = some u) (hrf : RefsOk w' Im' (rs.map (regOf A fr)) qs) (hr : ∀ (i : Nat) (d : D), qs[i]? = some d → r[m + i]? = some d) :
    ∀ fr', fr' = { fr with bx := upds fr.bx (writeB fr r m rs).1, tk := upds fr.tk (writeB fr r m rs).2 } →
    ∀ A', A' = { A with Im := Im', own := fun k o => if k < w.heap.size then A.own k o else .none } → Upd w0 S w A fr w' A' fr' (regsPl (rs.map (regOf A fr))) ∧ St nt w0 S w' A' fr' tmps := by
  intro fr' hfr A' hA
  subst hfr hA
  obtain ⟨wb1, wb2, wb3, wb4⟩ := wb_ok (r := r) (m := m) hrf hr hro
  have im' : ∀ k o, Im' k o → k < w.heap.size → A.Im k o := fun k o hh hlt => (hi2 k o hh).resolve_right (by omega)
  have u : Upd w0 S w A fr w' { A with Im := Im', own := fun k o => if k < w.heap.size then A.own k o else .none } { fr with bx := upds fr.bx (writeB fr r m rs).1, tk := upds fr.tk (writeB fr r m rs).2 } (regsPl (rs.map (regOf A fr))) := by
    refine ⟨hk, fun k o hT => ?_, fun k o hi hT => ?_, rfl, hi1, fun k o hlt _ => by simp [hlt], fun s b hb => ?_, fun t k ht => ?_⟩
    · obtain ⟨x, hx, hh⟩ := regs_mem hT
      exact (reg_own h (hro x hx) hh).2.1
    · obtain ⟨x, hx, hh⟩ := regs_mem hT
      exact reg_im h (hro x hx) (ks := []) (fun t ht => by cases ht) hh (.inl hi)
    · rcases upds_get fr.bx (writeB fr r m rs).1 s with ⟨q1, _⟩ | ⟨b', q1, q2⟩
      · exact ⟨b, q1.trans hb, .inr ⟨rfl, rfl⟩⟩
      · obtain ⟨e, off, n, b2, new, _, p2, p3, rfl, _⟩ := wb1 s b' q1
        rw [hb] at p2; injection p2 with p2; subst p2
        exact ⟨_, q2, .inr ⟨p3.symm, rfl⟩⟩
    · rcases upds_get fr.tk (writeB fr r m rs).2 t with ⟨q1, _⟩ | ⟨k', q1, q2⟩
      · exact ⟨k, q1.trans ht, .inr ⟨rfl, rfl, rfl, rfl, rfl⟩⟩
      · obtain ⟨e, i, off, n, y, g, new, _, p2, _, rfl, _⟩ := wb2 t k' q1
        rw [ht] at p2; injection p2 with p2; subst p2
        exact ⟨_, q2, .inr ⟨rfl, rfl, rfl, by simp, rfl⟩⟩
  refine ⟨u, h.of_upd u (fun s b hb => ?_) (fun t k ht => ?_) (fun k o hh => ?_) (fun k o hh => (hi2 k o hh).imp id fun q => Nat.le_trans h.keep.size q)⟩
  · rcases upds_get fr.bx (writeB fr r m rs).1 s with ⟨q1, q2⟩ | ⟨b', q1, q2⟩
    · have hb' := q1.symm.trans hb
      refine .inl ⟨hb', rfl, fun j hj hT => ?_⟩
      obtain ⟨x, hx, hh⟩ := regs_mem hT
      have e1 := (reg_own h (hro x hx) hh).1
      rw [(h.bx s b hb').own j hj] at e1
      cases x with
      | b s' e off n =>
        injection e1 with e1
        subst e1
        obtain ⟨b2, hb2⟩ := wb3 _ _ _ _ hx
        exact q2 b2 hb2
      | t t e i off n => cases e1
    · have hb' : b' = b := by have := q2.symm.trans hb; injection this
      subst hb'
      obtain ⟨e, off, n, b0, new, p1, p2, p3, rfl, pl, pn⟩ := wb1 s b' q1
      have hbo := h.bx s b0 p2
      obtain ⟨b1, hb1, he1, hl1⟩ := hro _ p1
      rw [p2] at hb1; injection hb1 with hb1; subst hb1
      have hsp : off + (new.map C.d).length ≤ b0.cs.length := by rw [List.length_map]; omega
      have hlen := splice_len b0.cs off (new.map C.d) hsp
      have inT : ∀ j, j < b0.cs.length → regsPl (rs.map (regOf A fr)) (A.β s).block ((A.β s).off + j) → off ≤ j ∧ j < off + n := fun j hj hT => by
        obtain ⟨x, hx, hh⟩ := regs_mem hT
        have e1 := (reg_own h (hro x hx) hh).1
        rw [hbo.own j hj] at e1
        cases x with
        | b s' e' off' n' =>
          injection e1 with e1
          subst e1
          have := distinct_eq hd hx p1 rfl
          injection this with _ _ q3 q4
          subst q3 q4
          obtain ⟨_, r1, r2⟩ := hh
          simp only [regOf] at r1 r2
          omega
        | t t e i off n => cases e1
      refine .inr ⟨fun j c hc => ?_, fun j hj => ?_, fun j hj => ?_, fun j hj => hbo.may j (by simpa [hlen] using hj), fun hp => ?_⟩
      · have hc : (splice b0.cs off (new.map C.d))[j]? = some c := hc
        have hj : j < b0.cs.length := by have := (List.getElem?_eq_some_iff.1 hc).1; omega
        by_cases h1 : off ≤ j ∧ j < off + n
        · rw [splice_mid _ _ _ hsp h1.1 (by rw [List.length_map]; omega), List.getElem?_map] at hc
          obtain ⟨d, hd', rfl⟩ := Option.map_eq_some_iff.1 hc
          obtain ⟨v, hv, hrd⟩ := pn _ d hd'
          rw [show (A.β s).off + off + (j - off) = (A.β s).off + j by omega] at hv
          exact ⟨v, hv, hrd.one, hrd⟩
        · have hc' : b0.cs[j]? = some c := by
            rw [← hc]
            by_cases h2 : j < off
            · exact (splice_lo _ _ _ hsp h2).symm
            · exact (splice_hi _ _ _ hsp (by rw [List.length_map]; omega)).symm
          obtain ⟨v, hv, hrc⟩ := hbo.cell j c hc'
          exact ⟨v, hk.cell_some hv fun hT => h1 (inT j hj hT), u.rc h hrc⟩
      · have hj' : j < b0.cs.length := by simpa [hlen] using hj
        obtain ⟨v, hv, _⟩ := hbo.cell j _ (List.getElem?_eq_getElem hj')
        show w'.frozen? (at_ (A.β s).block ((A.β s).off + j)) = false
        rw [hk.frozen (cell_lt hv)]
        exact hbo.free j hj'
      · have hj' : j < b0.cs.length := by simpa [hlen] using hj
        obtain ⟨v, hv, _⟩ := hbo.cell j _ (List.getElem?_eq_getElem hj')
        simp only [cell_lt hv, if_true]
        exact hbo.own j hj'
      · obtain ⟨q1, q2, q3, q4⟩ := hbo.whole hp
        exact ⟨q1, q2, Nat.lt_of_lt_of_le q3 hk.size, fun o => by simp only [q3, if_true]; exact q4 o⟩
  · rcases upds_get fr.tk (writeB fr r m rs).2 t with ⟨q1, q2⟩ | ⟨k', q1, q2⟩
    · have ht' := q1.symm.trans ht
      refine .inl ⟨⟨k, ht', rfl, rfl, rfl⟩, rfl, rfl, fun g hg o hT => ?_⟩
      obtain ⟨x, hx, hh⟩ := regs_mem hT
      have e1 := (reg_own h (hro x hx) hh).1
      rw [(h.tk t k ht').own g hg o] at e1
      cases x with
      | t t' e i off n =>
        injection e1 with e1
        subst e1
        obtain ⟨b2, hb2⟩ := wb4 _ _ _ _ _ hx
        exact q2 b2 hb2
      | b s e off n => cases e1
    · have hk' : k' = k := by have := q2.symm.trans ht; injection this
      subst hk'
      obtain ⟨e, i, off, n, y, g, new, p1, p2, p3, rfl, pl, pn⟩ := wb2 t k' q1
      obtain ⟨y1, g1, hy1, he1, hf1, hi1', hl1, hg1⟩ := hro _ p1
      rw [p2] at hy1; injection hy1 with hy1; subst hy1
      rw [p3] at hg1; injection hg1 with hg1; subst hg1
      have hto := h.tk t y p2
      have hrel := hto.rel
      rw [p3] at hrel
      obtain ⟨e0, e1, e2, cap, cur, e3, e4, e5, e6, e7, e8⟩ := hrel
      have hrow : y.rows[i]? = some (y.rows.getD i []) := by simp [List.getD, List.getElem?_eq_getElem hi1']
      have hrl : (y.rows.getD i []).length = y.esz := e2 _ (List.mem_of_getElem? hrow)
      have hsp : off + new.length ≤ (y.rows.getD i []).length := by omega
      have inT : ∀ o, regsPl (rs.map (regOf A fr)) g o → i * y.esz + off ≤ o ∧ o < i * y.esz + off + n := fun o hT => by
        obtain ⟨x, hx, hh⟩ := regs_mem hT
        have e1 := (reg_own h (hro x hx) hh).1
        rw [hto.own g p3 o] at e1
        cases x with
        | t t' e' i' off' n' =>
          injection e1 with e1
          subst e1
          have := distinct_eq hd hx p1 rfl
          injection this with _ _ q3 q4 q5
          subst q3 q4 q5
          obtain ⟨_, r1, r2⟩ := hh
          simp only [regOf, p2, Option.map_some, Option.getD_some] at r1 r2
          exact ⟨r1, r2⟩
        | b s e off n => cases e1
      obtain ⟨cur', c1, c2, c3⟩ := keep_row hk e4
      have hglt : g < w.heap.size := (Array.getElem?_eq_some_iff.1 e4).1
      refine .inr ⟨?_, fun x hx o => ?_⟩
      · show TokRel w' Im' w0.heap.size _ (A.τ t) (A.ω t)
        rw [p3]
        refine ⟨e0, e1, fun row hrow' => ?_, cap, cur', by simpa using e3, c1, by simpa using e5, e6, by rw [c2]; exact e7, fun i' row hi' j d hj => ?_⟩
        · rcases List.mem_or_eq_of_mem_set hrow' with hm | rfl
          · exact e2 row hm
          · rw [splice_len _ _ _ hsp]; exact hrl
        · show ∃ u, cur'[i' * y.esz + j]? = some u ∧ _
          have old : ∀ row0, y.rows[i']? = some row0 → row0[j]? = some d → ¬ (i' = i ∧ off ≤ j ∧ j < off + n) → ∃ u, cur'[i' * y.esz + j]? = some u ∧ Rd w' Im' d u := fun row0 r1 r2 r3 => by
            obtain ⟨u', s1, s2⟩ := e8 i' row0 r1 j d r2
            refine ⟨u', ?_, u.rd h s2⟩
            rw [← c3]
            refine hk.cell_some (by simp [World.cell?, e4, s1]) fun hT => ?_
            have hin := inT _ hT
            have hrin := row_in e2 r1 r2
            apply r3
            by_cases hii : i' = i
            · subst hii; exact ⟨rfl, by omega, by omega⟩
            · exfalso
              rcases Nat.lt_or_gt_of_ne hii with hlt | hgt
              · have : i' * y.esz + y.esz ≤ i * y.esz := by rw [← Nat.succ_mul]; exact Nat.mul_le_mul_right _ hlt
                omega
              · have : i * y.esz + y.esz ≤ i' * y.esz := by rw [← Nat.succ_mul]; exact Nat.mul_le_mul_right _ hgt
                omega
          by_cases hii : i' = i
          · subst hii
            rw [List.getElem?_set_self hi1'] at hi'
            injection hi' with hi'
            subst hi'
            by_cases hin : off ≤ j ∧ j < off + n
            · rw [splice_mid _ _ _ hsp hin.1 (by omega)] at hj
              obtain ⟨v, hv, hrd⟩ := pn _ d hj
              rw [show i' * y.esz + off + (j - off) = i' * y.esz + j by omega, c3] at hv
              exact ⟨v, hv, hrd⟩
            · refine old _ hrow ?_ fun hh => hin hh.2
              rw [← hj]
              by_cases hlo : j < off
              · exact (splice_lo _ _ _ hsp hlo).symm
              · exact (splice_hi _ _ _ hsp (by omega)).symm
          · rw [List.getElem?_set_ne (Ne.symm hii)] at hi'
            exact old row hi' hj fun hh => hii hh.1
      · have hx' : g = x := by have : A.ω t = some x := hx; rw [p3] at this; injection this
        subst hx'
        simp only [hglt, if_true]
        exact hto.own g p3 o
  · refine ⟨hi3 k o hh, fun s => ?_, fun t x q1 q2 q3 => ?_⟩
    · by_cases hlt : k < w.heap.size
      · simp only [hlt, if_true]; exact (h.im k o (im' k o hh hlt)).nob s
      · simp [hlt]
    · by_cases hlt : k < w.heap.size
      · simp only [hlt, if_true] at q1
        have hI := (h.im k o (im' k o hh hlt)).tok t
        rcases upds_get fr.tk (writeB fr r m rs).2 t with ⟨g1, _⟩ | ⟨k', g1, g2⟩
        · exact hI x q1 (g1.symm.trans q2) q3
        · have hk' : k' = x := by have := g2.symm.trans q2; injection this
          subst hk'
          obtain ⟨e, i, off, n, y, g, new, _, p2, _, rfl, _⟩ := wb2 t k' g1
          have := hI y q1 p2 q3
          exact ⟨this.1, by simpa using this.2⟩
      · simp [hlt] at q1

end Go.Vm

/- Results of a call are taken in; calls. -/
set_option linter.unusedVariables false
set_option linter.unusedSimpArgs false
namespace Go.Vm

variable {nt : Nat} {w0 : World} {S : Sp} {w : World} {A : As} {fr : Fr} {tmps : Array Value} {P : Program}

/-- Nobody's block. -/
def FreeB (w0 : World) (A : As) (g : Nat) : Prop := w0.heap.size ≤ g ∧ (∀ o, A.own g o = .none) ∧ ∀ o, ¬ A.Im g o

/-- A slice that is handed over and not kept is written no more. -/
theorem St.adoptIm (h : St nt w0 S w A fr tmps) (g : Nat) {e : TypeId} {n : Nat} {rows : List (List D)} {u : Value} {ep : Nat} {B : Nat} (hg : FreeB w0 A g) (hk : TokRel w A.Im B ⟨ep, false, e, n, rows⟩ u (some g)) :
    ∀ A', A' = { A with Im := fun k o => A.Im k o ∨ (k = g ∧ o < rows.length * n) } → Upd w0 S w A fr w A' fr (fun _ _ => False) ∧ St nt w0 S w A' fr tmps ∧ Rd w A'.Im (.list n rows) u := by
  intro A' hA
  subst hA
  have u1 : Upd w0 S w A fr w { A with Im := fun k o => A.Im k o ∨ (k = g ∧ o < rows.length * n) } fr (fun _ _ => False) :=
    ⟨Keep.refl _ _, fun _ _ h => h.elim, fun _ _ _ h => h, rfl, fun _ _ h => .inl h, fun _ _ _ _ => rfl, fun s b hb => ⟨b, hb, .inr ⟨rfl, rfl⟩⟩, fun t k hk => ⟨k, hk, .inr ⟨rfl, rfl, rfl, rfl, rfl⟩⟩⟩
  obtain ⟨h1, h2, h3, cap, cur, h4, h5, h6, h7, h8, h9⟩ := hk
  have hsz : rows.length * n ≤ cur.size := by rw [h8]; exact Nat.mul_le_mul_right _ h6
  refine ⟨u1, h.of_upd u1 (fun s b hb => .inl ⟨hb, rfl, fun _ _ h => h⟩) (fun t k hk => .inl ⟨⟨k, hk, rfl, rfl, rfl⟩, rfl, rfl, fun _ _ _ h => h⟩) (fun k o hi => ?_) (fun k o hi => hi.imp id fun hh => by rw [hh.1]; exact hg.1), ?_⟩
  · rcases hi with hi | ⟨rfl, ho⟩
    · have hh := h.im k o hi
      exact ⟨hh.cell, hh.nob, hh.tok⟩
    · have ho' := hg.2.1 o
      refine ⟨⟨cur[o], ?_⟩, fun s => ?_, fun t x q1 _ _ => ?_⟩
      · have : o < cur.size := by omega
        simp [World.cell?, h5, this]
      · show A.own k o ≠ _
        rw [ho']; simp
      · have q1 : A.own k o = _ := q1
        rw [ho'] at q1; cases q1
  · subst h4
    refine Rd.mk_list h6 h3 fun hne => ⟨g, 0, rfl, fun i row hi j d hj => ?_⟩
    obtain ⟨x, hx, hr⟩ := h9 i row hi j d hj
    have hin := (row_in h3 hi hj).2.2
    refine ⟨x, .inr ⟨rfl, by simpa using hin⟩, ?_, hr.step (fun _ _ h => .inl h) fun _ _ _ => rfl⟩
    simp [World.cell?, h5, hx]

/-- What stays the same of a frame and of memory while results are taken in. -/
structure Took (w0 : World) (S : Sp) (w : World) (A : As) (fr : Fr) (A' : As) (fr' : Fr) (bl : List Nat) (d j : Nat) : Prop where
  upd : Upd w0 S w A fr w A' fr' (fun _ _ => False)
  free : ∀ g, g ∉ bl → FreeB w0 A g → FreeB w0 A' g
  bx : ∀ q, q ≤ j → fr'.bx (key d q) = fr.bx (key d q)
  tk : ∀ q, q ≤ j → fr'.tk (key d q) = fr.tk (key d q)
theorem Took.refl (bl : List Nat) (d j : Nat) : Took w0 S w A fr A fr bl d j :=
  ⟨⟨Keep.refl _ _, fun _ _ h => h.elim, fun _ _ _ h => h, rfl, fun _ _ h => h, fun _ _ _ _ => rfl, fun s b hb => ⟨b, hb, .inr ⟨rfl, rfl⟩⟩, fun t k hk => ⟨k, hk, .inr ⟨rfl, rfl, rfl, rfl, rfl⟩⟩⟩, fun _ _ h => h, fun _ _ => rfl, fun _ _ => rfl⟩
theorem Upd.trans {w1 w2 : World} {A1 A2 : As} {f1 f2 : Fr} (u : Upd w0 S w A fr w A1 f1 (fun _ _ => False)) (v : Upd w0 S w A1 f1 w A2 f2 (fun _ _ => False)) : Upd w0 S w A fr w A2 f2 (fun _ _ => False) := by
  refine ⟨Keep.refl _ _, fun _ _ h => h.elim, fun _ _ _ h => h, v.tm.trans u.tm, fun k o h => v.im k o (u.im k o h), fun k o hk hn => ?_, fun s b hb => ?_, fun t k hk => ?_⟩
  · have e1 := u.own k o hk hn
    exact (v.own k o hk (hn.imp (fun h => by rw [e1]; exact h) (u.im k o))).trans e1
  · obtain ⟨b1, h1, h2⟩ := u.bx s b hb
    obtain ⟨b2, h3, h4⟩ := v.bx s b1 h1
    refine ⟨b2, h3, ?_⟩
    rcases h2 with h2 | ⟨h2, h2'⟩ <;> rcases h4 with h4 | ⟨h4, h4'⟩
    · exact .inl (by omega)
    · exact .inl (by omega)
    · exact .inl (by omega)
    · exact .inr ⟨by omega, h4'.trans h2'⟩
  · obtain ⟨b1, h1, h2⟩ := u.tk t k hk
    obtain ⟨b2, h3, h4⟩ := v.tk t b1 h1
    refine ⟨b2, h3, ?_⟩
    rcases h2 with h2 | ⟨h2, a2, a3, a4, a5⟩ <;> rcases h4 with h4 | ⟨h4, b2, b3, b4, b5⟩
    · exact .inl (by omega)
    · exact .inl (by omega)
    · exact .inl (by omega)
    · exact .inr ⟨by omega, b2.trans a2, b3.trans a3, b4.trans a4, b5.trans a5⟩
theorem Took.trans {A1 A2 : As} {f1 f2 : Fr} {b1 b2 bl : List Nat} {d j1 j2 : Nat} (u : Took w0 S w A fr A1 f1 b1 d j1) (v : Took w0 S w A1 f1 A2 f2 b2 d j2) (h1 : ∀ g ∈ b1, g ∈ bl) (h2 : ∀ g ∈ b2, g ∈ bl) (hj : j2 ≤ j1) : Took w0 S w A fr A2 f2 bl d j2 :=
  ⟨Upd.trans (w1 := w) (w2 := w) u.upd v.upd, fun g hg hf => v.free g (fun h => hg (h2 g h)) (u.free g (fun h => hg (h1 g h)) hf), fun q hq => (v.bx q hq).trans (u.bx q (by omega)), fun q hq => (v.tk q hq).trans (u.tk q (by omega))⟩

theorem key_ne {d a b : Nat} (h : a ≠ b) : key d a ≠ key d b := by simp only [key]; omega

theorem FreeB.newTok {t : Nat} {v : Value} {y : Option Nat} {g : Nat} (h : FreeB w0 A g) (hg : y ≠ some g) : FreeB w0 (A.newTok t v y) g :=
  ⟨h.1, fun o => by simp only [As.newTok]; rw [if_neg hg]; exact h.2.1 o, h.2.2⟩
theorem FreeB.newBox {s x g : Nat} (h : FreeB w0 A g) (hg : g ≠ x) : FreeB w0 (A.newBox s x) g :=
  ⟨h.1, fun o => by simp only [As.newBox]; rw [if_neg hg]; exact h.2.1 o, h.2.2⟩

/-- The cells of a value that a call returns. 'f0': the frame by which counts were taken. -/
theorem resCs_ok {α : Type} {X : Env} {f0 : Fr} {d g : Nat} {kp : Bool} {r : List D} {w' : World} {B : Nat} {Im : Pl} (hB : w0.heap.size ≤ B) : ∀ (n j : Nat) {K : List C → List (Nat × Tk) → Option α} {res : α}, resCs X f0 d g kp r j n K = some res →
    ∃ cs ks, (∀ (β : Type) (K' : List C → List (Nat × Tk) → Option β), resCs X f0 d g kp r j n K' = K' cs ks) ∧ K cs ks = some res ∧ cs.length = n ∧
      ∀ (nt : Nat) (S : Sp) (A : As) (fr : Fr) (tmps : Array Value) (ds : List D) (us : List Value) (bl : List Nat), St nt w0 S w' A fr tmps → ds.length = n → CellsOk X.P w' Im B (X.H g).fresh j ds us bl → (∀ (i : Nat) (x : D), ds[i]? = some x → r[j + i]? = some x) → (∀ k o, Im k o → A.Im k o) →
        (∀ q, j < q → q ≤ j + n → nextT fr (key d q) = nextT f0 (key d q)) → bl.Nodup → (∀ g ∈ bl, FreeB w0 A g) →
        ∃ A', Took w0 S w' A fr A' { fr with tk := upds fr.tk ks } bl d j ∧ St nt w0 S w' A' { fr with tk := upds fr.tk ks } tmps ∧ RCs { fr with tk := upds fr.tk ks } w' A' cs us := by
  intro n
  induction n with
  | zero =>
    intro j K res h
    refine ⟨[], [], fun _ _ => rfl, h, rfl, fun nt S A fr tmps ds us bl hst hl hc hr hIm hq hnd hfr => ?_⟩
    have : ds = [] := List.length_eq_zero_iff.1 hl
    subst this
    cases hc
    exact ⟨A, Took.refl _ _ _, hst, ⟨rfl, fun j c v h => by simp at h⟩⟩
  | succ n ih =>
    intro j K res h
    simp only [resCs] at h
    obtain ⟨cs, ks, hK, h, hcl, hsem⟩ := ih (j + 1) h
    -- the cell taken as data
    have plain : ∀ (hK' : ∀ (β : Type) (K' : List C → List (Nat × Tk) → Option β), resCs X f0 d g kp r j (n + 1) K' = K' (.d (r.getD j .bad) :: cs) ks), K (.d (r.getD j .bad) :: cs) ks = some res →
        ∃ cs ks, (∀ (β : Type) (K' : List C → List (Nat × Tk) → Option β), resCs X f0 d g kp r j (n + 1) K' = K' cs ks) ∧ K cs ks = some res ∧ cs.length = n + 1 ∧
          ∀ (nt : Nat) (S : Sp) (A : As) (fr : Fr) (tmps : Array Value) (ds : List D) (us : List Value) (bl : List Nat), St nt w0 S w' A fr tmps → ds.length = n + 1 → CellsOk X.P w' Im B (X.H g).fresh j ds us bl → (∀ (i : Nat) (x : D), ds[i]? = some x → r[j + i]? = some x) → (∀ k o, Im k o → A.Im k o) →
            (∀ q, j < q → q ≤ j + (n + 1) → nextT fr (key d q) = nextT f0 (key d q)) → bl.Nodup → (∀ g ∈ bl, FreeB w0 A g) →
            ∃ A', Took w0 S w' A fr A' { fr with tk := upds fr.tk ks } bl d j ∧ St nt w0 S w' A' { fr with tk := upds fr.tk ks } tmps ∧ RCs { fr with tk := upds fr.tk ks } w' A' cs us := by
      intro hK' hh
      refine ⟨_, ks, hK', hh, by simp [hcl], fun nt S A fr tmps ds us bl hst hl hc hr hIm hq hnd hfr => ?_⟩
      cases hc with
      | nil => simp at hl
      | @cons _ x u b ds us bl' hx hs =>
        have hget : r.getD j .bad = x := by have := hr 0 x rfl; simp at this; simp [List.getD, this]
        obtain ⟨hn1, hn2, hdis⟩ := List.nodup_append.1 hnd
        obtain ⟨A1, t1, s1, c1⟩ := hsem nt S A fr tmps ds us bl' hst (by simpa using hl) hs (fun i x hi => by rw [Nat.add_assoc, Nat.add_comm 1]; exact hr (i + 1) x (by simpa using hi)) hIm (fun q h1 h2 => hq q (by omega) (by omega)) hn2 fun g hg => hfr g (List.mem_append_right _ hg)
        rw [hget]
        have cons : ∀ {A2 : As}, Upd w0 S w' A1 { fr with tk := upds fr.tk ks } w' A2 { fr with tk := upds fr.tk ks } (fun _ _ => False) → Rd w' A2.Im x u → RCs { fr with tk := upds fr.tk ks } w' A2 (.d x :: cs) (u :: us) := fun u2 hrd => by
          refine ⟨by simp [c1.1], fun q c v q1 q2 => ?_⟩
          cases q with
          | zero => simp at q1 q2; subst q1 q2; exact ⟨hrd.one, hrd⟩
          | succ q => exact u2.rc s1 (c1.2 q c v (by simpa using q1) (by simpa using q2))
        cases hx' : look j (X.H g).fresh with
        | none =>
          rw [hx'] at hx
          cases hx with
          | plain _ _ hrd =>
            refine ⟨A1, ⟨t1.upd, fun y hy => t1.free y fun hm => hy (List.mem_append_right _ hm), fun q hq => t1.bx q (by omega), fun q hq => t1.tk q (by omega)⟩, s1, cons (Took.refl (bl := []) (d := 0) (j := 0)).upd (hrd.step (fun k o hi => t1.upd.im k o (hIm k o hi)) fun _ _ _ => rfl)⟩
        | some e =>
          rw [hx'] at hx
          cases hx with
          | empty _ n' a =>
            exact ⟨A1, ⟨t1.upd, fun y hy => t1.free y fun hm => hy (List.mem_append_right _ hm), fun q hq => t1.bx q (by omega), fun q hq => t1.tk q (by omega)⟩, s1, cons (Took.refl (bl := []) (d := 0) (j := 0)).upd (Rd.mk_list (rows := []) (Nat.zero_le _) (fun _ h => by cases h) fun h => absurd rfl h)⟩
          | fresh _ rows _ y hrel =>
            have hy : FreeB w0 A1 y := t1.free y (fun hm => hdis y (by simp) y hm rfl) (hfr y (by simp))
            have hrel' : TokRel w' A1.Im B ⟨0, false, e, sz X.P e, rows⟩ u (some y) := by
              obtain ⟨q1, q2, q3, cap, cur, q4, q5, q6, q7, q8, q9⟩ := hrel
              exact ⟨q1, q2, q3, cap, cur, q4, q5, q6, q7, q8, fun i row hi j d hj => by obtain ⟨u, r1, r2⟩ := q9 i row hi j d hj; exact ⟨u, r1, r2.step (fun k o hi => t1.upd.im k o (hIm k o hi)) fun _ _ _ => rfl⟩⟩
            obtain ⟨u2, s2, hrd⟩ := s1.adoptIm y hy hrel' _ rfl
            refine ⟨_, t1.trans (b2 := [y]) (j2 := j) ⟨u2, fun z hz hf => ⟨hf.1, hf.2.1, fun o ho => ho.elim (hf.2.2 o) fun hh => hz (by simp [hh.1])⟩, fun _ _ => rfl, fun _ _ => rfl⟩ (fun z hz => List.mem_append_right _ hz) (fun z hz => List.mem_append_left _ hz) (by omega), s2, cons u2 hrd⟩
    cases hkp : kp with
    | false =>
      subst hkp
      simp only [cond_false] at h
      exact plain (fun β K' => by simp only [resCs, cond_false]; rw [hK]) h
    | true =>
      subst hkp
      simp only [cond_true] at h
      cases hlk : look j (X.H g).fresh with
      | none =>
        simp only [hlk] at h
        exact plain (fun β K' => by simp only [resCs, cond_true, hlk]; rw [hK]) h
      | some e =>
        simp only [hlk] at h
        replace h := takeL_some h; obtain ⟨n', rows, hrw, hn', h⟩ := h
        refine ⟨_, _, fun β K' => by simp only [resCs, cond_true, hlk]; rw [hK, hrw]; simp only [takeL, if_pos hn'], h, by simp [hcl], fun nt S A fr tmps ds us bl hst hl hc hr hIm hq hnd hfr => ?_⟩
        cases hc with
        | nil => simp at hl
        | @cons _ x u b ds us bl' hx hs =>
          have hget : r.getD j .bad = x := by have := hr 0 x rfl; simp at this; simp [List.getD, this]
          obtain ⟨hn1, hn2, hdis⟩ := List.nodup_append.1 hnd
          obtain ⟨A1, t1, s1, c1⟩ := hsem nt S A fr tmps ds us bl' hst (by simpa using hl) hs (fun i x hi => by rw [Nat.add_assoc, Nat.add_comm 1]; exact hr (i + 1) x (by simpa using hi)) hIm (fun q h1 h2 => hq q (by omega) (by omega)) hn2 fun g hg => hfr g (List.mem_append_right _ hg)
          rw [hlk] at hx
          have hkt : (upds fr.tk ks) (key d (j + 1)) = fr.tk (key d (j + 1)) := t1.tk (j + 1) (Nat.le_refl _)
          have hep : ∀ z, (upds fr.tk ks) (key d (j + 1)) = some z → z.e < nextT f0 (key d (j + 1)) := fun z hz => by
            rw [← hq (j + 1) (by omega) (by omega)]
            exact nextT_lt (by rw [← hkt]; exact hz)
          have fin : ∀ (og : Option Nat) (rows' : List (List D)), rows' = rows → TokRel w' A1.Im w0.heap.size ⟨nextT f0 (key d (j + 1)), false, e, sz X.P e, rows'⟩ u og → (∀ y, og = some y → FreeB w0 A1 y ∧ y ∈ b ++ bl') →
              ∃ A', Took w0 S w' A fr A' { fr with tk := upds fr.tk ((key d (j + 1), ⟨nextT f0 (key d (j + 1)), false, e, sz X.P e, rows⟩) :: ks) } (b ++ bl') d j ∧ St nt w0 S w' A' { fr with tk := upds fr.tk ((key d (j + 1), ⟨nextT f0 (key d (j + 1)), false, e, sz X.P e, rows⟩) :: ks) } tmps ∧
                RCs { fr with tk := upds fr.tk ((key d (j + 1), ⟨nextT f0 (key d (j + 1)), false, e, sz X.P e, rows⟩) :: ks) } w' A' (.own (key d (j + 1)) (nextT f0 (key d (j + 1))) :: cs) (u :: us) := by
            intro og rows' hrows htr hfo
            subst hrows
            obtain ⟨u2, s2, hrc⟩ := s1.adoptTok (key d (j + 1)) ⟨nextT f0 (key d (j + 1)), false, e, sz X.P e, rows'⟩ u og hep rfl (fun y hy => (hfo y hy).1.2.1) (fun y hy => (hfo y hy).1.2.2) htr _ rfl
            refine ⟨_, t1.trans (b2 := og.toList) (j2 := j) ⟨u2, fun z hz hf => hf.newTok fun e => hz (by simp [e]), fun _ _ => rfl, fun q hq => upd_ne _ _ (key_ne (by omega))⟩ (fun z hz => List.mem_append_right _ hz) (fun z hz => (hfo z (by simpa using hz)).2) (by omega), s2, ?_⟩
            refine ⟨by simp [c1.1], fun q c v q1 q2 => ?_⟩
            cases q with
            | zero => simp at q1 q2; subst q1 q2; exact hrc
            | succ q => exact u2.rc s1 (c1.2 q c v (by simpa using q1) (by simpa using q2))
          rw [hget] at hrw
          cases hx with
          | empty _ n2 a =>
            injection hrw with _ hrw
            exact fin none [] hrw ⟨rfl, a, rfl⟩ fun y hy => by cases hy
          | fresh _ rows2 _ y hrel =>
            injection hrw with _ hrw
            have hy : FreeB w0 A1 y := t1.free y (fun hm => hdis y (by simp) y hm rfl) (hfr y (by simp))
            refine fin (some y) rows2 hrw ?_ fun z hz => by injection hz with hz; subst hz; exact ⟨hy, by simp⟩
            obtain ⟨q1, q2, q3, cap, cur, q4, q5, q6, q7, q8, q9⟩ := hrel
            exact ⟨q1, Nat.le_trans hB q2, q3, cap, cur, q4, q5, q6, q7, q8, fun i row hi j d hj => by obtain ⟨u, r1, r2⟩ := q9 i row hi j d hj; exact ⟨u, r1, r2.step (fun k o hi => t1.upd.im k o (hIm k o hi)) fun _ _ _ => rfl⟩⟩

end Go.Vm

/- Results of every type; a call as the evaluator has it. -/
set_option linter.unusedVariables false
set_option linter.unusedSimpArgs false
namespace Go.Vm

variable {nt : Nat} {w0 : World} {S : Sp} {w : World} {A : As} {fr : Fr} {tmps : Array Value} {P : Program}

def RVs (fr : Fr) (w : World) (A : As) (xs : List V) (us : List Value) : Prop := us.length = xs.length ∧ ∀ (i : Nat) (x : V) (u : Value), xs[i]? = some x → us[i]? = some u → RV fr w A x u
theorem RVs.cons {x : V} {u : Value} {xs : List V} {us : List Value} (h : RV fr w A x u) (hs : RVs fr w A xs us) : RVs fr w A (x :: xs) (u :: us) := by
  refine ⟨by simp [hs.1], fun i y v h1 h2 => ?_⟩
  cases i with
  | zero => simp at h1 h2; subst h1 h2; exact h
  | succ i => exact hs.2 i y v (by simpa using h1) (by simpa using h2)
theorem RVs.upd {w' : World} {A' : As} {fr' : Fr} {T : Pl} {xs : List V} {us : List Value} (h : RVs fr w A xs us) (hst : St nt w0 S w A fr tmps) (u : Upd w0 S w A fr w' A' fr' T) : RVs fr' w' A' xs us := ⟨h.1, fun i x v h1 h2 => u.rv hst (h.2 i x v h1 h2)⟩

theorem resV_ok {α : Type} {X : Env} {f0 : Fr} {d g : Nat} {kp : Bool} {r : List D} {w' : World} {B : Nat} {Im : Pl} (hB : w0.heap.size ≤ B) : ∀ (ts : List TypeId) (j : Nat) {K : List V → List (Nat × Bx) → List (Nat × Tk) → Option α} {res : α}, resV X f0 d g kp r j ts K = some res →
    ∃ vs bs ks, (∀ (β : Type) (K' : List V → List (Nat × Bx) → List (Nat × Tk) → Option β), resV X f0 d g kp r j ts K' = K' vs bs ks) ∧ K vs bs ks = some res ∧
      ∀ (nt : Nat) (S : Sp) (A : As) (fr : Fr) (tmps : Array Value) (ds : List D) (us : List Value) (bl : List Nat), St nt w0 S w' A fr tmps → ResOk X.P w' Im B (X.H g).fresh j ts ds us bl → (∀ (i : Nat) (x : D), ds[i]? = some x → r[j + i]? = some x) → (∀ k o, Im k o → A.Im k o) →
        (∀ q, j < q → nextT fr (key d q) = nextT f0 (key d q) ∧ nextB fr (key d q) = nextB f0 (key d q)) → bl.Nodup → (∀ g ∈ bl, FreeB w0 A g) →
        ∃ A', Took w0 S w' A fr A' { fr with bx := upds fr.bx bs, tk := upds fr.tk ks } bl d j ∧ St nt w0 S w' A' { fr with bx := upds fr.bx bs, tk := upds fr.tk ks } tmps ∧ RVs { fr with bx := upds fr.bx bs, tk := upds fr.tk ks } w' A' vs us := by
  intro ts
  induction ts with
  | nil =>
    intro j K res h
    refine ⟨[], [], [], fun _ _ => rfl, h, fun nt S A fr tmps ds us bl hst hc hr hIm hq hnd hfr => ?_⟩
    cases hc
    exact ⟨A, Took.refl _ _ _, hst, ⟨rfl, fun j c v h => by simp at h⟩⟩
  | cons t ts ih =>
    intro j K res h
    simp only [resV] at h
    split at h
    · rename_i e he
      replace h := bif_not h; obtain ⟨hz0, h⟩ := h
      have hz := beq_false hz0
      obtain ⟨vs, bs, ks, hK, h, hsem⟩ := ih _ h
      refine ⟨_, _, ks, fun β K' => by simp only [resV, he, hz0, cond_false]; rw [hK], h, fun nt S A fr tmps ds us bl hst hc hr hIm hq hnd hfr => ?_⟩
      cases hc with
      | val h1 _ _ _ _ => rw [he] at h1; cases h1
      | @ptr _ _ e' _ cs ds y us bl h1 hl hg hc hs =>
        rw [he] at h1; injection h1 with h1; subst h1
        obtain ⟨hn1, hn2⟩ := List.nodup_cons.1 hnd
        obtain ⟨A1, t1, s1, c1⟩ := hsem nt S A fr tmps ds us bl hst hs (fun i x hi => by rw [Nat.add_assoc, ← hl]; exact hr (cs.length + i) x (by rw [List.getElem?_append_right (by omega), Nat.add_sub_cancel_left]; exact hi)) hIm (fun q h1 => hq q (by omega)) hn2 fun g hg => hfr g (List.mem_cons_of_mem _ hg)
        have hy : FreeB w0 A1 y := t1.free y hn1 (hfr y List.mem_cons_self)
        have hcs : ((List.range (sz X.P e)).map fun i => C.d (r.getD (j + i) .bad)) = cs.map .d := by
          apply List.ext_getElem?
          intro q
          by_cases hq' : q < cs.length
          · have := hr q _ (by rw [List.getElem?_append_left hq']; exact List.getElem?_eq_getElem hq')
            rw [List.getElem?_map, List.getElem?_range (by omega), List.getElem?_map, List.getElem?_eq_getElem hq']
            simp [List.getD, this]
          · rw [List.getElem?_eq_none (by simp; omega), List.getElem?_eq_none (by simp; omega)]
        have hbx : (upds fr.bx bs) (key d (j + 1)) = fr.bx (key d (j + 1)) := t1.bx (j + 1) (by omega)
        obtain ⟨u2, s2, hrv⟩ := s1.adoptBox (key d (j + 1)) (nextB f0 (key d (j + 1))) y cs (by omega) hy.1 hy.2.1 hy.2.2 (fun b hb => by
          have hb' : fr.bx (key d (j + 1)) = some b := hbx.symm.trans hb
          rw [← (hq (j + 1) (by omega)).2]; exact nextB_lt hb') (fun q x hx => by
            obtain ⟨h1, u, h2, h3⟩ := hc q x hx
            exact ⟨h1, u, h2, h3.step (fun k o hi => t1.upd.im k o (hIm k o hi)) fun _ _ _ => rfl⟩) _ rfl
        rw [hcs]
        refine ⟨_, t1.trans (b2 := [y]) (j2 := j) ⟨u2, fun z hz hf => hf.newBox fun e => hz (by simp [e]), fun q hq' => upd_ne _ _ (key_ne (by omega)), fun _ _ => rfl⟩ (fun z hz => List.mem_cons_of_mem _ hz) (fun z hz => by simp at hz; simp [hz]) (by omega), s2, ?_⟩
        exact RVs.cons hrv (c1.upd s1 u2)
    · rename_i he
      obtain ⟨vs, bs, ks, hK, h, hsem⟩ := ih _ h
      obtain ⟨cs', ks', hK2, h, hcl, hsem2⟩ := resCs_ok (w' := w') (Im := Im) hB _ _ h
      refine ⟨_, bs, _, fun β K' => by simp only [resV, he]; rw [hK, hK2], h, fun nt S A fr tmps ds us bl hst hc hr hIm hq hnd hfr => ?_⟩
      cases hc with
      | ptr h1 _ _ _ _ => rw [he] at h1; cases h1
      | @val _ _ _ cs ds us1 us2 b1 bl2 h1 hok hl hcs hs =>
        obtain ⟨hn1, hn2, hdis⟩ := List.nodup_append.1 hnd
        obtain ⟨A1, t1, s1, c1⟩ := hsem nt S A fr tmps ds us2 bl2 hst hs (fun i x hi => by rw [Nat.add_assoc, ← hl]; exact hr (cs.length + i) x (by rw [List.getElem?_append_right (by omega), Nat.add_sub_cancel_left]; exact hi)) hIm (fun q h1 => hq q (by omega)) hn2 fun g hg => hfr g (List.mem_append_right _ hg)
        obtain ⟨A2, t2, s2, c2⟩ := hsem2 nt S A1 { fr with bx := upds fr.bx bs, tk := upds fr.tk ks } tmps cs us1 b1 s1 hl hcs (fun i x hi => hr i x (by rw [List.getElem?_append_left (List.getElem?_eq_some_iff.1 hi).1]; exact hi)) (fun k o hi => t1.upd.im k o (hIm k o hi)) (fun q q1 q2 => by rw [← (hq q q1).1]; simp only [nextT]; rw [show (upds fr.tk ks) (key d q) = fr.tk (key d q) from t1.tk q q2]) hn1 fun y hy => t1.free y (fun hm => hdis y hy y hm rfl) (hfr y (List.mem_append_left _ hy))
        have e1 : ({ fr with bx := upds fr.bx bs, tk := upds fr.tk (ks' ++ ks) } : Fr) = { ({ fr with bx := upds fr.bx bs, tk := upds fr.tk ks } : Fr) with tk := upds (upds fr.tk ks) ks' } := by rw [upds_append]
        rw [e1]
        refine ⟨A2, t1.trans t2 (fun z hz => List.mem_append_right _ hz) (fun z hz => List.mem_append_left _ hz) (by omega), s2, RVs.cons ?_ (c1.upd s1 t2.upd)⟩
        exact RV.ofCells hok (by rw [hcl]) c2


theorem regOf_congr {A' : As} {fr' : Fr} (h1 : A'.β = A.β) (h2 : A'.ω = A.ω) (h3 : ∀ t, (fr'.tk t).map (·.esz) = (fr.tk t).map (·.esz)) (r : Ref) : regOf A' fr' r = regOf A fr r := by
  cases r <;> simp [regOf, h1, h2, h3]
theorem writeB_congr {fr' : Fr} {r : List D} : ∀ (rs : List Ref) (m : Nat), (∀ x ∈ rs, match x with | .b s .. => fr'.bx s = fr.bx s | .t k .. => fr'.tk k = fr.tk k) → writeB fr' r m rs = writeB fr r m rs
  | [], m, h => rfl
  | .b s e off n :: rs, m, h => by
    have h0 : fr'.bx s = fr.bx s := h _ List.mem_cons_self
    simp only [writeB, h0, writeB_congr rs (m + n) fun x hx => h x (List.mem_cons_of_mem _ hx)]
  | .t k e i off n :: rs, m, h => by
    have h0 : fr'.tk k = fr.tk k := h _ List.mem_cons_self
    simp only [writeB, h0, writeB_congr rs (m + n) fun x hx => h x (List.mem_cons_of_mem _ hx)]

theorem Rd.scalar {Im Im' : Pl} {w' : World} {d : D} {v : Value} (h : Rd w Im d v) (hs : scalar d = true) : Rd w' Im' d v := by
  cases h with
  | bool b => exact .bool b
  | int k n => exact .int k n
  | str s => exact .str s
  | fn f => exact .fn f
  | nilp => exact .nilp
  | list => cases hs
theorem CellsOk.flat {Im Im' : Pl} {B : Nat} {F : List (Nat × TypeId)} {j : Nat} {ds : List D} {us : List Value} {bl : List Nat} (h : CellsOk P w Im B F j ds us bl) (hs : ds.all Vm.scalar = true) : CellsOk P w Im' B F j ds us bl ∧ bl = [] := by
  induction h with
  | nil j => exact ⟨.nil j, rfl⟩
  | @cons j d u b ds us bl hx _ ih =>
    simp only [List.all_cons, Bool.and_eq_true] at hs
    obtain ⟨h1, rfl⟩ := ih hs.2
    revert hx
    intro hx
    have : CellOk P w Im' B (look j F) d u b ∧ b = [] := by
      revert hx
      generalize look j F = o
      intro hx
      cases hx with
      | plain _ _ h => exact ⟨.plain _ _ (h.scalar hs.1), rfl⟩
      | empty e n a => cases hs.1
      | fresh e rows u g h => cases hs.1
    obtain ⟨h2, rfl⟩ := this
    exact ⟨.cons h2 h1, rfl⟩
theorem flat_ptr {t : TypeId} (h : flatT P t = true) : isPtrT P t = none := by
  unfold flatT flatF at h
  unfold isPtrT
  split at h <;> simp_all
theorem ResOk.flat {Im Im' : Pl} {B : Nat} {F : List (Nat × TypeId)} {j : Nat} {ts : List TypeId} {ds : List D} {us : List Value} {bl : List Nat} (h : ResOk P w Im B F j ts ds us bl) (ht : ts.all (flatT P) = true) (hs : ds.all Vm.scalar = true) : ResOk P w Im' B F j ts ds us bl ∧ bl = [] := by
  induction h with
  | nil j => exact ⟨.nil j, rfl⟩
  | ptr h1 _ _ _ _ _ =>
    simp only [List.all_cons, Bool.and_eq_true] at ht
    rw [flat_ptr ht.1] at h1; cases h1
  | val h1 hok hl hc _ ih =>
    simp only [List.all_cons, Bool.and_eq_true] at ht
    simp only [List.all_append, Bool.and_eq_true] at hs
    obtain ⟨q1, rfl⟩ := ih ht.2 hs.2
    obtain ⟨q2, rfl⟩ := hc.flat (Im' := Im') hs.1
    exact ⟨.val h1 hok hl q2 q1, rfl⟩
theorem args_noref {Im : Pl} {as : List Arg} {ts : List PK} {us : List Value} {gs : List Reg} (h : ArgsOk P w Im as ts us gs) (hg : gs = []) : ts.all (fun k => k.ref.isNone) = true := by
  induction h with
  | nil => rfl
  | cons h1 _ _ ih =>
    have hg' := List.append_eq_nil_iff.1 hg
    cases h1 with
    | v => simp only [List.all_cons, ih hg'.2, Bool.and_true]; rfl
    | w => simp only [List.all_cons, ih hg'.2, Bool.and_true]; rfl
    | f => simp only [List.all_cons, ih hg'.2, Bool.and_true]; rfl
    | n => simp only [List.all_cons, ih hg'.2, Bool.and_true]; rfl
    | r => cases hg'.1
theorem resLen {Im : Pl} {B : Nat} {F : List (Nat × TypeId)} {j : Nat} {ts : List TypeId} {ds : List D} {us : List Value} {bl : List Nat} (h : ResOk P w Im B F j ts ds us bl) : ds.length = cellsOfTs P ts := by
  induction h with
  | nil j => rfl
  | ptr h1 hl _ _ _ ih => simp only [List.length_append, ih, hl, cellsOfTs, List.map_cons, List.foldr_cons, h1]
  | val h1 hok hl hc _ ih => simp only [List.length_append, ih, hl, cellsOfTs, List.map_cons, List.foldr_cons, h1]

theorem RVs.tup {xs : List V} {us : List Value} (h : RVs fr w A xs us) : RV fr w A (tupX xs) (tupV us) := by
  obtain ⟨hl, h⟩ := h
  match xs, us, hl with
  | [x], [u], _ => exact h 0 x u rfl rfl
  | [], [], _ => exact .tup [] #[] rfl fun j x v h1 => by simp at h1
  | x :: y :: xs, u :: v :: us, hl => exact .tup _ _ (by simpa using hl) fun j x v h1 h2 => h j x v h1 (by simpa using h2)

theorem cellsBl {Im : Pl} {B : Nat} {F : List (Nat × TypeId)} {j : Nat} {ds : List D} {us : List Value} {bl : List Nat} (h : CellsOk P w Im B F j ds us bl) : ∀ y ∈ bl, B ≤ y := by
  induction h with
  | nil j => intro y hy; cases hy
  | @cons j d u b ds us bl hx _ ih =>
    intro y hy
    rcases List.mem_append.1 hy with hy | hy
    · revert hx
      generalize look j F = o
      intro hx
      cases hx with
      | plain _ _ h => cases hy
      | empty e n a => cases hy
      | fresh e rows u g h =>
        have : y = g := by simpa using hy
        subst this
        exact h.2.1
    · exact ih y hy
theorem resBl {Im : Pl} {B : Nat} {F : List (Nat × TypeId)} {j : Nat} {ts : List TypeId} {ds : List D} {us : List Value} {bl : List Nat} (h : ResOk P w Im B F j ts ds us bl) : ∀ y ∈ bl, B ≤ y := by
  induction h with
  | nil j => intro y hy; cases hy
  | ptr _ _ hg _ _ ih =>
    intro y hy
    rcases List.mem_cons.1 hy with rfl | hy
    · exact hg
    · exact ih y hy
  | val _ _ _ hc _ ih =>
    intro y hy
    rcases List.mem_append.1 hy with hy | hy
    · exact cellsBl hc y hy
    · exact ih y hy

theorem ImF_tok (h : St nt w0 S w A fr tmps) {ks : List Nat} : ∀ k o, ImF A fr ks k o → ∃ u, w.cell? (at_ k o) = some u := fun k o hi => by
  obtain ⟨_, h1⟩ := h.freeze ks _ rfl
  exact (h1.im k o hi).cell

theorem eqNats_eq : ∀ {a b : List Nat}, eqNats a b = true → a = b
  | [], [], _ => rfl
  | [], _ :: _, h => by cases h
  | _ :: _, [], h => by cases h
  | a :: as, b :: bs, h => by
    simp only [eqNats, Bool.and_eq_true, Nat.beq_eq] at h
    rw [h.1, eqNats_eq h.2]
theorem range'_get : ∀ {n a j q : Nat}, (range' a n)[j]? = some q → q = a + j ∧ j < n
  | 0, a, j, q, h => by simp [range'] at h
  | n + 1, a, 0, q, h => by
    simp only [range', List.getElem?_cons_zero, Option.some.injEq] at h
    omega
  | n + 1, a, j + 1, q, h => by
    simp only [range', List.getElem?_cons_succ] at h
    have := range'_get h
    omega
theorem range'_len : ∀ {n a : Nat}, (range' a n).length = n
  | 0, _ => rfl
  | n + 1, a => by simp [range', range'_len]
theorem capV_rv {c : Cap} {u : Value} (h : CapR fr w A c u) : RV fr w A (capV c) u := by
  cases c with
  | d x => exact .one _ _ ⟨h.one, h⟩
  | p s e =>
    obtain ⟨⟨g, o, rfl⟩, hh⟩ := h
    exact .one _ _ ⟨rfl, ⟨g, o, rfl⟩, hh⟩
theorem RVs.append {xs ys : List V} {us vs : List Value} (h : RVs fr w A xs us) (h' : RVs fr w A ys vs) : RVs fr w A (xs ++ ys) (us ++ vs) := by
  refine ⟨by simp [h.1, h'.1], fun i x u h1 h2 => ?_⟩
  by_cases hi : i < xs.length
  · rw [List.getElem?_append_left hi] at h1
    rw [List.getElem?_append_left (by rw [h.1]; exact hi)] at h2
    exact h.2 i x u h1 h2
  · rw [List.getElem?_append_right (by omega)] at h1
    rw [List.getElem?_append_right (by rw [h.1]; omega), h.1] at h2
    exact h'.2 _ x u h1 h2
theorem caps_rv : ∀ {caps : List Cap} {us : List Value}, us.length = caps.length → (∀ (j : Nat) (c : Cap) (u : Value), caps[j]? = some c → us[j]? = some u → CapR fr w A c u) → RVs fr w A (caps.map capV) us := fun {caps us} hl h => by
  refine ⟨by simpa using hl, fun i x u h1 h2 => ?_⟩
  rw [List.getElem?_map] at h1
  obtain ⟨c, hc, rfl⟩ := Option.map_eq_some_iff.1 h1
  exact capV_rv (h i c u hc h2)
/-- What is captured comes behind the arguments. -/
theorem fullX_ok : ∀ {p : Nat} {vs : List V} {ks : List PK} {ex : List V} {us : List Value}, fullX p vs ks = some ex → RVs fr w A vs us →
    ∃ exv, RVs fr w A ex exv ∧ ∀ (i : Nat) (g b : FuncId) (ix : List Nat), i < vs.length → ks[i]? = some (.f g b ix) → (∀ g' b' c, vs[i]? = some (.one (.fn g' b' c)) → b' = b) → (∀ b', vs[i]? = some (.one (.d (.fn b'))) → b' = b) →
      ∃ ws : List Value, us[i]? = some (.func (.func b) #[] ws.toArray) ∧ ws.length = ix.length ∧ ∀ (j q : Nat), ix[j]? = some q → ∃ (n : Nat) (u : Value), q = p + n ∧ ws[j]? = some u ∧ exv[n]? = some u
  | p, [], ks, ex, us, h, hr => by
    simp only [fullX, Option.some.injEq] at h
    subst h
    exact ⟨[], ⟨rfl, fun i x u h => by simp at h⟩, fun i g b ix hi => by simp at hi⟩
  | p, v :: vs, [], ex, us, h, hr => by cases h
  | p, v :: vs, k :: ks, ex, us, h, hr => by
    match us, hr with
    | [], hr => have := hr.1; simp at this
    | u :: us, hr =>
      have hr0 : RV fr w A v u := hr.2 0 v u rfl rfl
      have hr1 : RVs fr w A vs us := ⟨by simpa using hr.1, fun i x u h1 h2 => hr.2 (i + 1) x u (by simpa using h1) (by simpa using h2)⟩
      have plain : fullX p vs ks = some ex → (∀ g b ix, k = .f g b ix → (∀ g' b' c, some v = some (.one (.fn g' b' c)) → b' = b) → (∀ b', some v = some (.one (.d (.fn b'))) → b' = b) → ix = [] ∧ u = .func (.func b) #[] #[]) →
          ∃ exv, RVs fr w A ex exv ∧ ∀ (i : Nat) (g b : FuncId) (ix : List Nat), i < (v :: vs).length → (k :: ks)[i]? = some (.f g b ix) → (∀ g' b' c, (v :: vs)[i]? = some (.one (.fn g' b' c)) → b' = b) → (∀ b', (v :: vs)[i]? = some (.one (.d (.fn b'))) → b' = b) →
            ∃ ws : List Value, (u :: us)[i]? = some (.func (.func b) #[] ws.toArray) ∧ ws.length = ix.length ∧ ∀ (j q : Nat), ix[j]? = some q → ∃ (n : Nat) (u : Value), q = p + n ∧ ws[j]? = some u ∧ exv[n]? = some u := fun h hk => by
        obtain ⟨exv, q1, q2⟩ := fullX_ok h hr1
        refine ⟨exv, q1, fun i g b ix hi hki hv1 hv2 => ?_⟩
        cases i with
        | zero =>
          simp only [List.getElem?_cons_zero, Option.some.injEq] at hki
          obtain ⟨rfl, rfl⟩ := hk g b ix hki (fun g' b' c h => hv1 g' b' c h) (fun b' h => hv2 b' h)
          exact ⟨[], rfl, rfl, fun j q h => by simp at h⟩
        | succ i => exact q2 i g b ix (by simpa using hi) (by simpa using hki) (fun g' b' c h => hv1 g' b' c (by simpa using h)) (fun b' h => hv2 b' (by simpa using h))
      cases k with
      | v t => exact plain (by cases v <;> exact h) fun g b ix e => by cases e
      | r t => exact plain (by cases v <;> exact h) fun g b ix e => by cases e
      | w => exact plain (by cases v <;> exact h) fun g b ix e => by cases e
      | n => exact plain (by cases v <;> exact h) fun g b ix e => by cases e
      | f g0 b0 ix0 =>
        simp only [fullX] at h
        split at h
        · rename_i g' b' caps hr2
          replace h := bif_some h; obtain ⟨hix, h⟩ := h
          obtain ⟨ex2, h2, rfl⟩ := Option.map_eq_some_iff.1 h
          obtain ⟨exv, q1, q2⟩ := fullX_ok h2 hr1
          obtain ⟨_, ws, rfl, hwl, hws⟩ := hr0.one_inv
          have hcr := caps_rv hwl hws
          refine ⟨ws ++ exv, hcr.append q1, fun i g b ix hi hki hv1 hv2 => ?_⟩
          cases i with
          | zero =>
            simp only [List.getElem?_cons_zero, Option.some.injEq, PK.f.injEq] at hki
            obtain ⟨rfl, rfl, rfl⟩ := hki
            have hb := hv1 g' b' caps rfl
            subst hb
            have hix := eqNats_eq hix
            subst hix
            refine ⟨ws, rfl, by rw [range'_len, hwl], fun j q hq => ?_⟩
            obtain ⟨rfl, hj⟩ := range'_get hq
            have hjw : j < ws.length := by omega
            exact ⟨j, ws[j], rfl, List.getElem?_eq_getElem hjw, by rw [List.getElem?_append_left hjw]; exact List.getElem?_eq_getElem hjw⟩
          | succ i =>
            obtain ⟨ws2, r1, r2, r3⟩ := q2 i g b ix (by simpa using hi) (by simpa using hki) (fun g' b' c h => hv1 g' b' c (by simpa using h)) (fun b' h => hv2 b' (by simpa using h))
            refine ⟨ws2, by simpa using r1, r2, fun j q hq => ?_⟩
            obtain ⟨n, u, rfl, r4, r5⟩ := r3 j q hq
            exact ⟨caps.length + n, u, by omega, r4, by rw [List.getElem?_append_right (by omega), hwl, Nat.add_sub_cancel_left]; exact r5⟩
        · rename_i b' hr2
          replace h := bif_some h; obtain ⟨hix, h⟩ := h
          simp only [Nat.beq_eq] at hix
          refine plain h fun g b ix e h1 h2 => ?_
          injection e with e1 e2 e3
          subst e1 e2 e3
          have hb := h2 b' rfl
          subst hb
          have := hr0.d_inv
          cases this
          exact ⟨List.length_eq_zero_iff.1 hix, rfl⟩
        · cases h
theorem mkArgs_fn {X : Env} : ∀ {vs : List V} {ks : List PK} {as : List Arg} {rs : List Ref} {k : List Nat}, mkArgs X fr vs ks = some (as, rs, k) → ∀ (i : Nat) (g b : FuncId) (ix : List Nat), ks[i]? = some (.f g b ix) → i < vs.length ∧ (∀ g' b' c, vs[i]? = some (.one (.fn g' b' c)) → b' = b) ∧ (∀ b', vs[i]? = some (.one (.d (.fn b'))) → b' = b)
  | [], [], as, rs, k, h, i, g, b, ix, hi => by simp at hi
  | [], _ :: _, as, rs, k, h, i, g, b, ix, hi => by simp [mkArgs] at h
  | _ :: _, [], as, rs, k, h, i, g, b, ix, hi => by simp at hi
  | v :: vs, t :: ts, as, rs, k, h, i, g, b, ix, hi => by
    simp only [mkArgs] at h
    split at h
    · rename_i a r k1 h1
      split at h
      · rename_i as' rs' k2 h2
        cases i with
        | zero =>
          simp only [List.getElem?_cons_zero, Option.some.injEq] at hi
          subst hi
          refine ⟨by simp, fun g' b' c hv => ?_, fun b' hv => ?_⟩
          · simp only [List.getElem?_cons_zero, Option.some.injEq] at hv
            subst hv
            simp only [mkArg] at h1
            have := (bif_some h1).1
            simp only [Bool.and_eq_true, Nat.beq_eq] at this
            exact this.1.2
          · simp only [List.getElem?_cons_zero, Option.some.injEq] at hv
            subst hv
            simp only [mkArg] at h1
            have := (bif_some h1).1
            simp only [Bool.and_eq_true, Nat.beq_eq] at this
            exact this.1
        | succ i =>
          obtain ⟨q1, q2, q3⟩ := mkArgs_fn h2 i g b ix (by simpa using hi)
          exact ⟨by simpa using q1, fun g' b' c hv => q2 g' b' c (by simpa using hv), fun b' hv => q3 b' (by simpa using hv)⟩
      · cases h
    · cases h
theorem kindsP_len {P : Program} {H : FuncId → Hints} {f : FuncId} : ∀ (ts : List TypeId) (i : Nat), (kindsP P H f i ts).length = ts.length
  | [], _ => rfl
  | t :: ts, i => by simp [kindsP, kindsP_len ts]
theorem kinds_noF {P : Program} {H : FuncId → Hints} {f : FuncId} {fn : Func} (h : (H f).ext.all PK.noF = true) {i : Nat} (hi : nreal H f fn ≤ i) {g b : FuncId} {ix : List Nat} (hk : (kindsOf P H f fn)[i]? = some (.f g b ix)) : False := by
  unfold kindsOf at hk
  unfold nreal at hi
  rw [← List.append_assoc, List.getElem?_append_right (by simp [kindsP_len]; exact hi)] at hk
  have := List.all_eq_true.1 h _ (List.mem_of_getElem? hk)
  cases this
theorem callF_ok {α : Type} {X : Env} {d g : Nat} {args : List V} {K : Eff → Option α} {r0 : α} (h : callF X fr d g args K = some r0) :
    ∃ z, (∀ (β : Type) (K' : Eff → Option β), callF X fr d g args K' = K' z) ∧ K z = some r0 ∧ ∃ fn, X.P.funcs[baseOf X.H g]? = some fn ∧ fn.body.isSome = true ∧
      ∀ (nt : Nat) (w0 : World) (S : Sp) (w : World) (A : As) (tmps : Array Value) (us : List Value), (∀ as r, X.call g as = some r → Con X.P X.H g as r) → St nt w0 S w A fr tmps → RVs fr w A args us →
        Calls X.P (baseOf X.H g) us.toArray w fun e w' => ∃ v A', e = .returned v ∧ St nt w0 S w' A' (fr.mem z) tmps ∧ RV (fr.mem z) w' A' z.v v := by
  unfold callF at h
  split at h
  · cases h
  · rename_i fn hfn
    replace h := bif_not h; obtain ⟨hbody0, h⟩ := h
    have hbody1 := hbody0
    simp only [Bool.or_eq_false_iff, Bool.not_eq_false', Bool.and_eq_true, Nat.beq_eq] at hbody1
    obtain ⟨hbody, hnr, hext⟩ := hbody1
    split at h
    · cases h
    rename_i ex hex
    split at h
    · cases h
    · rename_i as rs ks hm
      replace h := bif_some h; obtain ⟨hd, h⟩ := h
      have hdd := hd
      simp only [Bool.and_eq_true, Bool.not_eq_true'] at hd
      obtain ⟨hdis, hnot⟩ := hd
      have hda : ∀ {γ : Type} (K' : List Arg → Option γ), destrAs X.P (kindsOf X.P X.H g fn) as K' = K' as := destrAs_eq _ _ _ h
      rw [hda] at h
      replace h := obind_some h; obtain ⟨r, hcall, h⟩ := h
      have hdr : ∀ {γ : Type} (K' : List D → Option γ), destrT X.P (answerTs X.P fn.resultTypes.toList (kindsOf X.P X.H g fn)) r K' = K' r := destrT_eq h
      rw [hdr] at h
      have hkk : ∀ x ∈ rs, ∀ t ∈ ks, x.key ≠ 2 * t + 1 := fun x hx t ht e => by
        have : (ks.any fun t => rs.any fun r => Nat.beq r.key (2 * t + 1)) = true := List.any_eq_true.2 ⟨t, ht, List.any_eq_true.2 ⟨x, hx, by rw [e]; exact Nat.beq_refl _⟩⟩
        rw [this] at hnot; cases hnot
      obtain ⟨vs, bs, ts, hK, h, _⟩ := resV_ok (w0 := default) (w' := default) (B := (default : World).heap.size) (Im := fun _ _ => False) (Nat.le_refl _) _ _ h
      refine ⟨_, fun β K' => by simp only [callF, hfn, hbody0, cond_false, hex, hm, hdd, cond_true, hda, obind, hcall, hdr]; rw [hK], h, fn, hfn, by simpa using hbody, fun nt w0 S w A tmps us hcon hst hargs => ?_⟩
      obtain ⟨exv, hexv, hfns⟩ := fullX_ok hex hargs
      have hall := hargs.append hexv
      obtain ⟨hA, hR⟩ := mkArgs_ok (ks := ks) hm hst hall.1 hall.2 (fun t ht => ht) hkk hdis
      have htake : (us ++ exv).take (nreal X.H g fn) = us := by rw [← hnr, ← hargs.1]; simp
      have hF : FnsOk (kindsOf X.P X.H g fn) (us ++ exv) := fun i g' b ix hi => by
        obtain ⟨c1, c2, c3⟩ := mkArgs_fn hm i g' b ix hi
        by_cases hia : i < args.length
        · obtain ⟨ws, r1, r2, r3⟩ := hfns i g' b ix hia hi (fun g2 b' c h => c2 g2 b' c (by rw [List.getElem?_append_left hia]; exact h)) (fun b' h => c3 b' (by rw [List.getElem?_append_left hia]; exact h))
          refine ⟨ws, by rw [List.getElem?_append_left (by rw [hargs.1]; exact hia)]; exact r1, r2, fun j q hq => ?_⟩
          obtain ⟨n, u, rfl, r4, r5⟩ := r3 j q hq
          exact ⟨u, r4, by rw [List.getElem?_append_right (by rw [hargs.1]; omega), hargs.1, Nat.add_sub_cancel_left]; exact r5⟩
        · exfalso
          exact kinds_noF hext (by omega) hi
      have hcc := hcon as r hcall fn hfn w (ImF A fr ks) (us ++ exv) _ hA hF (ImF_tok hst)
      rw [htake] at hcc
      refine hcc.mono ?_
      rintro e w' ⟨v, rfl, Im', vs', bl, ds, qs, rfl, rfl, hres, href, hnd, hbl, hkeep, hi1, hi2, hi3, hflat⟩
      -- what is frozen
      obtain ⟨kf, hkf, hkf2⟩ : ∃ kf, (bif fn.resultTypes.toList.all (flatT X.P) && rs.isEmpty then [] else freeze fr ks) = freeze fr kf ∧ ((fn.resultTypes.toList.all (flatT X.P) && rs.isEmpty) = true ∧ kf = [] ∨ kf = ks) := by
        cases hc : (fn.resultTypes.toList.all (flatT X.P) && rs.isEmpty) with
        | true => exact ⟨[], rfl, .inl ⟨rfl, rfl⟩⟩
        | false => exact ⟨ks, rfl, .inr rfl⟩
      obtain ⟨u1, st1⟩ := hst.freeze kf _ rfl
      have hreg : ∀ x, regOf { A with Im := ImF A fr kf } { fr with tk := upds fr.tk (freeze fr kf) } x = regOf A fr x := regOf_congr rfl rfl fun t => by
        simp only [upds_freeze]
        split
        · rw [Option.map_map]; rfl
        · rfl
      have hkin : ∀ t ∈ kf, t ∈ ks := fun t ht => by
        rcases hkf2 with ⟨_, rfl⟩ | rfl
        · cases ht
        · exact ht
      have htk1 : ∀ x ∈ rs, match x with | .b s .. => ({ fr with tk := upds fr.tk (freeze fr kf) } : Fr).bx s = fr.bx s | .t k .. => ({ fr with tk := upds fr.tk (freeze fr kf) } : Fr).tk k = fr.tk k := fun x hx => by
        cases x with
        | b s e off n => rfl
        | t k e i off n =>
          show upds fr.tk (freeze fr kf) k = fr.tk k
          rw [upds_freeze, if_neg]
          intro hk
          exact hkk _ hx k (hkin k hk) rfl
      have hR1 : ∀ x ∈ rs, RefOk { A with Im := ImF A fr kf } { fr with tk := upds fr.tk (freeze fr kf) } x := fun x hx => by
        have h1 := hR x hx
        have h2 := htk1 x hx
        cases x with
        | b s e off n => exact h1
        | t k e i off n =>
          obtain ⟨y, g, q1, q2⟩ := h1
          exact ⟨y, g, by rw [h2]; exact q1, q2⟩
      -- the places written no more behind the call
      obtain ⟨ImX, x1, x2, x3, x4, x5, x6⟩ : ∃ ImX : Pl, (∀ k o, ImF A fr kf k o → ImX k o) ∧ (∀ k o, ImX k o → ImF A fr kf k o ∨ w.heap.size ≤ k) ∧ (∀ k o, ImX k o → ∃ u, w'.cell? (at_ k o) = some u) ∧
          ResOk X.P w' ImX w.heap.size (X.H g).fresh 0 fn.resultTypes.toList ds vs' bl ∧ RefsOk w' ImX (rs.map (regOf A fr)) qs ∧ (∀ y ∈ bl, ∀ o, ¬ ImX y o) := by
        rcases hkf2 with ⟨hc, rfl⟩ | rfl
        · simp only [Bool.and_eq_true, List.isEmpty_iff] at hc
          obtain ⟨hc1, hc2⟩ := hc
          subst hc2
          have hsc := hflat (by rw [hc1, args_noref hA rfl]; rfl)
          simp only [List.map_nil] at href
          cases href
          rw [List.append_nil] at hsc
          obtain ⟨q1, rfl⟩ := hres.flat (Im' := ImF A fr []) hc1 hsc
          refine ⟨ImF A fr [], fun _ _ h => h, fun _ _ h => .inl h, fun k o hh => hi3 k o (hi1 k o (ImF_mono (fun t ht => by cases ht) k o hh)), q1, .nil, fun y hy => by cases hy⟩
        · exact ⟨Im', hi1, hi2, hi3, hres, href, hbl⟩
      have hrl := resLen hres
      have hreg' : rs.map (regOf { A with Im := ImF A fr kf } { fr with tk := upds fr.tk (freeze fr kf) }) = rs.map (regOf A fr) := List.map_congr_left fun x _ => hreg x
      obtain ⟨u2, st2⟩ := st1.callStep (r := ds ++ qs) (m := cellsOfTs X.P fn.resultTypes.toList) (rs := rs) (w' := w') (Im' := ImX) (by rw [hreg']; exact hkeep) hR1 hdis x1 x2 x3 (by rw [hreg']; exact x5)
        (fun i d hi => by rw [List.getElem?_append_right (by omega), hrl, Nat.add_sub_cancel_left]; exact hi) _ rfl _ rfl
      have hwb := writeB_congr (fr := fr) (r := ds ++ qs) rs (cellsOfTs X.P fn.resultTypes.toList) htk1
      rw [hwb] at u2 st2
      -- results
      obtain ⟨vs2, bs2, ts2, hK2, _, hsem⟩ := resV_ok (w0 := w0) (w' := w') (B := w.heap.size) (Im := ImX) (α := List V × List (Nat × Bx) × List (Nat × Tk)) hst.keep.size (X := X) (f0 := fr) (d := d) (g := g) (kp := (X.H X.f).keep.any (Nat.beq d)) (r := ds ++ qs) fn.resultTypes.toList 0 (K := fun a b c => some (a, b, c)) (res := (vs, bs, ts)) (hK _ _)
      have heq : (vs2, bs2, ts2) = (vs, bs, ts) := by
        have e1 := hK2 (List V × List (Nat × Bx) × List (Nat × Tk)) (fun a b c => some (a, b, c))
        rw [hK] at e1
        injection e1 with e1
        exact e1.symm
      injection heq with e1 e2
      injection e2 with e2 e3
      subst e1 e2 e3
      have hnext : ∀ q, 0 < q → nextT { ({ fr with tk := upds fr.tk (freeze fr kf) } : Fr) with bx := upds fr.bx (writeB fr (ds ++ qs) (cellsOfTs X.P fn.resultTypes.toList) rs).1, tk := upds (upds fr.tk (freeze fr kf)) (writeB fr (ds ++ qs) (cellsOfTs X.P fn.resultTypes.toList) rs).2 } (key d q) = nextT fr (key d q) ∧
          nextB { ({ fr with tk := upds fr.tk (freeze fr kf) } : Fr) with bx := upds fr.bx (writeB fr (ds ++ qs) (cellsOfTs X.P fn.resultTypes.toList) rs).1, tk := upds (upds fr.tk (freeze fr kf)) (writeB fr (ds ++ qs) (cellsOfTs X.P fn.resultTypes.toList) rs).2 } (key d q) = nextB fr (key d q) := by
        obtain ⟨wb1, wb2, _, _⟩ := wb_ok (A := A) (fr := fr) (r := ds ++ qs) (m := cellsOfTs X.P fn.resultTypes.toList) x5 (fun i d hi => by rw [List.getElem?_append_right (by omega), hrl, Nat.add_sub_cancel_left]; exact hi) hR
        intro q _
        refine ⟨?_, ?_⟩
        · simp only [nextT]
          rcases upds_get (upds fr.tk (freeze fr kf)) (writeB fr (ds ++ qs) (cellsOfTs X.P fn.resultTypes.toList) rs).2 (key d q) with ⟨q1, _⟩ | ⟨k', q1, q2⟩
          · rw [q1, upds_freeze]
            by_cases hq : key d q ∈ kf
            · rw [if_pos hq]; cases fr.tk (key d q) <;> rfl
            · rw [if_neg hq]
          · obtain ⟨e, i, off, n, y, g, new, _, p2, _, rfl, _⟩ := wb2 _ k' q1
            rw [q2, p2]
        · simp only [nextB]
          rcases upds_get fr.bx (writeB fr (ds ++ qs) (cellsOfTs X.P fn.resultTypes.toList) rs).1 (key d q) with ⟨q1, _⟩ | ⟨b', q1, q2⟩
          · rw [q1]
          · obtain ⟨e, off, n, b2, new, _, p2, p3, rfl, _⟩ := wb1 _ b' q1
            rw [q2, p2]; simp [p3]
      obtain ⟨A3, t3, st3, rv3⟩ := hsem nt S _ _ tmps ds vs' bl st2 x4 (fun i x hi => by rw [Nat.zero_add, List.getElem?_append_left (List.getElem?_eq_some_iff.1 hi).1]; exact hi) (fun _ _ h => h) hnext hnd (fun y hy => by
        have hy2 : w.heap.size ≤ y := resBl hres y hy
        exact ⟨Nat.le_trans hst.keep.size hy2, fun o => by simp; omega, x6 y hy⟩)
      have e4 : ({ fr with bx := upds fr.bx (bs2 ++ (writeB fr (ds ++ qs) (cellsOfTs X.P fn.resultTypes.toList) rs).1), tk := upds fr.tk (ts2 ++ (writeB fr (ds ++ qs) (cellsOfTs X.P fn.resultTypes.toList) rs).2 ++ (bif fn.resultTypes.toList.all (flatT X.P) && rs.isEmpty then [] else freeze fr ks)) } : Fr) =
          { ({ ({ fr with tk := upds fr.tk (freeze fr kf) } : Fr) with bx := upds fr.bx (writeB fr (ds ++ qs) (cellsOfTs X.P fn.resultTypes.toList) rs).1, tk := upds (upds fr.tk (freeze fr kf)) (writeB fr (ds ++ qs) (cellsOfTs X.P fn.resultTypes.toList) rs).2 } : Fr) with bx := upds (upds fr.bx (writeB fr (ds ++ qs) (cellsOfTs X.P fn.resultTypes.toList) rs).1) bs2, tk := upds (upds (upds fr.tk (freeze fr kf)) (writeB fr (ds ++ qs) (cellsOfTs X.P fn.resultTypes.toList) rs).2) ts2 } := by
        simp only [hkf, upds_append]
      exact ⟨_, A3, rfl, by simp only [Fr.mem]; rw [e4]; exact st3, by simp only [Fr.mem]; rw [e4]; exact rv3.tup⟩

end Go.Vm

/- Every operation. -/
set_option linter.unusedVariables false
set_option linter.unusedSimpArgs false
namespace Go.Vm

variable {nt : Nat} {w0 : World} {S : Sp} {w : World} {A : As} {fr : Fr} {P : Program}

theorem mapArr {α β : Type} (xs : Array α) (f : α → β) : (xs.toList.map f).toArray = xs.map f := by cases xs; simp
theorem mapArr2 {β γ : Type} (xs : Array (Nat × β)) (f : β → γ) : (xs.map fun (i, x) => (i, f x)) = (xs.toList.map fun p => (p.1, f p.2)).toArray := by cases xs; simp

theorem u64s_eq {α : Type} (a b c : Int) (K : Int → Int → Int → Option α) : u64s [.one (.d (.int .u64 a)), .one (.d (.int .u64 b)), .one (.d (.int .u64 c))] K = br (okU64 a b c) (K a b c) none := by
  unfold u64s
  simp only [takeI, if_true]
theorem u64s_ok {α : Type} {l : List V} {K : Int → Int → Int → Option α} {r : α} (h : u64s l K = some r) : ∃ a b c : Nat, c ≤ 1 ∧ b < 18446744073709551616 ∧ l = [.one (.d (.int .u64 a)), .one (.d (.int .u64 b)), .one (.d (.int .u64 c))] ∧ (∀ (β : Type) (K' : Int → Int → Int → Option β), u64s l K' = K' a b c) := by
  unfold u64s at h
  split at h
  · rename_i x y z
    replace h := takeI_some h; obtain ⟨a, rfl, h⟩ := h
    replace h := takeI_some h; obtain ⟨b, rfl, h⟩ := h
    replace h := takeI_some h; obtain ⟨c, rfl, h⟩ := h
    replace h := br_req h; obtain ⟨hb, h⟩ := h
    have hb' := of_decide_eq_true hb
    obtain ⟨a', rfl⟩ := Int.eq_ofNat_of_zero_le hb'.1
    obtain ⟨b', rfl⟩ := Int.eq_ofNat_of_zero_le hb'.2.1
    obtain ⟨c', rfl⟩ := Int.eq_ofNat_of_zero_le hb'.2.2.2.1
    have hbb := hb'.2.2.1
    unfold two64 at hbb
    exact ⟨a', b', c', by omega, by omega, rfl, fun β K' => by rw [u64s_eq, hb]; rfl⟩
  · cases h
theorem find_ext {fn : Func} {n : String} (hn : fn.name = n) (ho : fn.origin = "") (h1 : Extern.allNextRows.lookup n = none) (h2 : Extern.allNextRows.lookup "" = none) : Extern.findNext fn = none := by
  unfold Extern.findNext
  simp only [hn, ho, h1, h2]
  rfl
theorem sub_entry (P : Program) : ∃ e, Extern.MathBitsCarry.rows[1]? = some ("math/bits.Sub64", e) ∧ ∀ (x y b : Nat) (_ : b ≤ 1) (w : World), (e #[.int .u64 x, .int .u64 y, .int .u64 b]).run P w = .ok (.tuple #[.int .u64 (((x + 18446744073709551616 - y - b) % 18446744073709551616 : Nat) : Int), .int .u64 ((if x < y + b then 1 else 0 : Nat) : Int)]) w := by
  refine ⟨_, rfl, fun x y b hb w => ?_⟩
  have : b = 0 ∨ b = 1 := by omega
  rcases this with rfl | rfl <;> rfl
theorem add_entry (P : Program) : ∃ e, Extern.MathBitsCarry.rows[0]? = some ("math/bits.Add64", e) ∧ ∀ (x y b : Nat) (_ : b ≤ 1) (w : World), (e #[.int .u64 x, .int .u64 y, .int .u64 b]).run P w = .ok (.tuple #[.int .u64 (((x + y + b) % 18446744073709551616 : Nat) : Int), .int .u64 (((x + y + b) / 18446744073709551616 : Nat) : Int)]) w := by
  refine ⟨_, rfl, fun x y b hb w => ?_⟩
  have : b = 0 ∨ b = 1 := by omega
  rcases this with rfl | rfl <;> rfl
theorem find_sub {fn : Func} (hn : fn.name = "math/bits.Sub64") (ho : fn.origin = "") {e : Array Value → Sem Value} (he : Extern.MathBitsCarry.rows[1]? = some ("math/bits.Sub64", e)) : Extern.find fn = some e := by
  have : Extern.find fn = Extern.MathBitsCarry.rows[1]?.map (·.2) := by
    unfold Extern.find
    rw [hn, ho]
    kernel_rfl
  rw [this, he]
  rfl
theorem find_add {fn : Func} (hn : fn.name = "math/bits.Add64") (ho : fn.origin = "") {e : Array Value → Sem Value} (he : Extern.MathBitsCarry.rows[0]? = some ("math/bits.Add64", e)) : Extern.find fn = some e := by
  have : Extern.find fn = Extern.MathBitsCarry.rows[0]?.map (·.2) := by
    unfold Extern.find
    rw [hn, ho]
    kernel_rfl
  rw [this, he]
  rfl
theorem sub_lo {a b c : Nat} (hc : c ≤ 1) (hb : b < 18446744073709551616) : (((a + 18446744073709551616 - b - c) % 18446744073709551616 : Nat) : Int) = sub64lo a b c := by
  unfold sub64lo
  omega
theorem sub_hi {a b c : Nat} : ((if a < b + c then 1 else 0 : Nat) : Int) = sub64hi a b c := by
  unfold sub64hi
  split <;> split <;> omega
theorem add_lo {a b c : Nat} : (((a + b + c) % 18446744073709551616 : Nat) : Int) = add64lo a b c := by
  unfold add64lo
  omega
theorem add_hi {a b c : Nat} : (((a + b + c) / 18446744073709551616 : Nat) : Int) = add64hi a b c := by
  unfold add64hi
  omega
theorem extF_sub {α : Type} {P : Program} {g : FuncId} {args : List V} {K : V → Option α} {fn : Func} (hfn : P.funcs[g]? = some fn) (hc : (fn.body.isNone && fn.origin == "") = true) (hs : (fn.name == "math/bits.Sub64") = true) :
    extF P g args K = u64s args fun a b c => K (pairU (sub64lo a b c) (sub64hi a b c)) := by
  unfold extF
  rw [hfn]
  show (bif (fn.body.isNone && fn.origin == "") then _ else _) = _
  rw [hc, cond_true, hs, cond_true]
theorem extF_add {α : Type} {P : Program} {g : FuncId} {args : List V} {K : V → Option α} {fn : Func} (hfn : P.funcs[g]? = some fn) (hc : (fn.body.isNone && fn.origin == "") = true) (hs : (fn.name == "math/bits.Sub64") = false) (hs2 : (fn.name == "math/bits.Add64") = true) :
    extF P g args K = u64s args fun a b c => K (pairU (add64lo a b c) (add64hi a b c)) := by
  unfold extF
  rw [hfn]
  show (bif (fn.body.isNone && fn.origin == "") then _ else _) = _
  rw [hc, cond_true, hs, cond_false, hs2, cond_true]
theorem extF_ok {α : Type} {P : Program} {g : FuncId} {args : List V} {K : V → Option α} {r : α} (h : extF P g args K = some r) :
    ∃ v, (∀ (β : Type) (K' : V → Option β), extF P g args K' = K' v) ∧ K v = some r ∧ ∀ (fr : Fr) (w : World) (A : As) (us : List Value), RVs fr w A args us → ∃ u, (callFunc g us.toArray).run P w = .ok (.value u) w ∧ RV fr w A v u := by
  unfold extF at h
  split at h
  · rename_i fn hfn
    replace h := bif_some h; obtain ⟨hc, h⟩ := h
    have hc0 := hc
    simp only [Bool.and_eq_true, beq_iff_eq] at hc
    obtain ⟨hbody, ho⟩ := hc
    have args3 : ∀ {fr : Fr} {w : World} {A : As} {us : List Value} {a b c : Nat}, RVs fr w A [.one (.d (.int .u64 a)), .one (.d (.int .u64 b)), .one (.d (.int .u64 c))] us → us = [.int .u64 a, .int .u64 b, .int .u64 c] := fun {fr w A us a b c} hus => by
      match us, hus with
      | [u, v, x], hus =>
        have e : ∀ {n : Int} {z : Value}, RV fr w A (.one (.d (.int .u64 n))) z → z = .int .u64 n := fun hz => by
          have := hz.d_inv
          cases this
          rfl
        rw [e (hus.2 0 _ u rfl rfl), e (hus.2 1 _ v rfl rfl), e (hus.2 2 _ x rfl rfl)]
      | [], hus => have := hus.1; simp at this
      | [_], hus => have := hus.1; simp at this
      | [_, _], hus => have := hus.1; simp at this
      | _ :: _ :: _ :: _ :: _, hus => have := hus.1; simp at this
    have pr : ∀ {fr : Fr} {w : World} {A : As} {a b : Int}, RV fr w A (pairU a b) (.tuple #[.int .u64 a, .int .u64 b]) := fun {fr w A a b} => by
      refine .tup _ _ rfl fun j x v h1 h2 => ?_
      match j, h1, h2 with
      | 0, h1, h2 =>
        simp at h1 h2
        subst h1 h2
        exact .one _ _ ⟨rfl, Rd.int _ _⟩
      | 1, h1, h2 =>
        simp at h1 h2
        subst h1 h2
        exact .one _ _ ⟨rfl, Rd.int _ _⟩
      | j + 2, h1, h2 => simp at h1
    cases hs : fn.name == "math/bits.Sub64" with
    | true =>
      rw [hs, cond_true] at h
      have hname : fn.name = "math/bits.Sub64" := by simpa using hs
      obtain ⟨a, b, c, hc1, hb1, rfl, hK⟩ := u64s_ok h
      rw [hK] at h
      refine ⟨_, fun β K' => (extF_sub hfn hc0 hs).trans (hK β _), h, fun fr w A us hus => ?_⟩
      rw [args3 hus]
      obtain ⟨e, he, hrun⟩ := sub_entry P
      have hfind := find_sub hname ho he
      refine ⟨_, by rw [run_callFunc_extern hfn (by rw [hname]; rfl) hbody (find_ext hname ho (by kernel_rfl) (by kernel_rfl)) hfind, hrun a b c hc1, Result.andThen_ok], ?_⟩
      rw [sub_lo hc1 hb1, sub_hi]
      exact pr
    | false =>
      rw [hs, cond_false] at h
      replace h := bif_some h; obtain ⟨hs2, h⟩ := h
      have hname : fn.name = "math/bits.Add64" := by simpa using hs2
      obtain ⟨a, b, c, hc1, hb1, rfl, hK⟩ := u64s_ok h
      rw [hK] at h
      refine ⟨_, fun β K' => (extF_add hfn hc0 hs hs2).trans (hK β _), h, fun fr w A us hus => ?_⟩
      rw [args3 hus]
      obtain ⟨e, he, hrun⟩ := add_entry P
      have hfind := find_add hname ho he
      refine ⟨_, by rw [run_callFunc_extern hfn (by rw [hname]; rfl) hbody (find_ext hname ho (by kernel_rfl) (by kernel_rfl)) hfind, hrun a b c hc1, Result.andThen_ok], ?_⟩
      rw [add_lo, add_hi]
      exact pr
  · cases h
theorem run_neq_slice_nil {P : Program} (w : World) (t e : TypeId) (a : Option Addr) (n c n' c' : Nat) (h : P.underlying t = some (.slice e)) :
    (binOp .neq t (.slice a n c) (.slice none n' c')).run P w = .ok (.bool (!a.isNone)) w := by
  simp only [binOp]
  simp [Op.equal, Op.maxDepth, Lib.run_equalIn_slice_nil w 9999 t e a n c n' c' h]
theorem nilX_sl {α : Type} {x : V} {a b : Option α} {r : α} (h : nilX x a b = some r) {fr : Fr} {w : World} {A : As} {vx : Value} (hv : RV fr w A x vx) : ∃ ad n c, vx = .slice ad n c := by
  unfold nilX at h
  split at h
  · rename_i y
    cases y with
    | list e rows =>
      obtain ⟨a, c, rfl, _⟩ := hv.d_inv.list_inv
      exact ⟨_, _, _, rfl⟩
    | _ => cases h
  · obtain ⟨_, a, rfl⟩ := hv.one_inv
    exact ⟨_, _, _, rfl⟩
  · cases h
theorem list_nn {fr : Fr} {w : World} {A : As} {vx : Value} {x : V} {e' : Nat} {rows : List (List D)} (hx : x = .one (.d (.list e' rows))) (hr : rows ≠ []) (hv : RV fr w A x vx) : ∃ ad n c, vx = .slice (some ad) n c := by
  subst hx
  obtain ⟨a, c, rfl, _, _, e4⟩ := hv.d_inv.list_inv
  obtain ⟨g, o, rfl, _⟩ := e4 hr
  exact ⟨_, _, _, rfl⟩
theorem nilCmp_ok {α : Type} {X : Env} {op : BinOp} {xt : TypeId} {x : V} {y : Operand} {K : V → Option α} {r : α} (hn : nilO X.P xt y = true) (h : nilCmp op x K = some r) :
    ∃ z, (∀ (β : Type) (K' : V → Option β), nilCmp op x K' = K' z) ∧ ∀ (fr : Fr) (w : World) (A : As) (vx : Value) (a : Act) {ox : Operand}, RV fr w A x vx →
      ∃ v, (do eqGuard op xt ox y vx (a.eval y); binOp op xt vx (a.eval y) : Sem Value).run X.P w = .ok v w ∧ RV fr w A z v := by
  unfold nilO at hn
  split at hn
  · rename_i e hu
    cases op with
    | eql =>
      simp only [nilCmp] at h
      have h0 := h
      rcases nilX_ok h with ⟨_, hK⟩ | ⟨_, hK, e', rows, hx, hr⟩
      · refine ⟨_, fun β K' => hK β _ _, fun fr w A vx a ox hv => ?_⟩
        obtain ⟨ad, n, c, rfl⟩ := nilX_sl h0 hv
        exact ⟨.bool ad.isNone, Lib.run_eql_slice_nil w xt e ad n c 0 0 hu, .one _ _ ⟨rfl, _, rfl⟩⟩
      · refine ⟨_, fun β K' => hK β _ _, fun fr w A vx a ox hv => ?_⟩
        obtain ⟨ad, n, c, rfl⟩ := list_nn hx hr hv
        exact ⟨.bool false, Lib.run_eql_slice_nil w xt e (some ad) n c 0 0 hu, .one _ _ ⟨rfl, Rd.bool _⟩⟩
    | neq =>
      simp only [nilCmp] at h
      have h0 := h
      rcases nilX_ok h with ⟨_, hK⟩ | ⟨_, hK, e', rows, hx, hr⟩
      · refine ⟨_, fun β K' => hK β _ _, fun fr w A vx a ox hv => ?_⟩
        obtain ⟨ad, n, c, rfl⟩ := nilX_sl h0 hv
        exact ⟨.bool (!ad.isNone), run_neq_slice_nil w xt e ad n c 0 0 hu, .one _ _ ⟨rfl, _, rfl⟩⟩
      · refine ⟨_, fun β K' => hK β _ _, fun fr w A vx a ox hv => ?_⟩
        obtain ⟨ad, n, c, rfl⟩ := list_nn hx hr hv
        exact ⟨.bool true, run_neq_slice_nil w xt e (some ad) n c 0 0 hu, .one _ _ ⟨rfl, Rd.bool _⟩⟩
    | _ => cases h
  · cases hn
theorem sem_value {P : Program} {o : Oper} {a : Act} {next : Act → World → Prop} {Q : Exit → Act → World → Prop} {z : Eff} {s : Sem Value} (he : execOp a.eval o = (do pure (.value (← s)))) (hd : ∀ e, o.dst = some e → e < nt)
    (h : Does P fr z nt w0 S w A a.tmps s) (hn : ∀ A' v w', St nt w0 S w' A' (fr.app o.dst z) (a.put o.dst v).tmps → next (a.put o.dst v) w') : o.wp P a w next Q := by
  obtain ⟨v, w', A', h1, h2, h3⟩ := h
  unfold Oper.wp
  rw [he]
  simp only [Sem.run_bind, h1, Result.andThen_ok, Sem.run_pure, Oper.upon]
  exact hn A' v w' (by rw [app_eq]; exact h2.put o.dst z.v v hd h3)
theorem args_rv {a : Act} (h : St nt w0 S w A fr a.tmps) (xs : List Operand) : RVs fr w A (xs.map (val fr)) (xs.map a.eval) := by
  refine ⟨by simp, fun i x u h1 h2 => ?_⟩
  rw [List.getElem?_map] at h1 h2
  cases hi : xs[i]? with
  | none => simp [hi] at h1
  | some y => simp [hi] at h1 h2; subst h1 h2; exact val_rv h y

theorem builtinF_ok {α : Type} {X : Env} {d : Nat} {b : Builtin} {ts : Array TypeId} {args : List V} {K : Eff → Option α} {r : α} (h : builtinF X fr d b ts args K = some r) :
    ∃ z, (∀ (β : Type) (K' : Eff → Option β), builtinF X fr d b ts args K' = K' z) ∧
      ∀ (nt : Nat) (w0 : World) (S : Sp) (w : World) (A : As) (tmps : Array Value) (us : List Value) (ty : TypeId) (cs : Array Bool), St nt w0 S w A fr tmps → RVs fr w A args us →
        ∃ s, builtin b ts ty cs us.toArray = (do pure (.value (← s))) ∧ Does X.P fr z nt w0 S w A tmps s := by
  unfold builtinF at h
  split at h
  · split at h
    · rename_i t x ht
      obtain ⟨z, hK, h1, h2, hr⟩ := lenF_ok h
      refine ⟨z, fun β K' => by simp only [builtinF, ht]; exact hK β K', fun nt w0 S w A tmps us ty cs hst hv => ?_⟩
      match us, hv with
      | [u], hv => exact ⟨_, rfl, Does.read h1 h2 hst (hr nt w0 S w A tmps u ty ts ht hst (hv.2 0 x u rfl rfl))⟩
      | [], hv => have := hv.1; simp at this
      | _ :: _ :: _, hv => have := hv.1; simp at this
    · cases h
  · split at h
    · rename_i t u s x ht
      cases hc : Nat.beq t u with
      | false =>
        rw [hc, cond_false] at h
        obtain ⟨z, hK, hr⟩ := appendZF_ok h
        refine ⟨z, fun β K' => by simp only [builtinF, ht, hc, cond_false]; exact hK β K', fun nt w0 S w A tmps us ty cs hst hv => ?_⟩
        have hts : ts = #[t, u] := by rw [← Array.toArray_toList (xs := ts), ht]
        match us, hv with
        | [u1, u2], hv => exact ⟨_, by rw [hts]; rfl, hr nt w0 S w A tmps u1 u2 ty hst (hv.2 0 s u1 rfl rfl) (hv.2 1 x u2 rfl rfl)⟩
        | [], hv => have := hv.1; simp at this
        | [_], hv => have := hv.1; simp at this
        | _ :: _ :: _ :: _, hv => have := hv.1; simp at this
      | true =>
      rw [hc, cond_true] at h
      have htu : t = u := Nat.eq_of_beq_eq_true hc
      subst htu
      obtain ⟨z, hK, hr⟩ := appendF_ok h
      refine ⟨z, fun β K' => by simp only [builtinF, ht, hc, cond_true]; exact hK β K', fun nt w0 S w A tmps us ty cs hst hv => ?_⟩
      have hts : ts = #[t, t] := by rw [← Array.toArray_toList (xs := ts), ht]
      match us, hv with
      | [u1, u2], hv => exact ⟨_, by rw [hts]; rfl, hr nt w0 S w A tmps u1 u2 ty hst (hv.2 0 s u1 rfl rfl) (hv.2 1 x u2 rfl rfl)⟩
      | [], hv => have := hv.1; simp at this
      | [_], hv => have := hv.1; simp at this
      | _ :: _ :: _ :: _, hv => have := hv.1; simp at this
    · cases h
  · split at h
    · rename_i t x ht
      obtain ⟨z, hK, h1, h2, hr⟩ := capF_ok h
      refine ⟨z, fun β K' => by simp only [builtinF, ht]; exact hK β K', fun nt w0 S w A tmps us ty cs hst hv => ?_⟩
      match us, hv with
      | [u], hv => exact ⟨_, rfl, Does.read h1 h2 hst (hr nt w0 S w A tmps u ty ts ht hst (hv.2 0 x u rfl rfl))⟩
      | [], hv => have := hv.1; simp at this
      | _ :: _ :: _, hv => have := hv.1; simp at this
    · cases h
  · split at h
    · rename_i t x vs ht
      split at h
      · rename_i k hu
        replace h := takeI_some h; obtain ⟨n, rfl, h⟩ := h
        obtain ⟨z, hK, hr⟩ := minF_ok (P := X.P) false k vs h
        refine ⟨_, fun β K' => by simp only [builtinF, ht, hu, takeI, if_true]; exact hK β _, fun nt w0 S w A tmps us ty cs hst hv => ?_⟩
        match us, hv with
        | u :: us, hv =>
          have := (hv.2 0 _ u rfl rfl).d_inv.int_inv
          subst this
          obtain ⟨v, h1, h2⟩ := hr fr w A us (by simpa using hv.1) fun j x u h1 h2 => hv.2 (j + 1) x u (by simpa using h1) (by simpa using h2)
          refine ⟨_, rfl, Does.read rfl rfl hst ⟨v, ?_, h2⟩⟩
          simpa [Builtin.min_] using h1
        | [], hv => have := hv.1; simp at this
      · cases h
    · cases h
  · split at h
    · rename_i t x vs ht
      split at h
      · rename_i k hu
        replace h := takeI_some h; obtain ⟨n, rfl, h⟩ := h
        obtain ⟨z, hK, hr⟩ := minF_ok (P := X.P) true k vs h
        refine ⟨_, fun β K' => by simp only [builtinF, ht, hu, takeI, if_true]; exact hK β _, fun nt w0 S w A tmps us ty cs hst hv => ?_⟩
        match us, hv with
        | u :: us, hv =>
          have := (hv.2 0 _ u rfl rfl).d_inv.int_inv
          subst this
          obtain ⟨v, h1, h2⟩ := hr fr w A us (by simpa using hv.1) fun j x u h1 h2 => hv.2 (j + 1) x u (by simpa using h1) (by simpa using h2)
          refine ⟨_, rfl, Does.read rfl rfl hst ⟨v, ?_, h2⟩⟩
          simpa [Builtin.max_] using h1
        | [], hv => have := hv.1; simp at this
      · cases h
    · cases h
  · cases h

/-- What is asked of the program's names. -/
def NoNum (P : Program) : Prop := ∀ (f : FuncId) (fn : Func), P.funcs[f]? = some fn → fn.body.isSome = true → (fn.name == "runtime.NumGoroutine") = false

theorem capsV_ok : ∀ {vs : List V} {caps : List Cap} {us : List Value}, capsV vs = some caps → RVs fr w A vs us → us.length = caps.length ∧ ∀ (j : Nat) (c : Cap) (u : Value), caps[j]? = some c → us[j]? = some u → CapR fr w A c u := by
  intro vs
  induction vs with
  | nil =>
    intro caps us h hr
    simp only [capsV, Option.some.injEq] at h
    subst h
    exact ⟨hr.1, fun j c u h => by simp at h⟩
  | cons v vs ih =>
    intro caps us h hr
    match us, hr with
    | [], hr => have := hr.1; simp at this
    | u :: us, hr =>
      have hr0 : RV fr w A v u := hr.2 0 v u rfl rfl
      have hr1 : RVs fr w A vs us := ⟨by simpa using hr.1, fun i x u h1 h2 => hr.2 (i + 1) x u (by simpa using h1) (by simpa using h2)⟩
      have step : ∀ {c : Cap}, (capsV vs).map (c :: ·) = some caps → CapR fr w A c u → (u :: us).length = caps.length ∧ ∀ (j : Nat) (c : Cap) (v : Value), caps[j]? = some c → (u :: us)[j]? = some v → CapR fr w A c v := fun {c} h hc => by
        obtain ⟨cs, h1, rfl⟩ := Option.map_eq_some_iff.1 h
        obtain ⟨q1, q2⟩ := ih h1 hr1
        refine ⟨by simp [q1], fun j c' v h2 h3 => ?_⟩
        cases j with
        | zero =>
          simp only [List.getElem?_cons_zero, Option.some.injEq] at h2 h3
          subst h2 h3
          exact hc
        | succ j => exact q2 j c' v (by simpa using h2) (by simpa using h3)
      unfold capsV at h
      split at h
      · cases ‹_ :: _ = []›
      · rename_i s e vs' heq
        injection heq with h1 h2
        subst h1 h2
        obtain ⟨_, hp, hh⟩ := hr0.one_inv
        exact step h ⟨hp, hh⟩
      · rename_i x vs' heq
        injection heq with h1 h2
        subst h1 h2
        exact step h hr0.d_inv
      · cases h
theorem opF_ok {α : Type} {X : Env} {o : Oper} {K : Eff → Option α} {r : α} (h : opF X fr o K = some r) :
    ∃ z, (∀ (β : Type) (K' : Eff → Option β), opF X fr o K' = K' z) ∧
      ∀ (w0 : World) (S : Sp) (w : World) (A : As) (a : Act) (next : Act → World → Prop) (Q : Exit → Act → World → Prop), NoNum X.P → (∀ g as r, X.call g as = some r → Con X.P X.H g as r) → (∀ e, o.dst = some e → e < X.nt) → St X.nt w0 S w A fr a.tmps →
        (∀ A' v w', St X.nt w0 S w' A' (fr.app o.dst z) (a.put o.dst v).tmps → next (a.put o.dst v) w') → o.wp X.P a w next Q := by
  unfold opF at h
  cases hop : o.op with
  | move x =>
    simp only [hop] at h
    refine ⟨_, fun β K' => by unfold opF; simp only [hop]; rfl, fun w0 S w A a next Q hN hC hd hst hn => ?_⟩
    refine sem_value (s := pure (a.eval x)) (by simp only [execOp, hop]; rfl) hd (Does.read rfl rfl hst ⟨_, rfl, val_rv hst x⟩) hn
  | assign x =>
    simp only [hop] at h
    split at h
    · rename_i hv
      cases hc : (X.H X.f).nils.any (Nat.beq (o.dst.getD 0)) with
      | true =>
        rw [hc, cond_true] at h
        refine ⟨_, fun β K' => by unfold opF; simp only [hop, hv, hc, cond_true]; rfl, fun w0 S w A a next Q hN hC hd hst hn => ?_⟩
        have hx := val_rv hst x
        rw [hv] at hx
        obtain ⟨_, ad, he⟩ := hx.one_inv
        obtain ⟨A', _, s1, s2, _, s3⟩ := hst.newTok (key (o.dst.getD 0) 0) ⟨nextT fr (key (o.dst.getD 0) 0), false, (elemT X.P o.type).getD 0, sz X.P ((elemT X.P o.type).getD 0), []⟩ (.slice ad 0 0) none rfl rfl (Keep.refl _ _) (fun q hq => by cases hq) ⟨rfl, ad, rfl⟩ _ rfl
        refine sem_value (A := A) (s := pure (a.eval x)) (by simp only [execOp, hop]; rfl) hd ⟨_, w, A', rfl, s1, ?_⟩ hn
        rw [he]
        exact .one _ _ ⟨rfl, _, upd_same _ _ _, Nat.le_refl _, fun _ => s2.symm⟩
      | false =>
        rw [hc, cond_false] at h
        refine ⟨_, fun β K' => by unfold opF; simp only [hop, hv, hc, cond_false]; rfl, fun w0 S w A a next Q hN hC hd hst hn => ?_⟩
        exact sem_value (s := pure (a.eval x)) (by simp only [execOp, hop]; rfl) hd (Does.read rfl rfl hst ⟨_, rfl, by rw [← hv]; exact val_rv hst x⟩) hn
    · rename_i hne
      refine ⟨{ v := val fr x }, fun β K' => ?_, fun w0 S w A a next Q hN hC hd hst hn => ?_⟩
      · unfold opF
        simp only [hop]
      · exact sem_value (s := pure (a.eval x)) (by simp only [execOp, hop]; rfl) hd (Does.read rfl rfl hst ⟨_, rfl, val_rv hst x⟩) hn
  | pick c x y =>
    simp only [hop] at h
    split at h
    · rename_i cx hv
      replace h := takeB_some h; obtain ⟨b, rfl, h⟩ := h
      refine ⟨{ v := if b then val fr x else val fr y }, fun β K' => by unfold opF; simp only [hop, hv, takeB]; cases b <;> rfl, fun w0 S w A a next Q hN hC hd hst hn => ?_⟩
      have hx := val_rv hst c
      rw [hv] at hx
      have hb := hx.d_inv.bool_inv
      refine sem_value (s := (do if ← asBool (a.eval c) then pure (a.eval x) else pure (a.eval y))) ?_ hd (Does.read rfl rfl hst ⟨if b then a.eval x else a.eval y, ?_, ?_⟩) hn
      · simp only [execOp, hop, hb]
        cases b <;> rfl
      · rw [hb]; cases b <;> simp [asBool]
      · cases b
        · exact val_rv hst y
        · exact val_rv hst x
    · cases h
  | alloc t =>
    simp only [hop] at h
    obtain ⟨z, hK, hr⟩ := alloc_ok h
    exact ⟨z, fun β K' => by unfold opF; simp only [hop]; exact hK β K', fun w0 S w A a next Q hN hC hd hst hn => sem_value (s := Instr.alloc t true (.tuple #[])) (by simp only [execOp, hop]) hd (hr _ w0 S w A a.tmps hst) hn⟩
  | box t x =>
    simp only [hop] at h
    replace h := bif_some h; obtain ⟨hc, h⟩ := h
    have hcc := hc
    simp only [Bool.and_eq_true] at hc
    obtain ⟨z, hK, _, hr⟩ := boxF_ok h
    exact ⟨z, fun β K' => by unfold opF; simp only [hop, hcc, cond_true]; exact hK β K', fun w0 S w A a next Q hN hC hd hst hn => sem_value (s := Instr.box t (a.eval x)) (by simp only [execOp, hop]) hd (hr _ w0 S w A a.tmps (a.eval x) t X.P hst ((val_rv hst x).cells hc.2)) hn⟩
  | build t parts =>
    simp only [hop] at h
    obtain ⟨z, hK, hr⟩ := buildF_ok (fr := fr) (parts := parts.toList) h
    refine ⟨_, fun β K' => by unfold opF; simp only [hop]; exact hK β _, fun w0 S w A a next Q hN hC hd hst hn => ?_⟩
    have := hr _ w0 S w A a hst
    refine sem_value (s := Instr.build t (parts.map fun (i, x) => (i, a.eval x))) (by simp only [execOp, hop]) hd (Does.read rfl rfl hst ?_) hn
    have e1 : (parts.map fun (i, x) => (i, a.eval x)) = (parts.toList.map fun p => (p.1, a.eval p.2)).toArray := mapArr2 parts a.eval
    rw [e1]; exact this
  | buildSlice t n parts =>
    simp only [hop] at h
    obtain ⟨z, hK, hr⟩ := buildSliceF_ok (fr := fr) (parts := parts.toList) h
    refine ⟨z, fun β K' => by unfold opF; simp only [hop]; exact hK β _, fun w0 S w A a next Q hN hC hd hst hn => ?_⟩
    have := hr _ w0 S w A a hst
    refine sem_value (A := A) (s := Instr.buildSlice t n (parts.map fun (i, x) => (i, a.eval x))) (by simp only [execOp, hop]) hd ?_ hn
    have e1 : (parts.map fun (i, x) => (i, a.eval x)) = (parts.toList.map fun p => (p.1, a.eval p.2)).toArray := mapArr2 parts a.eval
    rw [e1]; exact this
  | load t x =>
    simp only [hop] at h
    obtain ⟨z, hK, h1, h2, hr⟩ := loadF_ok h
    exact ⟨z, fun β K' => by unfold opF; simp only [hop]; exact hK β _, fun w0 S w A a next Q hN hC hd hst hn => sem_value (s := Instr.loadAt t (a.eval x)) (by simp only [execOp, hop]) hd (Does.read h1 h2 hst (hr _ w0 S w A a.tmps _ hst (val_rv hst x))) hn⟩
  | store t x y =>
    simp only [hop] at h
    obtain ⟨z, hK, hz, hr⟩ := storeF_ok h
    refine ⟨z, fun β K' => by unfold opF; simp only [hop]; exact hK β _, fun w0 S w A a next Q hN hC hd hst hn => ?_⟩
    obtain ⟨w', A', h1, h2⟩ := hr _ w0 S w A a.tmps _ _ hst (val_rv hst x) (val_rv hst y)
    unfold Oper.wp
    simp only [execOp, hop, Sem.run_bind, h1, Result.andThen_ok, Sem.run_pure, Oper.upon]
    exact hn A' _ w' (by rw [app_eq, hz]; exact h2.put o.dst .skip _ hd .skip)
  | nilCheck x =>
    simp only [hop] at h
    have key : ∀ (c : C), val fr x = .one c → (∀ w A u, RV fr w A (.one c) u → ∃ ad, u = .pointer (some ad)) → (∀ (β : Type) (K' : Eff → Option β), opF X fr o K' = K' { v := .one c }) →
        ∃ z, (∀ (β : Type) (K' : Eff → Option β), opF X fr o K' = K' z) ∧
          ∀ (w0 : World) (S : Sp) (w : World) (A : As) (a : Act) (next : Act → World → Prop) (Q : Exit → Act → World → Prop), NoNum X.P → (∀ g as r, X.call g as = some r → Con X.P X.H g as r) → (∀ e, o.dst = some e → e < X.nt) → St X.nt w0 S w A fr a.tmps →
            (∀ A' v w', St X.nt w0 S w' A' (fr.app o.dst z) (a.put o.dst v).tmps → next (a.put o.dst v) w') → o.wp X.P a w next Q := by
      intro c hv hp hK
      refine ⟨_, hK, fun w0 S w A a next Q hN hC hd hst hn => ?_⟩
      have hx := val_rv hst x
      rw [hv] at hx
      obtain ⟨ad, he⟩ := hp w A _ hx
      refine sem_value (s := pure (a.eval x)) ?_ hd (Does.read rfl rfl hst ⟨_, rfl, hx⟩) hn
      simp only [execOp, hop, he]
      rfl
    split at h
    · rename_i s e off hv
      exact key _ hv (fun w A u hu => by obtain ⟨_, ⟨g, q, rfl⟩, _⟩ := hu.one_inv; exact ⟨_, rfl⟩) fun β K' => by unfold opF; simp only [hop, hv]
    · rename_i s e i off hv
      exact key _ hv (fun w A u hu => by obtain ⟨_, ⟨g, q, rfl⟩, _⟩ := hu.one_inv; exact ⟨_, rfl⟩) fun β K' => by unfold opF; simp only [hop, hv]
    · rename_i n row off hv
      exact key _ hv (fun w A u hu => by obtain ⟨_, _, g, q, rfl, _⟩ := hu.one_inv; exact ⟨_, rfl⟩) fun β K' => by unfold opF; simp only [hop, hv]
    · cases h
  | binOp op xt x y yt =>
    simp only [hop] at h
    cases hnil : nilO X.P xt y with
    | true =>
      rw [hnil, cond_true] at h
      obtain ⟨z, hK, hr⟩ := nilCmp_ok hnil h
      refine ⟨_, fun β K' => by unfold opF; simp only [hop, hnil, cond_true]; exact hK β _, fun w0 S w A a next Q hN hC hd hst hn => ?_⟩
      exact sem_value (s := (do eqGuard op xt x y (a.eval x) (a.eval y); binOp op xt (a.eval x) (a.eval y))) (by simp only [execOp, hop]) hd (Does.read rfl rfl hst (hr fr w A _ a (val_rv hst x))) hn
    | false =>
    rw [hnil, cond_false] at h
    obtain ⟨z, hK, hr⟩ := binF_ok h
    refine ⟨_, fun β K' => by unfold opF; simp only [hop, hnil, cond_false]; exact hK β _, fun w0 S w A a next Q hN hC hd hst hn => ?_⟩
    exact sem_value (s := (do eqGuard op xt x y (a.eval x) (a.eval y); binOp op xt (a.eval x) (a.eval y))) (by simp only [execOp, hop]) hd (Does.read rfl rfl hst (hr fr w A _ _ x y (val_rv hst x) (val_rv hst y))) hn
  | unOp op xt x =>
    simp only [hop] at h
    obtain ⟨z, hK, hr⟩ := unF_ok h
    exact ⟨_, fun β K' => by unfold opF; simp only [hop]; exact hK β _, fun w0 S w A a next Q hN hC hd hst hn => sem_value (s := Op.unary op (a.eval x)) (by simp only [execOp, hop]) hd (Does.read rfl rfl hst (hr fr w A _ (val_rv hst x))) hn⟩
  | convert src dst x =>
    simp only [hop] at h
    obtain ⟨z, hK, hr⟩ := convF_ok h
    exact ⟨_, fun β K' => by unfold opF; simp only [hop]; exact hK β _, fun w0 S w A a next Q hN hC hd hst hn => sem_value (s := convert src dst (a.eval x)) (by simp only [execOp, hop]) hd (Does.read rfl rfl hst (hr fr w A _ (val_rv hst x))) hn⟩
  | makeSlice t l c =>
    simp only [hop] at h
    obtain ⟨z, hK, hr⟩ := makeSliceF_ok h
    exact ⟨z, fun β K' => by unfold opF; simp only [hop]; exact hK β _, fun w0 S w A a next Q hN hC hd hst hn => sem_value (s := Instr.makeSlice t (a.eval l) (a.eval c)) (by simp only [execOp, hop]) hd (hr _ w0 S w A a.tmps _ _ hst (val_rv hst l) (val_rv hst c)) hn⟩
  | slice t x lo hi mx =>
    simp only [hop] at h
    cases hq : (X.H X.f).trunc.any (Nat.beq (o.dst.getD 0)) with
    | true =>
      rw [hq, cond_true] at h
      obtain ⟨z, hK, hr⟩ := truncF_ok h
      exact ⟨z, fun β K' => by unfold opF; simp only [hop, hq, cond_true]; exact hK β _, fun w0 S w A a next Q hN hC hd hst hn => sem_value (s := Instr.sliceAt t (a.eval x) (lo.map a.eval) (hi.map a.eval) (mx.map a.eval)) (by simp only [execOp, hop]) hd (hr _ w0 S w A a _ hst (val_rv hst x)) hn⟩
    | false =>
    rw [hq, cond_false] at h
    obtain ⟨z, hK, h1, h2, hr⟩ := sliceF_ok h
    exact ⟨z, fun β K' => by unfold opF; simp only [hop, hq, cond_false]; exact hK β _, fun w0 S w A a next Q hN hC hd hst hn => sem_value (s := Instr.sliceAt t (a.eval x) (lo.map a.eval) (hi.map a.eval) (mx.map a.eval)) (by simp only [execOp, hop]) hd (Does.read h1 h2 hst (hr _ w0 S w A a _ hst (val_rv hst x))) hn⟩
  | fieldAddr t x f =>
    simp only [hop] at h
    obtain ⟨z, hK, hr⟩ := fieldAddrF_ok h
    exact ⟨_, fun β K' => by unfold opF; simp only [hop]; exact hK β _, fun w0 S w A a next Q hN hC hd hst hn => sem_value (s := Instr.fieldAt t (a.eval x) f) (by simp only [execOp, hop]) hd (Does.read rfl rfl hst (hr fr w A _ (val_rv hst x))) hn⟩
  | field t x f =>
    simp only [hop] at h
    obtain ⟨z, hK, hr⟩ := fieldF_ok h
    exact ⟨_, fun β K' => by unfold opF; simp only [hop]; exact hK β _, fun w0 S w A a next Q hN hC hd hst hn => sem_value (s := Instr.field t (a.eval x) f) (by simp only [execOp, hop]) hd (Does.read rfl rfl hst (hr fr w A _ (val_rv hst x))) hn⟩
  | indexAddr t x i =>
    simp only [hop] at h
    obtain ⟨z, hK, h1, h2, hr⟩ := indexAddrF_ok h
    exact ⟨z, fun β K' => by unfold opF; simp only [hop]; exact hK β _, fun w0 S w A a next Q hN hC hd hst hn => sem_value (s := Instr.indexAt t (a.eval x) (a.eval i)) (by simp only [execOp, hop]) hd (Does.read h1 h2 hst (hr _ w0 S w A a.tmps _ _ hst (val_rv hst x) (val_rv hst i))) hn⟩
  | index t x i =>
    simp only [hop] at h
    obtain ⟨z, hK, hr⟩ := indexF_ok h
    exact ⟨_, fun β K' => by unfold opF; simp only [hop]; exact hK β _, fun w0 S w A a next Q hN hC hd hst hn => sem_value (s := Instr.index t (a.eval x) (a.eval i)) (by simp only [execOp, hop]) hd (Does.read rfl rfl hst (hr fr w A _ _ (val_rv hst x) (val_rv hst i))) hn⟩
  | extract t i =>
    simp only [hop] at h
    split at h
    · rename_i vs hv
      split at h
      · rename_i v hvi
        refine ⟨_, fun β K' => by unfold opF; simp only [hop, hv, hvi]; rfl, fun w0 S w A a next Q hN hC hd hst hn => ?_⟩
        have hx := val_rv hst t
        rw [hv] at hx
        generalize hu : a.eval t = u at hx
        cases hx with
        | tup _ us hl hr =>
          have hlt := (List.getElem?_eq_some_iff.1 hvi).1
          have hlt' : i < us.size := by omega
          refine sem_value (s := Instr.extract (a.eval t) i) (by simp only [execOp, hop]) hd (Does.read rfl rfl hst ⟨us[i], ?_, hr i v _ hvi (Array.getElem?_eq_getElem hlt')⟩) hn
          rw [hu]
          simp [Instr.extract, hlt']
      · cases h
    · cases h
  | call c =>
    simp only [hop] at h
    split at h
    · rename_i b hb
      obtain ⟨z, hK, hr⟩ := builtinF_ok h
      refine ⟨z, fun β K' => by unfold opF; simp only [hop, hb]; exact hK β _, fun w0 S w A a next Q hN hC hd hst hn => ?_⟩
      obtain ⟨s, hs, hdo⟩ := hr _ w0 S w A a.tmps (c.args.toList.map a.eval) o.type (c.args.map fun | .const _ => true | _ => false) hst (args_rv hst _)
      have e1 : (c.args.toList.map a.eval).toArray = c.args.map a.eval := mapArr c.args a.eval
      rw [e1] at hs
      refine sem_value (s := s) ?_ hd hdo hn
      simp only [execOp, hop, resolve, hb]
      rw [← hs]
      rfl
    · rename_i g hg
      cases hx : isExtF X.P g with
      | true =>
      rw [hx, cond_true] at h
      obtain ⟨v, hK, hKv, hr⟩ := extF_ok h
      refine ⟨{ v := v }, fun β K' => by unfold opF; simp only [hop, hg, hx, cond_true]; exact hK β _, fun w0 S w A a next Q hN hC hd hst hn => ?_⟩
      obtain ⟨u, hu, hv⟩ := hr fr w A (c.args.toList.map a.eval) (args_rv hst _)
      have e1 : (c.args.toList.map a.eval).toArray = c.args.map a.eval := mapArr c.args a.eval
      rw [e1] at hu
      unfold Oper.wp
      have hrun : (execOp a.eval o).run X.P w = .ok (.value u) w := by
        rw [← hu]
        simp [execOp, hop, resolve, hg, Act.eval, Deferred.ofValue, invoke]
      rw [hrun]
      simp only [Oper.upon]
      exact hn A u w (by
        rw [show fr.app o.dst { v := v } = fr.put o.dst v from by cases o.dst <;> rfl]
        exact hst.put o.dst v u hd hv)
      | false =>
      rw [hx, cond_false] at h
      replace h := bif_some h; obtain ⟨hbs, h⟩ := h
      have hb0 := Nat.eq_of_beq_eq_true hbs
      obtain ⟨z, hK, hKz, fn, hfn, hbody, hr⟩ := callF_ok h
      rw [hb0] at hfn hr
      refine ⟨z, fun β K' => by unfold opF; simp only [hop, hg, hx, cond_false, hbs, cond_true]; exact hK β _, fun w0 S w A a next Q hN hC hd hst hn => ?_⟩
      have hcall := hr _ w0 S w A a.tmps (c.args.toList.map a.eval) (hC _) hst (args_rv hst _)
      have e1 : (c.args.toList.map a.eval).toArray = c.args.map a.eval := mapArr c.args a.eval
      rw [e1] at hcall
      unfold Oper.wp
      have hrun : (execOp a.eval o).run X.P w = .ok (.enter g (c.args.map a.eval)) w := by
        have hnn := hN g fn hfn hbody
        have hnb : fn.body.isNone = false := by cases hq : fn.body <;> simp_all
        have hnn' : ¬ fn.name = "runtime.NumGoroutine" := by intro hq; rw [hq] at hnn; cases hnn
        have hnb' : ¬ fn.body = none := by intro hq; rw [hq] at hbody; cases hbody
        simp [execOp, hop, resolve, hg, Act.eval, Deferred.ofValue, invoke, callFunc, hfn, hnn', hnb']
      rw [hrun]
      simp only [Oper.upon]
      refine hcall.mono ?_
      rintro e w' ⟨v, A', rfl, h2, h3⟩
      exact hn A' v w' (by rw [app_eq]; exact h2.put o.dst z.v v hd h3)
    · rename_i t hg
      split at h
      · rename_i g b caps htm
        replace h := bif_some h; obtain ⟨hbs, h⟩ := h
        have hbs' := hbs
        simp only [Bool.and_eq_true, Nat.beq_eq, Bool.not_eq_true'] at hbs'
        obtain ⟨hb0, hx⟩ := hbs'
        obtain ⟨z, hK, hKz, fn, hfn, hbody, hr⟩ := callF_ok h
        rw [hb0] at hfn hr
        refine ⟨z, fun β K' => by unfold opF; simp only [hop, hg, htm, hbs, cond_true]; exact hK β _, fun w0 S w A a next Q hN hC hd hst hn => ?_⟩
        have hv := hst.tm t
        rw [htm] at hv
        obtain ⟨_, ws, hws, hwl, hcr⟩ := hv.one_inv
        have hcall := hr _ w0 S w A a.tmps (c.args.toList.map a.eval ++ ws) (hC _) hst ((args_rv hst _).append (caps_rv hwl hcr))
        have e1 : (c.args.toList.map a.eval ++ ws).toArray = c.args.map a.eval ++ ws.toArray := by
          rw [← mapArr c.args a.eval, List.append_toArray]
        rw [e1] at hcall
        unfold Oper.wp
        have hev : a.eval (.tmp t) = .func (.func b) #[] ws.toArray := hws
        have hrun : (execOp a.eval o).run X.P w = .ok (.enter b (c.args.map a.eval ++ ws.toArray)) w := by
          have hnn := hN b fn hfn hbody
          have hnb : fn.body.isNone = false := by cases hq : fn.body <;> simp_all
          have hnn' : ¬ fn.name = "runtime.NumGoroutine" := by intro hq; rw [hq] at hnn; cases hnn
          have hnb' : ¬ fn.body = none := by intro hq; rw [hq] at hbody; cases hbody
          simp [execOp, hop, resolve, hg, hev, Deferred.ofValue, invoke, callFunc, hfn, hnn', hnb']
        rw [hrun]
        simp only [Oper.upon]
        refine hcall.mono ?_
        rintro e w' ⟨v, A', rfl, h2, h3⟩
        exact hn A' v w' (by rw [app_eq]; exact h2.put o.dst z.v v hd h3)
      · cases h
    · cases h
  | makeFunc f first captured =>
    cases f with
    | func b =>
      simp only [hop] at h
      replace h := bif_some h; obtain ⟨hc, h⟩ := h
      have hc' := hc
      simp only [Bool.and_eq_true, Nat.beq_eq] at hc'
      split at h
      · rename_i caps hcaps
        refine ⟨_, fun β K' => by unfold opF; simp only [hop, hc, cond_true, hcaps]; rfl, fun w0 S w A a next Q hN hC hd hst hn => ?_⟩
        obtain ⟨q1, q2⟩ := capsV_ok hcaps (args_rv hst captured.toList)
        have hf0 : first.map a.eval = #[] := by
          have : first = #[] := Array.eq_empty_of_size_eq_zero hc'.1
          subst this
          simp
        have e1 : captured.map a.eval = (captured.toList.map a.eval).toArray := (mapArr captured a.eval).symm
        refine sem_value (s := Instr.makeFunc (.func b) (first.map a.eval) (captured.map a.eval)) (by simp only [execOp, hop]) hd (Does.read rfl rfl hst ⟨_, rfl, ?_⟩) hn
        rw [hf0, e1]
        exact .one _ _ ⟨rfl, _, rfl, q1, q2⟩
      · cases h
    | _ => simp only [hop] at h; cases h
  | _ => simp only [hop] at h; cases h

end Go.Vm

/- Regions: what the evaluator says of operations in a row is what the machine does. -/
set_option linter.unusedVariables false
set_option linter.unusedSimpArgs false
namespace Go.Vm

variable {nt : Nat} {w0 : World} {S : Sp} {w : World} {A : As} {fr : Fr} {P : Program}

theorem yield_none {all : Array Oper} {tmps : Array Value} {j : Nat} (h : (all[j]?).bind (·.dst) = none) : yielded all tmps j = none := by simp [yielded, h]
theorem yield_bool {all : Array Oper} {tmps : Array Value} {j t : Nat} {b : Bool} (h : (all[j]?).bind (·.dst) = some t) (hv : tmps.getD t Go.undef = .bool b) : yielded all tmps j = some b := by
  simp only [yielded, h, Option.bind_some]
  rw [Array.getD_eq_getD_getElem?] at hv
  cases ht : tmps[t]? with
  | none => rw [ht] at hv; cases hv
  | some u => rw [ht] at hv; simp only [Option.getD_some] at hv; rw [hv]
theorem yield_undef {all : Array Oper} {tmps : Array Value} {j t : Nat} (h : (all[j]?).bind (·.dst) = some t) (hv : tmps.getD t Go.undef = Go.undef) : yielded all tmps j = none := by
  simp only [yielded, h, Option.bind_some]
  rw [Array.getD_eq_getD_getElem?] at hv
  cases ht : tmps[t]? with
  | none => rfl
  | some u => rw [ht] at hv; simp only [Option.getD_some] at hv; rw [hv]; rfl
theorem wanted_no {o : Oper} {y : Nat → Option Bool} {j : Nat} {want : Bool} (h : o.guard = some (j, want)) (hy : y j = none) : Region.wanted o y = false := by simp [Region.wanted, h, hy]
theorem wanted_b {o : Oper} {y : Nat → Option Bool} {j : Nat} {want b : Bool} (h : o.guard = some (j, want)) (hy : y j = some b) : Region.wanted o y = (b == want) := by simp [Region.wanted, h, hy]
theorem opsF_ok {X : Env} (hN : NoNum X.P) (hC : ∀ g as r, X.call g as = some r → Con X.P X.H g as r) {all : Array Oper} (hb : ∀ o ∈ all, ∀ d, o.dst = some d → d < X.nt)
    {Q : Exit → Act → World → Prop} {r : List D} : ∀ (l : List Oper) (k : Nat) (fr : Fr) (acc : List (Nat × List Nat × List Nat)) (K : Fr → List (Nat × List Nat × List Nat) → R), (∀ j, l[j]? = all[k + j]?) → opsF X all l fr acc K = some r →
    ∀ (w : World) (A : As) (a : Act), St X.nt w0 S w A fr a.tmps →
      (∀ fr' acc' w' A' a', K fr' acc' = some r → St X.nt w0 S w' A' fr' a'.tmps → a'.defers = a.defers → Q .normal a' w') → wpOps X.P all Q (List.range' k l.length) a w := by
  intro l
  induction l with
  | nil =>
    intro k fr acc K hl h w A a hst hQ
    exact hQ fr acc w A a h hst rfl
  | cons o rest ih =>
    intro k fr acc K hl h w A a hst hQ
    have ho : all[k]? = some o := by simpa using (hl 0).symm
    have hl' : ∀ j, rest[j]? = all[(k + 1) + j]? := fun j => by have := hl (j + 1); simpa [Nat.add_assoc, Nat.add_comm 1 j] using this
    have hd : ∀ d, o.dst = some d → d < X.nt := hb o (Array.mem_of_getElem? ho)
    simp only [List.length_cons, List.range'_succ, wpOps, ho]
    have go : ∀ fr1, St X.nt w0 S w A fr1 a.tmps → Region.wanted o (yielded all a.tmps) = true →
        (opF X fr1 o fun x => opsF X all rest (fr1.app o.dst x) (entGo all o acc.length x :: acc) K) = some r →
        (if Region.wanted o (yielded all a.tmps) then o.wp X.P a w (wpOps X.P all Q (List.range' (k + 1) rest.length)) Q ∨ (o.asks X.P a w ∧ LetsOut Q) else wpOps X.P all Q (List.range' (k + 1) rest.length) (a.put o.dst Go.undef) w) := by
      intro fr1 h1 hw hh
      obtain ⟨z, hK, hsem⟩ := opF_ok hh
      rw [hK] at hh
      simp only [hw, if_true]
      exact .inl (hsem w0 S w A a _ Q hN hC hd h1 fun A' v w' h2 => ih (k + 1) _ _ K hl' hh w' A' (a.put o.dst v) h2 fun fr' acc' w' A' a' q1 q2 q3 => hQ fr' acc' w' A' a' q1 q2 (by rw [q3]; cases o.dst <;> rfl))
    have no : ∀ fr1, St X.nt w0 S w A fr1 a.tmps → Region.wanted o (yielded all a.tmps) = false → opsF X all rest (fr1.put o.dst .skip) (entNo all o acc.length :: acc) K = some r →
        (if Region.wanted o (yielded all a.tmps) then o.wp X.P a w (wpOps X.P all Q (List.range' (k + 1) rest.length)) Q ∨ (o.asks X.P a w ∧ LetsOut Q) else wpOps X.P all Q (List.range' (k + 1) rest.length) (a.put o.dst Go.undef) w) := by
      intro fr1 h1 hw hh
      simp only [hw, Bool.false_eq_true, if_false]
      exact ih (k + 1) _ _ K hl' hh w A (a.put o.dst Go.undef) (h1.put o.dst .skip _ hd .skip) fun fr' acc' w' A' a' q1 q2 q3 => hQ fr' acc' w' A' a' q1 q2 (by rw [q3]; cases o.dst <;> rfl)
    unfold opsF at h
    simp only at h
    split at h
    · rename_i hg
      exact go fr hst (by simp [Region.wanted, hg]) h
    · rename_i j want hg
      split at h
      · rename_i ht
        exact no fr hst (wanted_no hg (yield_none ht)) h
      · rename_i t ht
        split at h
        · rename_i hs
          have hv := hst.tm t
          rw [hs] at hv
          refine no fr hst (wanted_no hg (yield_undef ht ?_)) h
          generalize a.tmps.getD t Go.undef = u at hv
          cases hv; rfl
        · rename_i x hs
          replace h := takeB_some h; obtain ⟨b, rfl, h⟩ := h
          have hv := hst.tm t
          rw [hs] at hv
          have hb := hv.d_inv.bool_inv
          have hw := wanted_b hg (yield_bool ht hb)
          have hst' : St X.nt w0 S w A { fr with tm := upd fr.tm t (.one (.d (.bool b))) } a.tmps := hst.know t _ hv
          cases b <;> cases want <;> simp only [br, cond_true, cond_false] at h
          · exact go _ hst' (by rw [hw]; rfl) h
          · exact no _ hst' (by rw [hw]; rfl) h
          · exact no _ hst' (by rw [hw]; rfl) h
          · exact go _ hst' (by rw [hw]; rfl) h
        · cases h

end Go.Vm

/- What an operation answers hangs on what it looks at. -/
set_option linter.unusedVariables false
set_option linter.unusedSimpArgs false
namespace Go.Vm

variable {fr fr' : Fr} {X : Env} {z : Eff}

def AgR (fr fr' : Fr) (l : List Nat) : Prop := (∀ s, 2 * s ∈ l → fr'.bx s = fr.bx s) ∧ (∀ t, 2 * t + 1 ∈ l → fr'.tk t = fr.tk t)
theorem AgR.mono {l l' : List Nat} (h : AgR fr fr' l) (hl : ∀ k ∈ l', k ∈ l) : AgR fr fr' l' := ⟨fun s hs => h.1 s (hl _ hs), fun t ht => h.2 t (hl _ ht)⟩
theorem AgR.nextB {l : List Nat} (h : AgR fr fr' l) {s : Nat} (hs : 2 * s ∈ l) : nextB fr' s = nextB fr s := by simp only [Vm.nextB, h.1 s hs]
theorem AgR.nextT {l : List Nat} (h : AgR fr fr' l) {s : Nat} (hs : 2 * s + 1 ∈ l) : nextT fr' s = nextT fr s := by simp only [Vm.nextT, h.2 s hs]
theorem toD_dep {c : C} (h : ∀ t ∈ c.toks, fr'.tk t = fr.tk t) : toD fr' c = toD fr c := by
  cases c with
  | own t e => simp only [toD, h t (by simp [C.toks])]
  | sub t e o n => simp only [toD, h t (by simp [C.toks])]
  | fn g b cs => cases cs <;> rfl
  | _ => rfl
theorem toDk_dep {k : LK} {c : C} (h : ∀ t ∈ c.toks, fr'.tk t = fr.tk t) : toDk fr' k c = toDk fr k c := by
  unfold toDk
  split
  · rfl
  · exact toD_dep h
theorem toDs_dep : ∀ {cs : List C} {ls : List LK}, (∀ t ∈ toksOf cs, fr'.tk t = fr.tk t) → toDs fr' ls cs = toDs fr ls cs
  | [], _, _ => rfl
  | c :: cs, ls, h => by
    simp only [toDs]
    rw [toDk_dep fun t ht => h t (by simp only [toksOf, List.flatMap_cons, List.mem_append]; exact .inl ht), toDs_dep fun t ht => h t (by simp only [toksOf, List.flatMap_cons, List.mem_append]; exact .inr ht)]
theorem freeze_dep : ∀ {ks : List Nat}, (∀ t ∈ ks, fr'.tk t = fr.tk t) → freeze fr' ks = freeze fr ks
  | [], _ => rfl
  | t :: ks, h => by simp only [freeze, h t List.mem_cons_self, freeze_dep fun t ht => h t (List.mem_cons_of_mem _ ht)]
theorem keysOf_mem {cs : List C} {t : Nat} (h : t ∈ toksOf cs) : 2 * t + 1 ∈ keysOf cs := by
  obtain ⟨c, hc, ht⟩ := List.mem_flatMap.1 h
  exact List.mem_flatMap.2 ⟨c, hc, List.mem_map.2 ⟨t, ht, rfl⟩⟩

theorem loadF_dep {t : TypeId} {a : V} (h : loadF X fr t a some = some z) (ag : AgR fr fr' z.rd) : loadF X fr' t a some = some z := by
  unfold loadF at h ⊢
  replace h := bif_some h; obtain ⟨hok, h⟩ := h
  simp only [hok, cond_true]
  split at h
  · split at h
    · rename_i b hb
      replace h := bif_some h; obtain ⟨hc, h⟩ := h
      injection h with h; subst h
      simp only [ag.1 _ (List.mem_singleton.2 rfl), hb, hc, cond_true]
    · cases h
  · split at h
    · rename_i b hb
      replace h := bif_some h; obtain ⟨hc, h⟩ := h
      have hde : ∀ {γ : Type} (K' : List D → Option γ), destrT X.P [t] _ K' = K' _ := destrT_eq h
      rw [hde] at h
      injection h with h; subst h
      simp only [ag.2 _ (List.mem_singleton.2 rfl), hb, hc, cond_true, hde]
    · cases h
  · exact h
  · cases h

theorem storeF_dep {t : TypeId} {a v : V} (h : storeF X fr t a v some = some z) (ag : AgR fr fr' z.rd) : storeF X fr' t a v some = some z := by
  unfold storeF at h ⊢
  replace h := bif_some h; obtain ⟨hok, h⟩ := h
  simp only [hok, cond_true]
  split at h
  · split at h
    · rename_i b hb
      replace h := bif_some h; obtain ⟨hc, h⟩ := h
      injection h with h; subst h
      simp only [ag.1 _ (List.mem_singleton.2 rfl), hb, hc, cond_true]
    · cases h
  · split at h
    · rename_i x hx
      replace h := bif_some h; obtain ⟨hc, h⟩ := h
      split at h
      · rename_i ds hds
        replace h := bif_not h; obtain ⟨hn, h⟩ := h
        injection h with h; subst h
        have hk : ∀ t ∈ toksOf v.cells, fr'.tk t = fr.tk t := fun t ht => ag.2 t (List.mem_cons_of_mem _ (keysOf_mem ht))
        simp only [ag.2 _ List.mem_cons_self, hx, hc, cond_true, toDs_dep hk, hds, hn, cond_false, freeze_dep hk]
      · cases h
    · cases h
  · cases h

theorem br_one {α : Type} {b : Bool} {x : α} {r : α} (h : br b (some x) none = some r) : b = true ∧ x = r := by
  cases b
  · cases h
  · exact ⟨rfl, Option.some.inj h⟩
theorem br_onen {α : Type} {b : Bool} {x : Option α} {r : α} (h : br b x none = some r) : b = true ∧ x = some r := by
  cases b
  · cases h
  · exact ⟨rfl, h⟩

theorem indexAddrF_dep {t : TypeId} {x i : V} (h : indexAddrF X fr t x i some = some z) (ag : AgR fr fr' z.rd) : indexAddrF X fr' t x i some = some z := by
  have h0 := h
  unfold indexAddrF at h
  split at h
  · split at h
    · split at h
      · replace h := (bif_some h).2
        replace h := intT_ok h; obtain ⟨n, hn, h, _⟩ := h
        replace h := (br_one h).2
        subst h
        rw [← h0]; simp only [indexAddrF, ag.2 _ (List.mem_singleton.2 rfl)]
      · cases h
    · split at h
      · replace h := (bif_some h).2
        replace h := intT_ok h; obtain ⟨n, hn, h, _⟩ := h
        replace h := (br_one h).2
        subst h
        rw [← h0]; simp only [indexAddrF, ag.2 _ (List.mem_singleton.2 rfl)]
      · cases h
    · rw [← h0]; simp only [indexAddrF]
    · cases h
  · rename_i hu; rw [← h0]; simp only [indexAddrF, hu]
  · cases h

theorem rowsF_dep {α : Type} {esz : Nat} {x : V} {K : List (List D) → List Nat → Option α} {r : α} (h : rowsF fr esz x K = some r) : ∃ rows rd, (∀ (β : Type) (K' : List (List D) → List Nat → Option β), rowsF fr esz x K' = K' rows rd) ∧ K rows rd = some r ∧
    ∀ fr', AgR fr fr' rd → ∀ (β : Type) (K' : List (List D) → List Nat → Option β), rowsF fr' esz x K' = K' rows rd := by
  unfold rowsF at h
  split at h
  · exact ⟨_, _, fun _ _ => rfl, h, fun _ _ _ _ => rfl⟩
  · replace h := takeL_some h; obtain ⟨e', rows, rfl, he, h⟩ := h
    exact ⟨rows, _, fun β K' => by simp only [rowsF, takeL, he, if_true], h, fun fr' ag β K' => by simp only [rowsF, takeL, he, if_true]⟩
  · split at h
    · rename_i k hk
      replace h := bif_some h; obtain ⟨hc, h⟩ := h
      exact ⟨_, _, fun β K' => by simp only [rowsF, hk, hc, cond_true], h, fun fr' ag β K' => by simp only [rowsF, ag.2 _ (List.mem_singleton.2 rfl), hk, hc, cond_true]⟩
    · cases h
  · split at h
    · rename_i k hk
      replace h := bif_some h; obtain ⟨hc, h⟩ := h
      exact ⟨_, _, fun β K' => by simp only [rowsF, hk, hc, cond_true], h, fun fr' ag β K' => by simp only [rowsF, ag.2 _ (List.mem_singleton.2 rfl), hk, hc, cond_true]⟩
    · cases h
  · cases h

theorem appendF_dep {d : Nat} {t : TypeId} {s x : V} (h : appendF X fr d t s x some = some z) (ag : AgR fr fr' z.rd) : appendF X fr' d t s x some = some z := by
  unfold appendF at h ⊢
  split at h
  · cases h
  · simp only at h ⊢
    replace h := bif_not h; obtain ⟨hz, h⟩ := h
    simp only [hz, cond_false]
    obtain ⟨rows, rd, hK, h, hd⟩ := rowsF_dep h
    split at h
    · split at h
      · rename_i y hy
        replace h := bif_some h; obtain ⟨hc, h⟩ := h
        obtain ⟨hb, h⟩ := br_one h
        subst h
        rw [hd fr' (ag.mono fun k hk => List.mem_cons_of_mem _ hk)]
        simp only [ag.2 _ List.mem_cons_self, hy, hc, cond_true, hb, br]
      · cases h
    · obtain ⟨hb, h⟩ := br_one h
      subst h
      rw [hd fr' (ag.mono fun k hk => List.mem_cons_of_mem _ hk)]
      simp only [hb, br, ag.nextT List.mem_cons_self]
    · cases h

theorem lenF_dep {t : TypeId} {x : V} (h : lenF X fr t x some = some z) (ag : AgR fr fr' z.rd) : lenF X fr' t x some = some z := by
  have h0 := h
  unfold lenF at h
  split at h
  · rename_i hu; rw [← h0]; simp only [lenF, hu]
  · rename_i hu; rw [← h0]; simp only [lenF, hu]
  · rename_i hu; rw [← h0]; simp only [lenF, hu]
  · rename_i hu; rw [← h0]; simp only [lenF, hu]
  · rename_i hu
    split at h
    · replace h := (bif_some h).2
      injection h with h; subst h
      rw [← h0]; simp only [lenF, hu, ag.2 _ (List.mem_singleton.2 rfl)]
    · cases h
  · rename_i hu
    split at h
    · replace h := (bif_some h).2
      injection h with h; subst h
      rw [← h0]; simp only [lenF, hu, ag.2 _ (List.mem_singleton.2 rfl)]
    · cases h
  · cases h

theorem boxF_dep {d : Nat} {cs : List C} (h : boxF fr d cs some = some z) (ag : AgR fr fr' z.rd) : boxF fr' d cs some = some z := by
  unfold boxF at h ⊢
  injection h with h; subst h
  rw [ag.nextB (List.mem_singleton.2 rfl)]

theorem buildSliceF_dep {d : Nat} {t : TypeId} {len : Nat} {parts : List (Nat × V)} (h : buildSliceF X fr d t len parts some = some z) (ag : AgR fr fr' z.rd) : buildSliceF X fr' d t len parts some = some z := by
  unfold buildSliceF at h ⊢
  split at h
  · cases h
  · simp only at h ⊢
    replace h := bif_not h; obtain ⟨hz, h⟩ := h
    simp only [hz, cond_false]
    obtain ⟨zz, _, _, hK, h, _⟩ := zeroF_ok h
    rw [hK]
    split at h
    · rename_i cs hcs
      split at h
      · rename_i ds hds
        replace h := bif_not h; obtain ⟨hn, h⟩ := h
        injection h with h; subst h
        have hk : ∀ t ∈ toksOf cs, fr'.tk t = fr.tk t := fun t ht => ag.2 t (List.mem_cons_of_mem _ (keysOf_mem ht))
        simp only [hcs, toDs_dep hk, hds, hn, cond_false, ag.nextT List.mem_cons_self, freeze_dep hk]
      · cases h
    · cases h

theorem cOf_toks (v : Value) : (cOf v).toks = [] := by
  unfold cOf
  split
  · rfl
  · split <;> rfl
theorem zero_toks (vs : List Value) : toksOf (vs.map cOf) = [] := by
  induction vs with
  | nil => rfl
  | cons v vs ih => simp only [toksOf, List.map_cons, List.flatMap_cons, cOf_toks, List.nil_append] at ih ⊢; exact ih

theorem makeSliceF_dep {d : Nat} {t : TypeId} {l c : V} (h : makeSliceF X fr d t l c some = some z) (ag : AgR fr fr' z.rd) : makeSliceF X fr' d t l c some = some z := by
  unfold makeSliceF at h ⊢
  split at h
  · cases h
  · simp only at h ⊢
    replace h := bif_not h; obtain ⟨hz, h⟩ := h
    simp only [hz, cond_false]
    obtain ⟨zz, _, _, hK, h, _⟩ := zeroF_ok h
    rw [hK]
    have e1 : ∀ ls, toDs fr' ls (zz.cells.toList.map cOf) = toDs fr ls (zz.cells.toList.map cOf) := fun ls => toDs_dep fun t ht => by rw [zero_toks] at ht; cases ht
    rw [e1]
    split at h
    · rename_i zs hzs
      obtain ⟨n, hn, h, _⟩ := intT_ok h
      rw [hn]
      obtain ⟨m, hm, h, _⟩ := intT_ok h
      rw [hm]
      obtain ⟨hb, h⟩ := br_one h
      subst h
      simp only [hb, br, ag.nextT (List.mem_singleton.2 rfl)]
    · cases h

theorem appendZF_dep {d : Nat} {t u : TypeId} {s x : V} (h : appendZF X fr d t u s x some = some z) (ag : AgR fr fr' z.rd) : appendZF X fr' d t u s x some = some z := by
  unfold appendZF at h ⊢
  split at h
  · simp only at h ⊢
    replace h := bif_not h; obtain ⟨hz, h⟩ := h
    simp only [hz, cond_false]
    obtain ⟨zz, _, _, hK, h, _⟩ := zeroF_ok h
    rw [hK]
    have e1 : ∀ ls, toDs fr' ls (zz.cells.toList.map cOf) = toDs fr ls (zz.cells.toList.map cOf) := fun ls => toDs_dep fun t ht => by rw [zero_toks] at ht; cases ht
    rw [e1]
    split at h
    · rename_i zs hzs
      obtain ⟨n, hn, h, _⟩ := intT_ok h
      rw [hn]
      split at h
      · split at h
        · rename_i y hy
          replace h := bif_some h; obtain ⟨hc, h⟩ := h
          obtain ⟨hb, h⟩ := br_one h
          subst h
          simp only [ag.2 _ (List.mem_singleton.2 rfl), hy, hc, cond_true, hb, br]
        · cases h
      · obtain ⟨hb, h⟩ := br_one h
        subst h
        simp only [hb, br, ag.nextT (List.mem_singleton.2 rfl)]
      · cases h
    · cases h
  · cases h

theorem map_val {o : Option Operand} (hv : ∀ x ∈ o.toList, val fr' x = val fr x) : o.map (val fr') = o.map (val fr) := by
  cases o with
  | none => rfl
  | some x => simp [hv x (by simp)]
theorem cutMx_dep {α : Type} {lo hi mx : Option Operand} {len : Nat} {N : Option α} {K2 : Nat → Nat → Option α} (hl : ∀ x ∈ lo.toList, val fr' x = val fr x) (hh : ∀ x ∈ hi.toList, val fr' x = val fr x) (hm : ∀ x ∈ mx.toList, val fr' x = val fr x) :
    cutMx fr' lo hi mx len N K2 = cutMx fr lo hi mx len N K2 := by
  unfold cutMx
  rw [map_val hl, map_val hh]
  cases mx with
  | none => rfl
  | some m => cases hi with
    | none => rfl
    | some q => simp only [hm m (by simp)]

theorem sliceF_dep {t : TypeId} {x : V} {lo hi mx : Option Operand} (hl : ∀ x ∈ lo.toList, val fr' x = val fr x) (hh : ∀ x ∈ hi.toList, val fr' x = val fr x) (hm : ∀ x ∈ mx.toList, val fr' x = val fr x)
    (h : sliceF X fr t x lo hi mx some = some z) (ag : AgR fr fr' z.rd) : sliceF X fr' t x lo hi mx some = some z := by
  have h0 := h
  unfold sliceF at h
  split at h
  · rename_i hu
    rw [← h0]; simp only [sliceF, hu, map_val hl, map_val hh]
  · rename_i e hu
    replace h := (bif_not h).2
    split at h
    · rename_i k ep
      split at h
      · replace h := (bif_some h).2
        have hz : z.rd = [2 * k + 1] := by
          rcases cut_any h with ⟨_, h, _⟩ | ⟨l, q, h, _⟩ <;> (injection h with h; rw [← h])
        rw [hz] at ag
        rw [← h0]; simp only [sliceF, hu, ag.2 _ (List.mem_singleton.2 rfl), cutMx_dep hl hh hm]
      · cases h
    · rename_i k ep off len
      split at h
      · replace h := (bif_some h).2
        have hz : z.rd = [2 * k + 1] := by
          rcases cut_any h with ⟨_, h, _⟩ | ⟨l, q, h, _⟩ <;> (injection h with h; rw [← h])
        rw [hz] at ag
        rw [← h0]; simp only [sliceF, hu, ag.2 _ (List.mem_singleton.2 rfl), cutMx_dep hl hh hm]
      · cases h
    · rw [← h0]; simp only [sliceF, hu, cutMx_dep hl hh hm]
    · rw [← h0]; simp only [sliceF, hu, cutMx_dep hl hh hm]
    · cases h
  · cases h

theorem truncF_dep {t : TypeId} {x : V} {lo hi mx : Option Operand} (hh : ∀ x ∈ hi.toList, val fr' x = val fr x) (h : truncF X fr t x lo hi mx some = some z) (ag : AgR fr fr' z.rd) : truncF X fr' t x lo hi mx some = some z := by
  have h0 := h
  unfold truncF at h
  split at h
  · rename_i e k ep q he
    split at h
    · rename_i y hy
      replace h := (bif_some h).2
      obtain ⟨l, q', hK, h, _⟩ := cutB_ok h
      injection h with h
      have hz : z.rd = [2 * k + 1] := by rw [← h]
      rw [hz] at ag
      rw [← h0]; simp only [truncF, he, ag.2 _ (List.mem_singleton.2 rfl), hh q (by simp)]
    · cases h
  · cases h

theorem mkArg_dep {v : V} {t : PK} {a : Arg} {ro : Option Ref} {ks : List Nat} (h : mkArg X fr v t = some (a, ro, ks)) (h1 : ∀ r, ro = some r → AgR fr fr' [r.key]) (h2 : ∀ k ∈ ks, fr'.tk k = fr.tk k) : mkArg X fr' v t = some (a, ro, ks) := by
  have h0 := h
  unfold mkArg at h
  split at h
  · rename_i e
    split at h
    · split at h
      · rename_i b hb
        replace h := (bif_some h).2
        split at h
        · rename_i ds hds
          simp only [Option.some.injEq, Prod.mk.injEq] at h
          obtain ⟨rfl, rfl, rfl⟩ := h
          have e1 := (h1 _ rfl).1 _ (List.mem_singleton.2 rfl)
          rw [← h0]; simp only [mkArg, e1, hb, toDs_dep h2]
        · cases h
      · cases h
    · split at h
      · rename_i y hy
        replace h := (bif_some h).2
        simp only [Option.some.injEq, Prod.mk.injEq] at h
        obtain ⟨rfl, rfl, rfl⟩ := h
        have e1 := (h1 _ rfl).2 _ (List.mem_singleton.2 rfl)
        rw [← h0]; simp only [mkArg, e1]
      · cases h
    · cases h
  · rename_i t
    split at h
    · rename_i ds hds
      replace h := (bif_some h).2
      simp only [Option.some.injEq, Prod.mk.injEq] at h
      obtain ⟨rfl, rfl, rfl⟩ := h
      rw [← h0]; simp only [mkArg, toDs_dep h2]
    · cases h
  · split at h
    · rename_i c
      split at h
      · rename_i x hx
        simp only [Option.some.injEq, Prod.mk.injEq] at h
        obtain ⟨rfl, rfl, rfl⟩ := h
        rw [← h0]; simp only [mkArg, toD_dep h2]
      · cases h
    · cases h
  · rw [← h0]; rfl
  · rw [← h0]; rfl

theorem mkArgs_dep : ∀ {vs : List V} {ts : List PK} {as : List Arg} {rs : List Ref} {ks : List Nat}, mkArgs X fr vs ts = some (as, rs, ks) → (∀ r ∈ rs, AgR fr fr' [r.key]) → (∀ k ∈ ks, fr'.tk k = fr.tk k) → mkArgs X fr' vs ts = some (as, rs, ks)
  | [], [], as, rs, ks, h, _, _ => h
  | [], _ :: _, as, rs, ks, h, _, _ => by cases h
  | _ :: _, [], as, rs, ks, h, _, _ => by cases h
  | v :: vs, t :: ts, as, rs, ks, h, h1, h2 => by
    simp only [mkArgs] at h ⊢
    split at h
    · rename_i a r k ha
      split at h
      · rename_i as' rs' ks' has
        simp only [Option.some.injEq, Prod.mk.injEq] at h
        obtain ⟨rfl, rfl, rfl⟩ := h
        rw [mkArg_dep ha (fun r hr => h1 r (List.mem_append_left _ (by simp [hr]))) fun k hk => h2 k (List.mem_append_left _ hk), mkArgs_dep has (fun r hr => h1 r (List.mem_append_right _ hr)) fun k hk => h2 k (List.mem_append_right _ hk)]
      · cases h
    · cases h

theorem resCs_dep {α : Type} {d : Nat} {g : FuncId} {kf : Bool} {r : List D} : ∀ {n j : Nat} {K : List C → List (Nat × Tk) → Option α} {q : α}, resCs X fr d g kf r j n K = some q →
    ∃ cs ks, (∀ (β : Type) (K' : List C → List (Nat × Tk) → Option β), resCs X fr d g kf r j n K' = K' cs ks) ∧ K cs ks = some q ∧ ((∀ x ∈ ks, fr'.tk x.1 = fr.tk x.1) → ∀ (β : Type) (K' : List C → List (Nat × Tk) → Option β), resCs X fr' d g kf r j n K' = K' cs ks)
  | 0, j, K, q, h => ⟨_, _, fun _ _ => rfl, h, fun _ _ _ => rfl⟩
  | n + 1, j, K, q, h => by
    simp only [resCs] at h
    obtain ⟨cs, ks, hK, h, hd⟩ := resCs_dep h
    cases kf with
    | false =>
      simp only [cond_false] at h
      exact ⟨_, _, fun β K' => by simp only [resCs]; rw [hK]; rfl, h, fun ag β K' => by simp only [resCs]; rw [hd ag]; rfl⟩
    | true =>
      simp only [cond_true] at h
      split at h
      · rename_i e he
        replace h := takeL_some h; obtain ⟨e', rows, hr, hq, h⟩ := h
        refine ⟨_, _, fun β K' => by simp only [resCs]; rw [hK]; simp only [cond_true, he, hr, takeL, hq, if_true], h, fun ag β K' => ?_⟩
        simp only [resCs]
        rw [hd fun x hx => ag x (List.mem_cons_of_mem _ hx)]
        have e1 : nextT fr' (key d (j + 1)) = nextT fr (key d (j + 1)) := by simp only [nextT, ag _ List.mem_cons_self]
        simp only [cond_true, he, hr, takeL, hq, if_true, e1]
      · rename_i he
        exact ⟨_, _, fun β K' => by simp only [resCs]; rw [hK]; simp only [cond_true, he], h, fun ag β K' => by simp only [resCs]; rw [hd ag]; simp only [cond_true, he]⟩
theorem resV_dep {α : Type} {d : Nat} {g : FuncId} {kf : Bool} {r : List D} : ∀ {ts : List TypeId} {j : Nat} {K : List V → List (Nat × Bx) → List (Nat × Tk) → Option α} {q : α}, resV X fr d g kf r j ts K = some q →
    ∃ vs bs ks, (∀ (β : Type) (K' : List V → List (Nat × Bx) → List (Nat × Tk) → Option β), resV X fr d g kf r j ts K' = K' vs bs ks) ∧ K vs bs ks = some q ∧
      ((∀ x ∈ bs, fr'.bx x.1 = fr.bx x.1) → (∀ x ∈ ks, fr'.tk x.1 = fr.tk x.1) → ∀ (β : Type) (K' : List V → List (Nat × Bx) → List (Nat × Tk) → Option β), resV X fr' d g kf r j ts K' = K' vs bs ks)
  | [], j, K, q, h => ⟨_, _, _, fun _ _ => rfl, h, fun _ _ _ _ => rfl⟩
  | t :: ts, j, K, q, h => by
    simp only [resV] at h
    split at h
    · rename_i e he
      replace h := bif_not h; obtain ⟨hz, h⟩ := h
      obtain ⟨vs, bs, ks, hK, h, hd⟩ := resV_dep h
      refine ⟨_, _, _, fun β K' => by simp only [resV, he, hz, cond_false]; rw [hK], h, fun ab at_ β K' => ?_⟩
      simp only [resV, he, hz, cond_false]
      rw [hd (fun x hx => ab x (List.mem_cons_of_mem _ hx)) at_]
      have e1 : nextB fr' (key d (j + 1)) = nextB fr (key d (j + 1)) := by simp only [nextB, ab _ List.mem_cons_self]
      rw [e1]
    · rename_i he
      obtain ⟨vs, bs, ks, hK, h, hd⟩ := resV_dep h
      obtain ⟨cs, ks', hK2, h, hd2⟩ := resCs_dep (fr' := fr') h
      refine ⟨_, _, _, fun β K' => by simp only [resV, he]; rw [hK, hK2], h, fun ab at_ β K' => ?_⟩
      simp only [resV, he]
      rw [hd ab fun x hx => at_ x (List.mem_append_right _ hx), hd2 fun x hx => at_ x (List.mem_append_left _ hx)]
theorem writeB_dep {r : List D} : ∀ {rs : List Ref} {m : Nat}, (∀ x ∈ rs, AgR fr fr' [x.key]) → writeB fr' r m rs = writeB fr r m rs
  | [], m, _ => rfl
  | .b s e off n :: rs, m, h => by
    have e1 := (h _ List.mem_cons_self).1 s (List.mem_singleton.2 rfl)
    simp only [writeB, writeB_dep fun x hx => h x (List.mem_cons_of_mem _ hx), e1]
  | .t k e i off n :: rs, m, h => by
    have e1 := (h _ List.mem_cons_self).2 k (List.mem_singleton.2 rfl)
    simp only [writeB, writeB_dep fun x hx => h x (List.mem_cons_of_mem _ hx), e1]

theorem callF_dep {d : Nat} {g : FuncId} {args : List V} (h : callF X fr d g args some = some z) (ag : AgR fr fr' z.rd) : callF X fr' d g args some = some z := by
  unfold callF at h ⊢
  split at h
  · cases h
  · rename_i fn hfn
    replace h := bif_not h; obtain ⟨hb, h⟩ := h
    simp only [hb, cond_false]
    split at h
    · cases h
    rename_i ex hex
    split at h
    · cases h
    · rename_i as rs ks hma
      simp only at h
      replace h := bif_some h; obtain ⟨hd, h⟩ := h
      have hda : ∀ {γ : Type} (K' : List Arg → Option γ), destrAs X.P (kindsOf X.P X.H g fn) as K' = K' as := destrAs_eq _ _ _ h
      rw [hda] at h
      replace h := obind_some h; obtain ⟨q, hq, h⟩ := h
      have hdr : ∀ {γ : Type} (K' : List D → Option γ), destrT X.P (answerTs X.P fn.resultTypes.toList (kindsOf X.P X.H g fn)) q K' = K' q := destrT_eq h
      rw [hdr] at h
      obtain ⟨vs, bs, ts, hK, h, hdep⟩ := resV_dep (fr' := fr') h
      injection h with h
      subst h
      simp only at ag
      have hr : ∀ r ∈ rs, AgR fr fr' [r.key] := fun r hr => ag.mono fun k hk => by
        rw [List.mem_singleton.1 hk]
        simp only [List.mem_append, List.mem_map]
        exact .inl (.inl (.inl ⟨r, hr, rfl⟩))
      have hk : ∀ k ∈ ks, fr'.tk k = fr.tk k := fun k hk => ag.2 k (by
        simp only [List.mem_append, List.mem_map]
        exact .inl (.inl (.inr ⟨k, hk, rfl⟩)))
      have hb' : ∀ x ∈ bs, fr'.bx x.1 = fr.bx x.1 := fun x hx => ag.1 x.1 (by
        simp only [List.mem_append, List.mem_map]
        exact .inl (.inr ⟨x, hx, rfl⟩))
      have ht' : ∀ x ∈ ts, fr'.tk x.1 = fr.tk x.1 := fun x hx => ag.2 x.1 (by
        simp only [List.mem_append, List.mem_map]
        exact .inr ⟨x, hx, rfl⟩)
      rw [mkArgs_dep hma hr hk]
      simp only [hd, cond_true, hda, hq, obind, hdr]
      rw [hdep hb' ht', writeB_dep hr, freeze_dep hk]

theorem builtinF_dep {d : Nat} {b : Builtin} {ts : Array TypeId} {args : List V} (h : builtinF X fr d b ts args some = some z) (ag : AgR fr fr' z.rd) : builtinF X fr' d b ts args some = some z := by
  have h0 := h
  unfold builtinF at h
  split at h
  · split at h
    · rename_i t x ht
      simp only [builtinF, ht]; exact lenF_dep h ag
    · cases h
  · split at h
    · rename_i t u s x ht
      cases hc : Nat.beq t u with
      | true => rw [hc, cond_true] at h; simp only [builtinF, ht, hc, cond_true]; exact appendF_dep h ag
      | false => rw [hc, cond_false] at h; simp only [builtinF, ht, hc, cond_false]; exact appendZF_dep h ag
    · cases h
  · rw [← h0]; simp only [builtinF]
  · rw [← h0]; simp only [builtinF]
  · rw [← h0]; simp only [builtinF]
  · cases h

theorem opF_dep {o : Oper} (h : opF X fr o some = some z) (hv : ∀ x ∈ o.op.operands.toList, val fr' x = val fr x) (ag : AgR fr fr' z.rd) : opF X fr' o some = some z := by
  have h0 := h
  unfold opF at h
  have ml : ∀ (xs : Array Operand), (∀ x ∈ xs.toList, val fr' x = val fr x) → xs.toList.map (val fr') = xs.toList.map (val fr) := fun xs hx => List.map_congr_left hx
  have mp : ∀ (ps : Array (Nat × Operand)), (∀ x ∈ (ps.map (·.2)).toList, val fr' x = val fr x) → (ps.toList.map fun p => (p.1, val fr' p.2)) = ps.toList.map fun p => (p.1, val fr p.2) := fun ps hp => List.map_congr_left fun p hm => by
    rw [hp p.2 (by rw [Array.toList_map]; exact List.mem_map.2 ⟨p, hm, rfl⟩)]
  cases hop : o.op with
  | move x =>
    rw [← h0]; unfold opF; simp only [hop]
    rw [hv x (by simp [hop, Op.operands])]
  | assign x =>
    simp only [hop] at h
    have hx := hv x (by simp [hop, Op.operands])
    split at h
    · rename_i hn
      cases hc : (X.H X.f).nils.any (Nat.beq (o.dst.getD 0)) with
      | true =>
        rw [hc, cond_true] at h
        injection h with h
        have e1 : nextT fr' (key (o.dst.getD 0) 0) = nextT fr (key (o.dst.getD 0) 0) := ag.nextT (by rw [← h]; exact List.mem_singleton.2 rfl)
        rw [← h0]; unfold opF; simp only [hop, hx, hn, hc, cond_true, e1]
      | false => rw [← h0]; unfold opF; simp only [hop, hx, hn, hc, cond_false]
    · rw [← h0]; unfold opF; simp only [hop, hx]
  | pick c x y =>
    rw [← h0]; unfold opF; simp only [hop]
    rw [hv c (by simp [hop, Op.operands]), hv x (by simp [hop, Op.operands]), hv y (by simp [hop, Op.operands])]
  | alloc t =>
    simp only [hop] at h
    obtain ⟨zz, _, _, hK, h, _⟩ := zeroF_ok h
    unfold opF; simp only [hop]; rw [hK]; exact boxF_dep h ag
  | box t x =>
    simp only [hop] at h
    replace h := bif_some h; obtain ⟨hc, h⟩ := h
    unfold opF; simp only [hop, hv x (by simp [hop, Op.operands]), hc, cond_true]; exact boxF_dep h ag
  | build t parts =>
    rw [← h0]; unfold opF; simp only [hop]
    rw [mp parts fun x hx => hv x (by simpa [hop, Op.operands] using hx)]
  | buildSlice t n parts =>
    simp only [hop] at h
    unfold opF; simp only [hop]
    rw [mp parts fun x hx => hv x (by simpa [hop, Op.operands] using hx)]
    exact buildSliceF_dep h ag
  | load t x => simp only [hop] at h; unfold opF; simp only [hop, hv x (by simp [hop, Op.operands])]; exact loadF_dep h ag
  | store t x y => simp only [hop] at h; unfold opF; simp only [hop, hv x (by simp [hop, Op.operands]), hv y (by simp [hop, Op.operands])]; exact storeF_dep h ag
  | nilCheck x => rw [← h0]; unfold opF; simp only [hop, hv x (by simp [hop, Op.operands])]
  | binOp op xt x y yt => rw [← h0]; unfold opF; simp only [hop, hv x (by simp [hop, Op.operands]), hv y (by simp [hop, Op.operands])]
  | unOp op xt x => rw [← h0]; unfold opF; simp only [hop, hv x (by simp [hop, Op.operands])]
  | convert s t x => rw [← h0]; unfold opF; simp only [hop, hv x (by simp [hop, Op.operands])]
  | makeSlice t l c => simp only [hop] at h; unfold opF; simp only [hop, hv l (by simp [hop, Op.operands]), hv c (by simp [hop, Op.operands])]; exact makeSliceF_dep h ag
  | slice t x lo hi mx =>
    simp only [hop] at h; unfold opF; simp only [hop, hv x (by simp [hop, Op.operands])]
    cases hq : (X.H X.f).trunc.any (Nat.beq (o.dst.getD 0)) with
    | true =>
      rw [hq, cond_true] at h
      rw [cond_true]
      refine truncF_dep (fun y hy => hv y ?_) h ag
      simp [hop, Op.operands]; simp at hy; simp [hy]
    | false =>
    rw [hq, cond_false] at h
    rw [cond_false]
    refine sliceF_dep (fun y hy => hv y ?_) (fun y hy => hv y ?_) (fun y hy => hv y ?_) h ag
    all_goals simp [hop, Op.operands]; simp at hy; simp [hy]
  | fieldAddr t x f => rw [← h0]; unfold opF; simp only [hop, hv x (by simp [hop, Op.operands])]
  | field t x f => rw [← h0]; unfold opF; simp only [hop, hv x (by simp [hop, Op.operands])]
  | indexAddr t x i => simp only [hop] at h; unfold opF; simp only [hop, hv x (by simp [hop, Op.operands]), hv i (by simp [hop, Op.operands])]; exact indexAddrF_dep h ag
  | index t x i => rw [← h0]; unfold opF; simp only [hop, hv x (by simp [hop, Op.operands]), hv i (by simp [hop, Op.operands])]
  | extract t i => rw [← h0]; unfold opF; simp only [hop, hv t (by simp [hop, Op.operands])]
  | call c =>
    simp only [hop] at h
    have ha := ml c.args fun x hx => hv x (by simp only [hop, Op.operands, Call.operands]; simp at hx; simp [hx])
    split at h
    · rename_i b hb
      unfold opF; simp only [hop, hb, ha]; exact builtinF_dep h ag
    · rename_i g hg
      cases hx : isExtF X.P g with
      | true =>
        rw [hx, cond_true] at h
        unfold opF; simp only [hop, hg, ha, hx, cond_true]; exact h
      | false =>
        rw [hx, cond_false] at h
        replace h := bif_some h; obtain ⟨hbs, h⟩ := h
        unfold opF; simp only [hop, hg, ha, hx, cond_false, hbs, cond_true]; exact callF_dep h ag
    · rename_i t hg
      have htm : fr'.tm t = fr.tm t := hv (.tmp t) (by simp [hop, Op.operands, Call.operands, hg])
      split at h
      · rename_i g b caps hc
        replace h := bif_some h; obtain ⟨hbs, h⟩ := h
        unfold opF; simp only [hop, hg, htm, hc, ha, hbs, cond_true]; exact callF_dep h ag
      · cases h
    · cases h
  | makeFunc f first captured =>
    cases f with
    | func b => rw [← h0]; unfold opF; simp only [hop, ml captured fun x hx => hv x (by simp only [hop, Op.operands]; simp at hx; simp [hx])]
    | _ => simp only [hop] at h; cases h
  | _ => simp only [hop] at h; cases h

end Go.Vm

/- A region whose order is drawn: any order that the edges allow gives the same frame. -/
set_option linter.unusedVariables false
set_option linter.unusedSimpArgs false
namespace Go.Vm

variable {w0 : World} {S : Sp} {P : Program} {X : Env}

abbrev Ent := Nat × List Nat × List Nat

/-- One operation on the frame, with what it looked at and wrote. -/
inductive StepF (X : Env) (all : Array Oper) (o : Oper) (n : Nat) : Fr → Ent → Fr → Prop
  | go {fr : Fr} {z : Eff} (h : opF X fr o some = some z) (hg : o.guard = none ∨ ∃ j want t, o.guard = some (j, want) ∧ (all[j]?).bind (·.dst) = some t ∧ fr.tm t = .one (.d (.bool want))) : StepF X all o n fr (entGo all o n z) (fr.app o.dst z)
  | no {fr : Fr} {j : Nat} {want : Bool} (hg : o.guard = some (j, want)) (hn : (all[j]?).bind (·.dst) = none ∨ ∃ t, (all[j]?).bind (·.dst) = some t ∧ (fr.tm t = .skip ∨ fr.tm t = .one (.d (.bool (!want))))) : StepF X all o n fr (entNo all o n) (fr.put o.dst .skip)

theorem upd_id {α : Type} (f : Nat → α) (k : Nat) (v : α) (h : f k = v) : upd f k v = f := by
  funext j
  by_cases hj : j = k
  · subst hj; rw [upd_same, h]
  · rw [upd_ne _ _ hj]

/-- A step on the machine. -/
theorem step_ok (hN : NoNum X.P) (hC : ∀ g as r, X.call g as = some r → Con X.P X.H g as r) {all : Array Oper} (hb : ∀ o ∈ all, ∀ d, o.dst = some d → d < X.nt) {i : Nat} {o : Oper} (ho : all[i]? = some o) {fr fr' : Fr} {e : Ent} {n : Nat} (h : StepF X all o n fr e fr')
    {w : World} {A : As} {a : Act} (hst : St X.nt w0 S w A fr a.tmps) {Q : Exit → Act → World → Prop} {K : Act → World → Prop} (hK : ∀ A' w' a', St X.nt w0 S w' A' fr' a'.tmps → a'.defers = a.defers → K a' w') : wpOp X.P all Q i K a w := by
  have hd : ∀ d, o.dst = some d → d < X.nt := hb o (Array.mem_of_getElem? ho)
  unfold wpOp
  simp only [ho]
  have hdef : ∀ v, (a.put o.dst v).defers = a.defers := fun v => by cases o.dst <;> rfl
  cases h with
  | @go z h hg =>
    have hw : Region.wanted o (yielded all a.tmps) = true := by
      rcases hg with hg | ⟨j, want, t, hg, ht, hs⟩
      · simp [Region.wanted, hg]
      · have hv := hst.tm t
        rw [hs] at hv
        rw [wanted_b hg (yield_bool ht hv.d_inv.bool_inv)]
        simp
    simp only [hw, if_true]
    obtain ⟨z', hK', hsem⟩ := opF_ok h
    have : z' = z := by have := (hK' _ some).symm.trans h; injection this
    subst this
    exact .inl (hsem w0 S w A a _ Q hN hC hd hst fun A' v w' h2 => hK A' w' _ h2 (hdef v))
  | no hg hn =>
    have hw : Region.wanted o (yielded all a.tmps) = false := by
      rcases hn with hn | ⟨t, ht, hs | hs⟩
      · exact wanted_no hg (yield_none hn)
      · have hv := hst.tm t
        rw [hs] at hv
        refine wanted_no hg (yield_undef ht ?_)
        generalize a.tmps.getD t Go.undef = u at hv
        cases hv; rfl
      · have hv := hst.tm t
        rw [hs] at hv
        rw [wanted_b hg (yield_bool ht hv.d_inv.bool_inv)]
        simp
    simp only [hw, Bool.false_eq_true, if_false]
    exact hK A w _ (hst.put o.dst .skip _ hd .skip) (hdef _)

/-- The evaluator's own order, step by step. -/
def TraceP (X : Env) (all : Array Oper) (r : List D) (l : List Oper) (fr : Fr) (acc : List Ent) (K : Fr → List Ent → R) : Prop :=
  ∃ (f : Nat → Fr) (E : Nat → Ent), f 0 = fr ∧ (∀ i o, l[i]? = some o → StepF X all o (acc.length + i) (f i) (E i) (f (i + 1))) ∧ K (f l.length) (((List.range l.length).map E).reverse ++ acc) = some r
theorem opsF_trace {all : Array Oper} {r : List D} : ∀ (l : List Oper) (fr : Fr) (acc : List Ent) (K : Fr → List Ent → R), opsF X all l fr acc K = some r →
    TraceP X all r l fr acc K
  | [], fr, acc, K, h => ⟨fun _ => fr, fun _ => (0, [], []), rfl, fun i o hi => by simp at hi, h⟩
  | o :: rest, fr, acc, K, h => by
    have fin : ∀ (e : Ent) (fr1 : Fr), StepF X all o acc.length fr e fr1 → opsF X all rest fr1 (e :: acc) K = some r →
        TraceP X all r (o :: rest) fr acc K := by
      intro e fr1 hs hh
      obtain ⟨f, E, h0, h1, h2⟩ := opsF_trace rest fr1 (e :: acc) K hh
      refine ⟨fun i => match i with | 0 => fr | i + 1 => f i, fun i => match i with | 0 => e | i + 1 => E i, rfl, fun i o' hi => ?_, ?_⟩
      · cases i with
        | zero =>
          simp only [List.getElem?_cons_zero, Option.some.injEq] at hi
          subst hi
          simp only [h0]
          exact hs
        | succ i =>
          have := h1 i o' (by simpa using hi)
          rw [List.length_cons, Nat.add_assoc, Nat.add_comm 1 i] at this
          exact this
      · rw [List.length_cons, List.range_succ_eq_map, List.map_cons, List.map_map, List.reverse_cons, List.append_assoc]
        exact h2
    unfold opsF at h
    simp only at h
    split at h
    · rename_i hg
      obtain ⟨z, hK, _⟩ := opF_ok h
      rw [hK] at h
      exact fin _ _ (.go (hK _ some) (.inl hg)) h
    · rename_i j want hg
      split at h
      · rename_i ht
        exact fin _ _ (.no hg (.inl ht)) h
      · rename_i t ht
        split at h
        · rename_i hs
          exact fin _ _ (.no hg (.inr ⟨t, ht, .inl hs⟩)) h
        · rename_i x hs
          replace h := takeB_some h; obtain ⟨b, rfl, h⟩ := h
          have e1 : ({ fr with tm := upd fr.tm t (.one (.d (.bool b))) } : Fr) = fr := by rw [upd_id _ _ _ hs]
          have go : (opF X fr o fun x => opsF X all rest (fr.app o.dst x) (entGo all o acc.length x :: acc) K) = some r → b = want → TraceP X all r (o :: rest) fr acc K := fun hh hw => by
            obtain ⟨z, hK, _⟩ := opF_ok hh
            rw [hK] at hh
            exact fin _ _ (.go (hK _ some) (.inr ⟨j, want, t, hg, ht, by rw [hs, hw]⟩)) hh
          have no : opsF X all rest (fr.put o.dst .skip) (entNo all o acc.length :: acc) K = some r → b = !want → TraceP X all r (o :: rest) fr acc K := fun hh hw =>
            fin _ _ (.no hg (.inr ⟨t, ht, .inr (by rw [hs, hw])⟩)) hh
          cases b <;> cases want <;> simp only [br, cond_true, cond_false, e1] at h
          · exact go h rfl
          · exact no h rfl
          · exact no h rfl
          · exact go h rfl
        · cases h

/-! ### What a step changes, and what it hangs on -/
def Same (k : Nat) (fr fr' : Fr) : Prop := (∀ t, k = 2 * t + 1 → fr.tm t = fr'.tm t) ∧ (∀ s, k = 4 * s → fr.bx s = fr'.bx s) ∧ (∀ t, k = 4 * t + 2 → fr.tk t = fr'.tk t)
theorem Same.refl (k : Nat) (fr : Fr) : Same k fr fr := ⟨fun _ _ => rfl, fun _ _ => rfl, fun _ _ => rfl⟩
theorem Same.symm {k : Nat} {fr fr' : Fr} (h : Same k fr fr') : Same k fr' fr := ⟨fun t e => (h.1 t e).symm, fun t e => (h.2.1 t e).symm, fun t e => (h.2.2 t e).symm⟩
theorem Same.trans {k : Nat} {a b c : Fr} (h : Same k a b) (h' : Same k b c) : Same k a c := ⟨fun t e => (h.1 t e).trans (h'.1 t e), fun t e => (h.2.1 t e).trans (h'.2.1 t e), fun t e => (h.2.2 t e).trans (h'.2.2 t e)⟩
theorem same_all {fr fr' : Fr} (h : ∀ k, Same k fr fr') : fr = fr' := by
  cases fr; cases fr'
  congr
  · funext t; exact (h (2 * t + 1)).1 t rfl
  · funext s; exact (h (4 * s)).2.1 s rfl
  · funext t; exact (h (4 * t + 2)).2.2 t rfl

theorem upds_in {α : Type} {f g : Nat → Option α} : ∀ {l : List (Nat × α)} {k : Nat}, k ∈ l.map (·.1) → upds f l k = upds g l k
  | [], k, h => by cases h
  | (j, v) :: l, k, h => by
    by_cases hj : k = j
    · subst hj; rw [upds_same, upds_same]
    · rw [upds_ne _ _ _ hj, upds_ne _ _ _ hj]
      exact upds_in (by simpa [hj] using h)
theorem upds_out {α : Type} {f : Nat → Option α} : ∀ {l : List (Nat × α)} {k : Nat}, k ∉ l.map (·.1) → upds f l k = f k
  | [], k, h => rfl
  | (j, v) :: l, k, h => by
    simp only [List.map_cons, List.mem_cons, not_or] at h
    rw [upds_ne _ _ _ h.1]
    exact upds_out h.2
theorem put_tm (fr : Fr) (d : Option Tmp) (v : V) (t : Nat) : (fr.put d v).tm t = if d = some t then v else fr.tm t := by
  cases d with
  | none => rfl
  | some e =>
    simp only [Fr.put]
    by_cases h : e = t
    · subst h; simp [upd_same]
    · rw [upd_ne _ _ (Ne.symm h), if_neg (fun q => h (Option.some.inj q))]

theorem app_same_out {fr : Fr} {all : Array Oper} {o : Oper} {n : Nat} {z : Eff} {k : Nat} (h : k ∉ (entGo all o n z).2.2) : Same k fr (fr.app o.dst z) := by
  simp only [entGo, List.mem_append, not_or] at h
  refine ⟨fun t e => ?_, fun s e => ?_, fun t e => ?_⟩
  · show fr.tm t = (fr.put o.dst z.v).tm t
    rw [put_tm, if_neg]
    intro q
    exact h.1 (List.mem_map.2 ⟨t, by rw [q]; simp, e.symm⟩)
  · show fr.bx s = upds fr.bx z.bx s
    rw [upds_out]
    intro q
    obtain ⟨x, hx, hxs⟩ := List.mem_map.1 q
    exact h.2.1 (List.mem_map.2 ⟨x, hx, by rw [hxs]; exact e.symm⟩)
  · show fr.tk t = upds fr.tk z.tk t
    rw [upds_out]
    intro q
    obtain ⟨x, hx, hxs⟩ := List.mem_map.1 q
    exact h.2.2 (List.mem_map.2 ⟨x, hx, by rw [hxs]; exact e.symm⟩)
theorem app_same_in {fr g : Fr} {all : Array Oper} {o : Oper} {n : Nat} {z : Eff} {k : Nat} (h : k ∈ (entGo all o n z).2.2) : Same k (g.app o.dst z) (fr.app o.dst z) := by
  simp only [entGo, List.mem_append, List.mem_map] at h
  refine ⟨fun t e => ?_, fun s e => ?_, fun t e => ?_⟩
  · show (g.put o.dst z.v).tm t = (fr.put o.dst z.v).tm t
    rw [put_tm, put_tm]
    rcases h with ⟨d, hd, he⟩ | ⟨x, hx, he⟩ | ⟨x, hx, he⟩
    · replace he : 2 * d + 1 = k := he
      have : d = t := Nat.eq_of_mul_eq_mul_left (by decide : 0 < 2) (Nat.succ.inj (he.trans e))
      subst this
      have : o.dst = some d := by simpa using hd
      rw [if_pos this, if_pos this]
    · omega
    · omega
  · show upds g.bx z.bx s = upds fr.bx z.bx s
    rcases h with ⟨d, hd, he⟩ | ⟨x, hx, he⟩ | ⟨x, hx, he⟩
    · omega
    · exact upds_in (List.mem_map.2 ⟨x, hx, by omega⟩)
    · omega
  · show upds g.tk z.tk t = upds fr.tk z.tk t
    rcases h with ⟨d, hd, he⟩ | ⟨x, hx, he⟩ | ⟨x, hx, he⟩
    · omega
    · omega
    · exact upds_in (List.mem_map.2 ⟨x, hx, by omega⟩)

theorem looks_guard {all : Array Oper} {o : Oper} {j : Nat} {want : Bool} {t : Nat} (hg : o.guard = some (j, want)) (ht : (all[j]?).bind (·.dst) = some t) : t ∈ o.looksAt all := by
  unfold Oper.looksAt
  rw [hg]
  exact List.mem_append_right _ (by simp [ht])
theorem looks_op {all : Array Oper} {o : Oper} {t : Nat} (h : .tmp t ∈ o.op.operands.toList) : t ∈ o.looksAt all := by
  unfold Oper.looksAt
  exact List.mem_append_left _ (List.mem_filterMap.2 ⟨.tmp t, h, rfl⟩)

/-- The same step from a frame that looks alike. -/
theorem StepF.alike {all : Array Oper} {o : Oper} {n : Nat} {fr fr' g : Fr} {e : Ent} (h : StepF X all o n fr e fr') (hs : ∀ k ∈ e.2.1, Same k g fr) : ∃ g', StepF X all o n g e g' ∧ (∀ k, k ∈ e.2.2 → Same k g' fr') ∧ ∀ k, k ∉ e.2.2 → Same k g' g := by
  cases h with
  | @go z h hg =>
    have htm : ∀ t, t ∈ o.looksAt all → g.tm t = fr.tm t := fun t ht => (hs (2 * t + 1) (List.mem_append_left _ (List.mem_map.2 ⟨t, ht, rfl⟩))).1 t rfl
    have h' : opF X g o some = some z := by
      refine opF_dep h (fun x hx => ?_) ⟨fun s hk => ?_, fun t hk => ?_⟩
      · cases x with
        | tmp t => exact htm t (looks_op hx)
        | _ => rfl
      · exact (hs (2 * (2 * s)) (List.mem_append_right _ (List.mem_map.2 ⟨_, hk, rfl⟩))).2.1 s (by omega)
      · exact (hs (2 * (2 * t + 1)) (List.mem_append_right _ (List.mem_map.2 ⟨_, hk, rfl⟩))).2.2 t (by omega)
    refine ⟨g.app o.dst z, .go h' ?_, fun k hk => app_same_in hk, fun k hk => (app_same_out hk).symm⟩
    rcases hg with hg | ⟨j, want, t, hg, ht, hv⟩
    · exact .inl hg
    · exact .inr ⟨j, want, t, hg, ht, by rw [htm t (looks_guard hg ht)]; exact hv⟩
  | @no j want hg hn =>
    have htm : ∀ t, t ∈ o.looksAt all → g.tm t = fr.tm t := fun t ht => (hs (2 * t + 1) (List.mem_map.2 ⟨t, ht, rfl⟩)).1 t rfl
    refine ⟨g.put o.dst .skip, .no hg ?_, fun k hk => ?_, fun k hk => ?_⟩
    · rcases hn with hn | ⟨t, ht, hv⟩
      · exact .inl hn
      · refine .inr ⟨t, ht, ?_⟩
        rw [htm t (looks_guard hg ht)]; exact hv
    · obtain ⟨d, hd, he⟩ := List.mem_map.1 hk
      refine ⟨fun t e => ?_, fun s e => ?_, fun t e => ?_⟩
      · rw [put_tm, put_tm]
        have : d = t := Nat.eq_of_mul_eq_mul_left (by decide : 0 < 2) (Nat.succ.inj (he.trans e))
        subst this
        have : o.dst = some d := by simpa using hd
        rw [if_pos this, if_pos this]
      · omega
      · omega
    · refine ⟨fun t e => ?_, fun s e => by simp, fun t e => by simp⟩
      rw [put_tm, if_neg]
      intro q
      exact hk (List.mem_map.2 ⟨t, by rw [q]; simp, e.symm⟩)
theorem StepF.out {all : Array Oper} {o : Oper} {n : Nat} {fr fr' : Fr} {e : Ent} (h : StepF X all o n fr e fr') {k : Nat} (hk : k ∉ e.2.2) : Same k fr' fr := by
  obtain ⟨g', h1, h2, h3⟩ := h.alike (g := fr) fun k _ => Same.refl k fr
  cases h with
  | go h hg => exact (app_same_out hk).symm
  | no hg hn =>
    refine ⟨fun t e => ?_, fun s e => by simp, fun t e => by simp⟩
    rw [put_tm, if_neg]
    intro q
    exact hk (List.mem_map.2 ⟨t, by rw [q]; simp, e.symm⟩)
theorem StepF.idx {all : Array Oper} {o : Oper} {n : Nat} {fr fr' : Fr} {e : Ent} (h : StepF X all o n fr e fr') : e.1 = n := by cases h <;> rfl

/-! ### What must come before -/
inductive Reach (ops : Array Oper) : Nat → Nat → Prop
  | one {i : Nat} {o : Oper} {e : Edge} (ho : ops[i]? = some o) (he : e ∈ o.after) (hb : Region.binds .any e = true) : Reach ops i e.on
  | more {i j : Nat} {o : Oper} {e : Edge} (ho : ops[i]? = some o) (he : e ∈ o.after) (hb : Region.binds .any e = true) (h : Reach ops e.on j) : Reach ops i j

theorem fold_bits {ops : Array Oper} {i : Nat} {o : Oper} (ho : ops[i]? = some o) {acc : List Nat} (hacc : ∀ i m, acc[i]? = some m → ∀ j, m.testBit j = true → Reach ops i j) : ∀ (es : List Edge) (s : Nat), (∀ e ∈ es, e ∈ o.after) → (∀ j, s.testBit j = true → Reach ops i j) →
    ∀ j, (es.foldl (fun s e => bif Region.binds .any e then s ||| 2 ^ e.on ||| acc.getD e.on 0 else s) s).testBit j = true → Reach ops i j
  | [], s, _, hs, j, h => hs j h
  | e :: es, s, he, hs, j, h => by
    rw [List.foldl_cons] at h
    refine fold_bits ho hacc es _ (fun e' h' => he e' (List.mem_cons_of_mem _ h')) (fun q hq => ?_) j h
    cases hb : Region.binds .any e with
    | false => rw [hb, cond_false] at hq; exact hs q hq
    | true =>
      rw [hb, cond_true, Nat.testBit_or, Nat.testBit_or, Nat.testBit_two_pow, Bool.or_eq_true, Bool.or_eq_true, decide_eq_true_eq] at hq
      rcases hq with (hq | hq) | hq
      · exact hs q hq
      · subst hq; exact .one ho (he e List.mem_cons_self) hb
      · cases hm : acc[e.on]? with
        | none => simp [List.getD, hm] at hq
        | some m =>
          simp only [List.getD, hm, Option.getD_some] at hq
          exact .more ho (he e List.mem_cons_self) hb (hacc _ m hm q hq)
theorem befs_ok {ops : Array Oper} : ∀ (l : List Oper) (acc : List Nat), (∀ q, l[q]? = ops[acc.length + q]?) → (∀ i m, acc[i]? = some m → ∀ j, m.testBit j = true → Reach ops i j) → ∀ i m, (befs l acc)[i]? = some m → ∀ j, m.testBit j = true → Reach ops i j
  | [], acc, _, h, i, m, hm, j, hj => h i m hm j hj
  | o :: os, acc, hl, h, i, m, hm, j, hj => by
    have ho : ops[acc.length]? = some o := by have := hl 0; simpa using this.symm
    refine befs_ok os _ (fun q => ?_) (fun i' m' hm' j' hj' => ?_) i m hm j hj
    · have := hl (q + 1)
      simp only [List.getElem?_cons_succ] at this
      rw [this]
      congr 1
      simp; omega
    · by_cases hi : i' < acc.length
      · rw [List.getElem?_append_left hi] at hm'
        exact h i' m' hm' j' hj'
      · have hi' : i' = acc.length := by
          have := (List.getElem?_eq_some_iff.1 hm').1
          simp at this; omega
        subst hi'
        rw [List.getElem?_append_right (Nat.le_refl _), Nat.sub_self, List.getElem?_cons_zero, Option.some.injEq] at hm'
        subst hm'
        exact fold_bits ho h _ 0 (fun e he => Array.mem_toList_iff.1 he) (fun j hj => by simp at hj) j' hj'
theorem edges_ok : ∀ (l : List Oper) (k : Nat), edgesOk k l = true → ∀ q o, l[q]? = some o → ∀ e ∈ o.after, Region.binds .any e = true → e.on < k + q
  | [], k, _, q, o, h, _, _, _ => by simp at h
  | x :: l, k, hk, q, o, h, e, he, hb => by
    simp only [edgesOk, Bool.and_eq_true] at hk
    cases q with
    | zero =>
      simp only [List.getElem?_cons_zero, Option.some.injEq] at h
      subst h
      have := List.all_eq_true.1 hk.1 e (Array.mem_toList_iff.2 he)
      rw [hb] at this
      simp only [Bool.not_true, Bool.false_or] at this
      have := Nat.le_of_ble_eq_true this
      omega
    | succ q =>
      have := edges_ok l (k + 1) hk.2 q o (by simpa using h) e he hb
      omega
theorem order_ok {bef : List Nat} : ∀ (l : List Ent), orderOk bef l = true → ∀ (p q : Nat) (x y : Ent), l[p]? = some x → l[q]? = some y → p < q → ((bef.getD x.1 0).testBit y.1 || apartB x y) = true
  | [], _, p, q, x, y, h, _, _ => by simp at h
  | z :: l, hl, p, q, x, y, hx, hy, hpq => by
    simp only [orderOk, Bool.and_eq_true] at hl
    cases q with
    | zero => omega
    | succ q =>
      cases p with
      | zero =>
        simp only [List.getElem?_cons_zero, Option.some.injEq] at hx
        subst hx
        exact List.all_eq_true.1 hl.1 y (List.mem_of_getElem? (by simpa using hy))
      | succ p => exact order_ok l hl.2 p q x y (by simpa using hx) (by simpa using hy) (by omega)
theorem apart_ok {a b : Ent} (h : apartB a b = true) : (∀ k ∈ a.2.2, k ∉ b.2.1 ∧ k ∉ b.2.2) ∧ ∀ k ∈ b.2.2, k ∉ a.2.1 := by
  unfold apartB at h
  simp only [Bool.and_eq_true, Bool.not_eq_true', List.any_eq_false, Bool.or_eq_true, not_or, Bool.not_eq_true] at h
  have beq : ∀ {k : Nat} {l : List Nat}, (∀ x ∈ l, k.beq x = false) → k ∉ l := fun {k l} hh hm => by
    have := hh k hm
    rw [Nat.beq_refl] at this; cases this
  exact ⟨fun k hk => ⟨beq (h.1 k hk).1, beq (h.1 k hk).2⟩, fun k hk => beq (h.2 k hk)⟩

theorem len_le : ∀ (n : Nat) (l : List Nat), l.Nodup → (∀ x ∈ l, x < n) → l.length ≤ n
  | 0, l, _, h => by
    cases l with
    | nil => simp
    | cons x l => have := h x List.mem_cons_self; omega
  | n + 1, l, hd, h => by
    have := len_le n (l.erase n) (hd.erase n) fun x hx => by
      have h1 := h x (List.mem_of_mem_erase hx)
      have h2 : x ≠ n := ((List.Nodup.mem_erase_iff hd).1 hx).1
      omega
    by_cases hm : n ∈ l
    · rw [List.length_erase_of_mem hm] at this; omega
    · rw [List.erase_of_not_mem hm] at this; omega

/-! ### Any order -/
structure Tr (X : Env) (ops : Array Oper) (f : Nat → Fr) (E : Nat → Ent) : Prop where
  step : ∀ i o, ops[i]? = some o → StepF X ops o i (f i) (E i) (f (i + 1))
  con : ∀ i j, j < i → i < ops.size → Reach ops i j ∨ ((∀ k ∈ (E i).2.2, k ∉ (E j).2.1 ∧ k ∉ (E j).2.2) ∧ ∀ k ∈ (E j).2.2, k ∉ (E i).2.1)
  edge : ∀ i o, ops[i]? = some o → ∀ e ∈ o.after, Region.binds .any e = true → e.on < i
structure Dn (ops : Array Oper) (L : List Nat) : Prop where
  lt : ∀ i ∈ L, i < ops.size
  dn : ∀ i ∈ L, ∀ o, ops[i]? = some o → ∀ e ∈ o.after, Region.binds .any e = true → e.on ∈ L
def Inv (f : Nat → Fr) (E : Nat → Ent) (L : List Nat) (g : Fr) : Prop := ∀ k, ((∀ i ∈ L, k ∉ (E i).2.2) ∧ Same k g (f 0)) ∨ ∃ i ∈ L, k ∈ (E i).2.2 ∧ (∀ j ∈ L, k ∈ (E j).2.2 → j ≤ i) ∧ Same k g (f (i + 1))

section any
variable {ops : Array Oper} {f : Nat → Fr} {E : Nat → Ent} {L : List Nat} {g : Fr}
theorem Dn.reach (d : Dn ops L) {i j : Nat} (h : Reach ops i j) (hi : i ∈ L) : j ∈ L := by
  induction h with
  | one ho he hb => exact d.dn _ hi _ ho _ he hb
  | more ho he hb h ih => exact ih (d.dn _ hi _ ho _ he hb)
theorem Dn.reach' (d : Dn ops L) {i j : Nat} {o : Oper} (ho : ops[i]? = some o) (hp : ∀ e ∈ o.after, Region.binds .any e = true → e.on ∈ L) (h : Reach ops i j) : j ∈ L := by
  cases h with
  | one ho' he hb => rw [ho] at ho'; injection ho' with ho'; subst ho'; exact hp _ he hb
  | more ho' he hb h => rw [ho] at ho'; injection ho' with ho'; subst ho'; exact d.reach h (hp _ he hb)
theorem Tr.between (t : Tr X ops f E) {k a : Nat} : ∀ {b : Nat}, a ≤ b → b ≤ ops.size → (∀ i, a ≤ i → i < b → k ∉ (E i).2.2) → Same k (f b) (f a)
  | 0, h, _, _ => by have : a = 0 := by omega
                     subst this; exact Same.refl _ _
  | b + 1, h, hb, hw => by
    by_cases ha : a = b + 1
    · subst ha; exact Same.refl _ _
    · have ho : ops[b]? = some ops[b] := Array.getElem?_eq_getElem (by omega)
      exact ((t.step b _ ho).out (hw b (by omega) (by omega))).trans (t.between (by omega) (by omega) fun i h1 h2 => hw i h1 (by omega))

theorem Tr.look (t : Tr X ops f E) (d : Dn ops L) (inv : Inv f E L g) {i : Nat} {o : Oper} (ho : ops[i]? = some o) (hn : i ∉ L) (hp : ∀ e ∈ o.after, Region.binds .any e = true → e.on ∈ L) {k : Nat} (hk : k ∈ (E i).2.1 ∨ k ∈ (E i).2.2) :
    (∀ j ∈ L, k ∈ (E j).2.2 → j < i) ∧ Same k g (f i) := by
  have hi : i < ops.size := (Array.getElem?_eq_some_iff.1 ho).1
  have A : ∀ j, j < i → k ∈ (E j).2.2 → j ∈ L := fun j hj hw => by
    rcases t.con i j hj hi with h | ⟨h1, h2⟩
    · exact d.reach' ho hp h
    · rcases hk with hk | hk
      · exact absurd hk (h2 k hw)
      · exact absurd hw (h1 k hk).2
  have B : ∀ j ∈ L, k ∈ (E j).2.2 → j < i := fun j hj hw => by
    rcases Nat.lt_trichotomy j i with h | h | h
    · exact h
    · subst h; exact absurd hj hn
    · rcases t.con j i h (d.lt j hj) with h | ⟨h1, h2⟩
      · exact absurd (d.reach h hj) hn
      · rcases hk with hk | hk
        · exact absurd hk (h1 k hw).1
        · exact absurd hk (h1 k hw).2
  refine ⟨B, ?_⟩
  rcases inv k with ⟨h1, h2⟩ | ⟨i0, h1, h2, h3, h4⟩
  · exact h2.trans (t.between (Nat.zero_le _) (by omega) fun j _ hj hw => h1 j (A j hj hw) hw).symm
  · have := B i0 h1 h2
    exact h4.trans (t.between (by omega) (by omega) fun j hj1 hj2 hw => by have := h3 j (A j hj2 hw) hw; omega).symm

theorem Tr.fin (t : Tr X ops f E) (inv : Inv f E L g) (d : Dn ops L) (h : ∀ i, i < ops.size → i ∈ L) : g = f ops.size := by
  refine same_all fun k => ?_
  rcases inv k with ⟨h1, h2⟩ | ⟨i0, h1, h2, h3, h4⟩
  · exact h2.trans (t.between (Nat.zero_le _) (Nat.le_refl _) fun j _ hj => h1 j (h j hj)).symm
  · have := d.lt i0 h1
    exact h4.trans (t.between (by omega) (Nat.le_refl _) fun j hj1 hj2 hw => by have := h3 j (h j hj2) hw; omega).symm

theorem any_ok (hN : NoNum X.P) (hC : ∀ g as r, X.call g as = some r → Con X.P X.H g as r) (hb : ∀ o ∈ ops, ∀ d, o.dst = some d → d < X.nt) (t : Tr X ops f E) {Q : Exit → Act → World → Prop} {df : List Deferred}
    (hQ : ∀ w' A' a', St X.nt w0 S w' A' (f ops.size) a'.tmps → a'.defers = df → Q .normal a' w') :
    ∀ (fuel : Nat) (L : List Nat) (listed : Array Bool) (g : Fr) (w : World) (A : As) (a : Act), listed.size = ops.size → (∀ i, i < ops.size → (listed.getD i false = true ↔ i ∈ L)) → L.Nodup → L.length + fuel = ops.size → Dn ops L → Inv f E L g →
      St X.nt w0 S w A g a.tmps → a.defers = df → wpAny X.P .any ops Q fuel listed a w := by
  have gd : ∀ {listed : Array Bool} {i : Nat}, listed.size = ops.size → i < ops.size → (listed.getD i true = false ↔ ¬ listed.getD i false = true) := fun {listed i} hs hi => by
    simp [hs, hi]
  have rdy : ∀ {listed : Array Bool} {L : List Nat}, listed.size = ops.size → (∀ i, i < ops.size → (listed.getD i false = true ↔ i ∈ L)) → Region.ready .any ops listed = [] → ∀ i, i < ops.size → i ∈ L := by
    intro listed L hs hl hr i
    induction i using Nat.strongRecOn with
    | _ i ih =>
      intro hi
      by_cases hm : i ∈ L
      · exact hm
      · have ho : ops[i]? = some ops[i] := Array.getElem?_eq_getElem hi
        have : i ∈ Region.ready .any ops listed := mem_ready.2 ⟨(gd hs hi).2 fun h => hm ((hl i hi).1 h), _, ho, fun e he hb => by
          have := t.edge i _ ho e he hb
          exact (hl e.on (by omega)).2 (ih e.on this (by omega))⟩
        rw [hr] at this; cases this
  intro fuel
  induction fuel with
  | zero =>
    intro L listed g w A a hs hl hn hlen d inv hst hdf
    have all : ∀ i, i < ops.size → i ∈ L := fun i hi => by
      by_cases hm : i ∈ L
      · exact hm
      · have := len_le ops.size (i :: L) (List.nodup_cons.2 ⟨hm, hn⟩) fun x hx => by
          rcases List.mem_cons.1 hx with rfl | hx
          · exact hi
          · exact d.lt x hx
        simp at this; omega
    refine ⟨?_, ?_⟩
    · cases hr : Region.ready .any ops listed with
      | nil => rfl
      | cons x xs =>
        have hx : x ∈ Region.ready .any ops listed := by rw [hr]; exact List.mem_cons_self
        obtain ⟨h1, o, ho, _⟩ := mem_ready.1 hx
        have hxi := (Array.getElem?_eq_some_iff.1 ho).1
        exact absurd ((hl x hxi).2 (all x hxi)) ((gd hs hxi).1 h1)
    · have := t.fin inv d all
      subst this
      exact hQ w A a hst hdf
  | succ fuel ih =>
    intro L listed g w A a hs hl hn hlen d inv hst hdf
    refine ⟨fun hr => ?_, fun i hi => ?_⟩
    · have := t.fin inv d (rdy hs hl hr)
      subst this
      exact hQ w A a hst hdf
    · obtain ⟨h1, o, ho, hp⟩ := mem_ready.1 hi
      have hii := (Array.getElem?_eq_some_iff.1 ho).1
      have hnL : i ∉ L := fun hm => (gd hs hii).1 h1 ((hl i hii).2 hm)
      have hp' : ∀ e ∈ o.after, Region.binds .any e = true → e.on ∈ L := fun e he hb => (hl e.on (by have := t.edge i o ho e he hb; omega)).1 (hp e he hb)
      obtain ⟨g', hstep, hin, hout⟩ := (t.step i o ho).alike (g := g) fun k hk => (t.look d inv ho hnL hp' (.inl hk)).2
      refine step_ok hN hC hb ho hstep hst fun A' w' a' hst' hd' => ?_
      refine ih (i :: L) _ g' w' A' a' (by simp [hs]) (fun j hj => ?_) (List.nodup_cons.2 ⟨hnL, hn⟩) (by simp; omega) ⟨fun j hj => ?_, fun j hj o' ho' e he hb => ?_⟩ (fun k => ?_) hst' (hd'.trans hdf)
      · by_cases hij : i = j
        · subst hij; simp [hs, hii]
        · rw [getD_set_ne false hij, hl j hj]
          simp [Ne.symm hij]
      · rcases List.mem_cons.1 hj with rfl | hj
        · exact hii
        · exact d.lt j hj
      · rcases List.mem_cons.1 hj with rfl | hj
        · rw [ho] at ho'; injection ho' with ho'; subst ho'
          exact List.mem_cons_of_mem _ (hp' e he hb)
        · exact List.mem_cons_of_mem _ (d.dn j hj o' ho' e he hb)
      · by_cases hk : k ∈ (E i).2.2
        · have hlk := (t.look d inv ho hnL hp' (.inr hk)).1
          refine .inr ⟨i, List.mem_cons_self, hk, fun j hj hw => ?_, hin k hk⟩
          rcases List.mem_cons.1 hj with rfl | hj
          · exact Nat.le_refl _
          · exact Nat.le_of_lt (hlk j hj hw)
        · rcases inv k with ⟨q1, q2⟩ | ⟨i0, q1, q2, q3, q4⟩
          · refine .inl ⟨fun j hj => ?_, (hout k hk).trans q2⟩
            rcases List.mem_cons.1 hj with rfl | hj
            · exact hk
            · exact q1 j hj
          · refine .inr ⟨i0, List.mem_cons_of_mem _ q1, q2, fun j hj hw => ?_, (hout k hk).trans q4⟩
            rcases List.mem_cons.1 hj with rfl | hj
            · exact absurd hw hk
            · exact q3 j hj hw
end any

theorem draw_ok (hN : NoNum X.P) (hC : ∀ g as r, X.call g as = some r → Con X.P X.H g as r) {ops : Array Oper} (hb : ∀ o ∈ ops, ∀ d, o.dst = some d → d < X.nt) {fr : Fr} {K : Fr → R} {r : List D}
    (h : regionF X ops true fr K = some r) {w : World} {A : As} {a : Act} (hst : St X.nt w0 S w A fr a.tmps) {Q : Exit → Act → World → Prop}
    (hQ : ∀ fr' w' A' a', K fr' = some r → St X.nt w0 S w' A' fr' a'.tmps → a'.defers = a.defers → Q .normal a' w') : wpAny X.P .any ops Q ops.size (Array.replicate ops.size false) a w := by
  unfold regionF at h
  replace h := (bif_some h).2
  obtain ⟨f, E, h0, h1, h2⟩ := opsF_trace ops.toList fr [] _ h
  simp only [cond_true, List.append_nil] at h2
  replace h2 := bif_some h2; obtain ⟨hc, h2⟩ := h2
  simp only [Bool.and_eq_true] at hc
  simp only [Array.length_toList] at h2
  have hst1 : ∀ i o, ops[i]? = some o → StepF X ops o i (f i) (E i) (f (i + 1)) := fun i o ho => by
    have := h1 i o (by simpa using ho)
    simpa using this
  have t : Tr X ops f E := by
    refine ⟨hst1, fun i j hij hi => ?_, fun i o ho e he hb => ?_⟩
    · have get : ∀ q, q < ops.size → (((List.range ops.toList.length).map E).reverse)[ops.size - 1 - q]? = some (E q) := fun q hq => by
        rw [List.getElem?_reverse (by simp; omega)]
        simp only [List.length_map, List.length_range, Array.length_toList]
        rw [show ops.size - 1 - (ops.size - 1 - q) = q by omega]
        simp [hq]
      have := order_ok _ hc.2 _ _ _ _ (get i hi) (get j (by omega)) (by omega)
      have ei : (E i).1 = i := (hst1 i _ (Array.getElem?_eq_getElem hi)).idx
      have ej : (E j).1 = j := (hst1 j _ (Array.getElem?_eq_getElem (by omega))).idx
      rw [ei, ej, Bool.or_eq_true] at this
      rcases this with hh | hh
      · left
        cases hm : (befs ops.toList [])[i]? with
        | none => simp [List.getD, hm] at hh
        | some m =>
          simp only [List.getD, hm, Option.getD_some] at hh
          exact befs_ok ops.toList [] (fun q => by simp) (fun i m hm => by simp at hm) i m hm j hh
      · exact .inr (apart_ok hh)
    · have := edges_ok ops.toList 0 hc.1 i o (by simpa using ho) e he hb
      omega
  subst h0
  exact any_ok hN hC hb t (df := a.defers) (fun w' A' a' h1 h3 => hQ _ w' A' a' h2 h1 h3) ops.size [] _ (f 0) w A a (by simp) (fun i hi => by simp [hi]) List.nodup_nil (by simp) ⟨fun i hi => (by cases hi), fun i hi => (by cases hi)⟩
    (fun k => .inl ⟨fun i hi => (by cases hi), Same.refl _ _⟩) hst rfl

end Go.Vm

/- Code: what the evaluator says is what the machine does. -/
set_option linter.unusedVariables false
set_option linter.unusedSimpArgs false
namespace Go.Vm

variable {nt : Nat} {w0 : World} {S : Sp} {w : World} {A : As} {fr : Fr} {tmps : Array Value} {P : Program}

/-! ### Cuts -/
theorem zipL_map {β : Type} (d : β) (f : Nat → β) : ∀ (ks : List Nat) (j : Nat), zipL d ks (ks.map f) j = if j ∈ ks then f j else d := by
  intro ks
  induction ks with
  | nil => intro j; rfl
  | cons k ks ih =>
    intro j
    simp only [List.map_cons, zipL]
    by_cases hj : j = k
    · subst hj; simp [upd_same]
    · rw [upd_ne _ _ hj, ih]; simp [hj]
theorem live_mem {l : List Nat} {k : Nat} (h : liveAt l k = true) : k ∈ l := by
  obtain ⟨x, hx, hb⟩ := List.any_eq_true.1 h
  rw [Nat.eq_of_beq_eq_true hb]; exact hx

theorem look_mem' {β : Type} {k : Nat} {v : β} : ∀ {l : List (Nat × β)}, look k l = some v → (k, v) ∈ l
  | [], h => by cases h
  | (j, u) :: l, h => by
    simp only [look] at h
    cases hb : Nat.beq j k with
    | true =>
      rw [hb, cond_true] at h
      injection h with h
      rw [Nat.eq_of_beq_eq_true hb, h]
      exact List.mem_cons_self
    | false =>
      rw [hb, cond_false] at h
      exact List.mem_cons_of_mem _ (look_mem' h)
theorem look_map {f : Nat → Nat} : ∀ {l : List Nat}, distinct (l.map f) = true → ∀ {K : Nat}, K ∈ l → look (f K) (l.map fun K => (f K, K)) = some K
  | [], _, K, h => by cases h
  | a :: l, hd, K, h => by
    obtain ⟨h1, h2⟩ := distinct_cons hd
    simp only [List.map_cons, look]
    rcases List.mem_cons.1 h with rfl | h
    · rw [Nat.beq_refl]; rfl
    · have : Nat.beq (f a) (f K) = false := by
        cases hb : Nat.beq (f a) (f K) with
        | false => rfl
        | true => exact absurd (List.mem_map.2 ⟨K, h, (Nat.eq_of_beq_eq_true hb).symm⟩) h1
      rw [this, cond_false]
      exact look_map h2 h
theorem normCaps_ok {h : Live} : ∀ {cs cs' : List Cap}, normCaps fr h cs = some cs' → cs'.length = cs.length ∧ ∀ (j : Nat) (c : Cap), cs'[j]? = some c → ∃ c0, cs[j]? = some c0 ∧ ((∃ x, c0 = .d x ∧ c = .d x) ∨ ∃ s e b, c0 = .p s e ∧ c = .p s 0 ∧ fr.bx s = some b ∧ b.e = e ∧ liveAt h.bx s = true)
  | [], cs', hn => by
    simp only [normCaps, Option.some.injEq] at hn
    subst hn
    exact ⟨rfl, fun j c h => by simp at h⟩
  | .d x :: cs, cs', hn => by
    simp only [normCaps] at hn
    obtain ⟨cs2, h2, rfl⟩ := Option.map_eq_some_iff.1 hn
    obtain ⟨q1, q2⟩ := normCaps_ok h2
    refine ⟨by simp [q1], fun j c hj => ?_⟩
    cases j with
    | zero =>
      simp only [List.getElem?_cons_zero, Option.some.injEq] at hj
      exact ⟨_, rfl, .inl ⟨x, rfl, hj.symm⟩⟩
    | succ j =>
      obtain ⟨c0, h3, h4⟩ := q2 j c (by simpa using hj)
      exact ⟨c0, by simpa using h3, h4⟩
  | .p s e :: cs, cs', hn => by
    simp only [normCaps] at hn
    split at hn
    · rename_i b hb
      replace hn := bif_some hn; obtain ⟨hc, hn⟩ := hn
      simp only [Bool.and_eq_true, Nat.beq_eq] at hc
      obtain ⟨cs2, h2, rfl⟩ := Option.map_eq_some_iff.1 hn
      obtain ⟨q1, q2⟩ := normCaps_ok h2
      refine ⟨by simp [q1], fun j c hj => ?_⟩
      cases j with
      | zero =>
        simp only [List.getElem?_cons_zero, Option.some.injEq] at hj
        exact ⟨_, rfl, .inr ⟨s, e, b, rfl, hj.symm, hb, hc.1, hc.2⟩⟩
      | succ j =>
        obtain ⟨c0, h3, h4⟩ := q2 j c (by simpa using hj)
        exact ⟨c0, by simpa using h3, h4⟩
    · cases hn
theorem canon0_ok {X : Env} {h : Live} {l : Lv} (hc : canon0 X fr h = some l) (hst : St nt w0 S w A fr tmps) (hp : ∀ s a, S.pin s = some a → s ∈ pinsOf X) : ∃ A', St nt w0 S w A' (Fr.ofLv h l) tmps := by
  unfold canon0 at hc
  replace hc := bif_some hc; obtain ⟨hq, hc⟩ := hc
  simp only [Bool.and_eq_true, List.all_eq_true] at hq
  obtain ⟨⟨⟨hq1, hq2⟩, hq3⟩, hq4⟩ := hq
  simp only at hc
  injection hc with hc
  subst hc
  generalize hrn : (h.tk.map fun K => (srcT fr h K, K)) = rn
  have rn_src : ∀ {t K : Nat}, look t rn = some K → K ∈ h.tk ∧ srcT fr h K = t := fun {t K} hl => by
    have := look_mem' hl
    rw [← hrn] at this
    obtain ⟨K', hK, he⟩ := List.mem_map.1 this
    injection he with e1 e2
    subst e2
    exact ⟨hK, e1⟩
  have rn_look : ∀ {K : Nat}, K ∈ h.tk → look (srcT fr h K) rn = some K := fun {K} hK => by
    rw [← hrn]
    exact look_map (f := srcT fr h) hq4 hK
  have hbx : ∀ s, (Fr.ofLv h ⟨h.tm.map fun t => normV fr h rn (fr.tm t), h.bx.map fun s => ((fr.bx s).map fun b => b.cs.map (normC fr h rn)).getD [], h.tk.filterMap fun t => (fr.tk (srcT fr h t)).map fun k => { k with e := 0 }⟩).bx s = if s ∈ h.bx then some ⟨0, ((fr.bx s).map fun b => b.cs.map (normC fr h rn)).getD []⟩ else none := by
    intro s
    simp only [Fr.ofLv, List.map_map]
    exact zipL_map none (fun s => some (⟨0, ((fr.bx s).map fun b => b.cs.map (normC fr h rn)).getD []⟩ : Bx)) h.bx s
  have htk : ∀ t, (Fr.ofLv h ⟨h.tm.map fun t => normV fr h rn (fr.tm t), h.bx.map fun s => ((fr.bx s).map fun b => b.cs.map (normC fr h rn)).getD [], h.tk.filterMap fun t => (fr.tk (srcT fr h t)).map fun k => { k with e := 0 }⟩).tk t = if t ∈ h.tk then (fr.tk (srcT fr h t)).map (fun k => { k with e := 0 }) else none := by
    intro t
    simp only [Fr.ofLv]
    have e1 : ∀ ks : List Nat, (∀ t ∈ ks, (fr.tk (srcT fr h t)).isSome = true) → (ks.filterMap fun t => (fr.tk (srcT fr h t)).map fun k => ({ k with e := 0 } : Tk)).map some = ks.map fun t => (fr.tk (srcT fr h t)).map fun k => ({ k with e := 0 } : Tk) := by
      intro ks
      induction ks with
      | nil => intro _; rfl
      | cons k ks ih =>
        intro hk
        obtain ⟨y, hy⟩ := Option.isSome_iff_exists.1 (hk k List.mem_cons_self)
        simp [hy, ih fun t ht => hk t (List.mem_cons_of_mem _ ht)]
    rw [e1 h.tk hq3]
    exact zipL_map none (fun t => (fr.tk (srcT fr h t)).map fun k => ({ k with e := 0 } : Tk)) h.tk t
  have htm : ∀ t, (Fr.ofLv h ⟨h.tm.map fun t => normV fr h rn (fr.tm t), h.bx.map fun s => ((fr.bx s).map fun b => b.cs.map (normC fr h rn)).getD [], h.tk.filterMap fun t => (fr.tk (srcT fr h t)).map fun k => { k with e := 0 }⟩).tm t = if t ∈ h.tm then normV fr h rn (fr.tm t) else .any := by
    intro t
    simp only [Fr.ofLv]
    exact zipL_map _ (fun t => normV fr h rn (fr.tm t)) h.tm t
  generalize Fr.ofLv h ⟨h.tm.map fun t => normV fr h rn (fr.tm t), h.bx.map fun s => ((fr.bx s).map fun b => b.cs.map (normC fr h rn)).getD [], h.tk.filterMap fun t => (fr.tk (srcT fr h t)).map fun k => { k with e := 0 }⟩ = fr' at hbx htk htm
  let A' : As := { A with τ := fun K => A.τ (srcT fr h K), ω := fun K => A.ω (srcT fr h K), own := fun k o => match A.own k o with | .t t => (match look t rn with | some K => .t K | none => .none) | x => x }
  have own_b : ∀ {k o s : Nat}, A.own k o = .b s → A'.own k o = .b s := fun {k o s} hh => by simp only [A', hh]
  have rc : ∀ c v, RC fr w A c v → RC fr' w A' (normC fr h rn c) v := by
    rintro c v ⟨h1, h2⟩
    refine ⟨h1, ?_⟩
    cases c with
    | d x => exact h2
    | own t e =>
      obtain ⟨k, hk, he, hv⟩ := h2
      simp only [normC, hk]
      cases hc : Nat.beq k.e e with
      | false => trivial
      | true =>
        cases hl : look t rn with
        | none => trivial
        | some K =>
          obtain ⟨h3, h4⟩ := rn_src hl
          have he := Nat.eq_of_beq_eq_true hc
          refine ⟨{ k with e := 0 }, by rw [htk, if_pos h3, h4, hk]; rfl, Nat.le_refl _, fun _ => ?_⟩
          have := hv he.symm
          simp only [A', h4]
          exact this
    | sub t e off len =>
      obtain ⟨k, hk, he, hv⟩ := h2
      simp only [normC, hk]
      cases hc : Nat.beq k.e e with
      | false => trivial
      | true =>
        cases hl : look t rn with
        | none => trivial
        | some K =>
          obtain ⟨h3, h4⟩ := rn_src hl
          have he := Nat.eq_of_beq_eq_true hc
          refine ⟨{ k with e := 0 }, by rw [htk, if_pos h3, h4, hk]; rfl, Nat.le_refl _, fun _ => ?_⟩
          have := hv he.symm
          simp only [A', h4]
          exact this
    | nil0 => exact h2
    | ptr s e off =>
      obtain ⟨hp, b, hb, he, hv⟩ := h2
      simp only [normC, hb]
      cases hc : (Nat.beq b.e e && liveAt h.bx s) with
      | false => trivial
      | true =>
        simp only [Bool.and_eq_true] at hc
        have := live_mem hc.2
        have he := Nat.eq_of_beq_eq_true hc.1
        exact ⟨hp, _, by rw [hbx, if_pos this], Nat.le_refl _, fun _ => hv he.symm⟩
    | tptr t e i off =>
      obtain ⟨hp, k, hk, he, hv⟩ := h2
      simp only [normC, hk]
      cases hc : Nat.beq k.e e with
      | false => trivial
      | true =>
        cases hl : look t rn with
        | none => trivial
        | some K =>
          obtain ⟨h3, h4⟩ := rn_src hl
          have he := Nat.eq_of_beq_eq_true hc
          refine ⟨hp, { k with e := 0 }, by rw [htk, if_pos h3, h4, hk]; rfl, Nat.le_refl _, fun _ => ?_⟩
          have := hv he.symm
          simp only [A', h4]
          exact this
    | rptr esz row off => exact h2
    | fn g b cs =>
      obtain ⟨us, h3, h4, h5⟩ := h2
      simp only [normC]
      cases hn : normCaps fr h cs with
      | none => trivial
      | some cs' =>
        obtain ⟨q1, q2⟩ := normCaps_ok hn
        refine ⟨us, h3, by omega, fun j c u q3 q4 => ?_⟩
        obtain ⟨c0, q5, q6⟩ := q2 j c q3
        have := h5 j c0 u q5 q4
        rcases q6 with ⟨x, rfl, rfl⟩ | ⟨s, e, bb, rfl, rfl, q7, q8, q9⟩
        · exact this
        · obtain ⟨hp, b0, hb0, he, hv⟩ := this
          rw [q7] at hb0; injection hb0 with hb0; subst hb0
          refine ⟨hp, ⟨0, _⟩, by rw [hbx, if_pos (live_mem q9)], Nat.le_refl _, fun _ => ?_⟩
          exact hv q8.symm
    | ub => exact h2
    | undef => trivial
  refine ⟨A', hst.ntm, hst.keep, fun t => ?_, fun s b hb => ?_, fun t k hk => ?_, fun k o hi => ?_, hst.ime, hst.eim, fun s a ha => ?_⟩
  · rw [htm]
    split
    · have := hst.tm t
      generalize tmps.getD t Go.undef = u at this
      generalize fr.tm t = v at this
      cases this with
      | one c _ h => exact .one _ _ (rc _ _ h)
      | agg cs vs h =>
        refine .agg _ _ ⟨by simpa using h.1, fun j c v h1 h2 => ?_⟩
        rw [List.getElem?_map] at h1
        obtain ⟨c', h3, rfl⟩ := Option.map_eq_some_iff.1 h1
        exact rc _ _ (h.2 j c' v h3 h2)
      | tup xs vs hl h => exact .any _
      | skip => exact .any _
      | any v => exact .any _
    · exact .any _
  · rw [hbx] at hb
    split at hb
    · rename_i hs
      obtain ⟨b0, hb0⟩ := Option.isSome_iff_exists.1 (hq2 s hs)
      rw [hb0] at hb
      injection hb with hb
      subst hb
      have hh := hst.bx s b0 hb0
      refine ⟨fun j c hj => ?_, fun j hj => hh.free j (by simpa using hj), fun j hj => own_b (hh.own j (by simpa using hj)), fun j hj => hh.may j (by simpa using hj), fun hp => ⟨(hh.whole hp).1, (hh.whole hp).2.1, (hh.whole hp).2.2.1, fun o => own_b ((hh.whole hp).2.2.2 o)⟩⟩
      simp only [Option.map_some, Option.getD_some, List.getElem?_map] at hj
      obtain ⟨c', h3, rfl⟩ := Option.map_eq_some_iff.1 hj
      obtain ⟨v, h4, h5⟩ := hh.cell j c' h3
      exact ⟨v, h4, rc _ _ h5⟩
    · cases hb
  · rw [htk] at hk
    split at hk
    · rename_i hm
      obtain ⟨k0, hk0, rfl⟩ := Option.map_eq_some_iff.1 hk
      have hh := hst.tk _ k0 hk0
      refine ⟨?_, fun g hg o => ?_⟩
      · have := hh.rel
        show TokRel w A.Im w0.heap.size _ (A.τ (srcT fr h t)) (A.ω (srcT fr h t))
        cases hω : A.ω (srcT fr h t) with
        | none => rw [hω] at this; exact this
        | some g => rw [hω] at this; exact this
      · have := hh.own g hg o
        simp only [A', this, rn_look hm]
    · cases hk
  · have hh := hst.im k o hi
    refine ⟨hh.cell, fun s hs => ?_, fun t x h1 h2 h3 => ?_⟩
    · simp only [A'] at hs
      cases ho : A.own k o with
      | none => rw [ho] at hs; cases hs
      | b s' => rw [ho] at hs; exact hh.nob s' ho
      | t t =>
        rw [ho] at hs
        simp only at hs
        split at hs <;> cases hs
    · simp only [A'] at h1
      cases ho : A.own k o with
      | none => rw [ho] at h1; cases h1
      | b s' => rw [ho] at h1; cases h1
      | t t' =>
        rw [ho] at h1
        simp only at h1
        split at h1
        · rename_i K hl
          injection h1 with h1
          subst h1
          obtain ⟨q1, q2⟩ := rn_src hl
          rw [htk, if_pos q1, q2] at h2
          obtain ⟨k0, hk0, rfl⟩ := Option.map_eq_some_iff.1 h2
          have h3' : A.ω t' = some k := by have : A.ω (srcT fr h K) = some k := h3; rwa [q2] at this
          exact hh.tok t' k0 ho hk0 h3'
        · cases h1
  · obtain ⟨b, hb, he⟩ := hst.pin s a ha
    obtain ⟨hl, hz⟩ := hq1 s (hp s a ha)
    rw [hb] at hz
    exact ⟨_, by rw [hbx, if_pos (live_mem hl)], fun _ => he (Nat.eq_of_beq_eq_true hz)⟩

/-! ### Ahead of a cut -/
theorem fixC_rc {k : LK} {c : C} {v : Value} (h : RC fr w A c v) : RC fr w A (fixC k c) v := by
  unfold fixC
  split
  · split
    · obtain ⟨h1, a, rfl⟩ := h
      exact ⟨h1, Rd.mk_list (rows := []) (Nat.zero_le _) (fun _ h => by cases h) fun h => absurd rfl h⟩
    · exact h
  · exact h
theorem fixCs_get : ∀ {ks : List LK} {cs : List C} {j : Nat} {c : C}, (fixCs ks cs)[j]? = some c → ∃ k c', cs[j]? = some c' ∧ c = fixC k c'
  | ks, [], j, c, h => by simp [fixCs] at h
  | ks, x :: cs, 0, c, h => by
    simp only [fixCs, List.getElem?_cons_zero, Option.some.injEq] at h
    exact ⟨_, x, rfl, h.symm⟩
  | ks, x :: cs, j + 1, c, h => by
    simp only [fixCs, List.getElem?_cons_succ] at h
    obtain ⟨k, c', h1, h2⟩ := fixCs_get h
    exact ⟨k, c', by simpa using h1, h2⟩
theorem fixCs_len : ∀ {ks : List LK} {cs : List C}, (fixCs ks cs).length = cs.length
  | ks, [] => rfl
  | ks, x :: cs => by simp [fixCs, fixCs_len]
theorem fixV_rv {ks : List LK} {x : V} {v : Value} (h : RV fr w A x v) : RV fr w A (fixV ks x) v := by
  cases h with
  | one c v h => exact .one _ _ (fixC_rc h)
  | agg cs vs h =>
    refine .agg _ _ ⟨by rw [fixCs_len]; exact h.1, fun j c v h1 h2 => ?_⟩
    obtain ⟨k, c', h3, rfl⟩ := fixCs_get h1
    exact fixC_rc (h.2 j c' v h3 h2)
  | tup xs vs hl h => exact .tup xs vs hl h
  | skip => exact .skip
  | any v => exact .any v
theorem fixBx_get {P : Program} {h : Live} {s : Nat} {cs : List C} {j : Nat} {c : C} (hj : (fixBx P h s cs)[j]? = some c) : ∃ k c', cs[j]? = some c' ∧ c = fixC k c' := by
  unfold fixBx at hj
  split at hj
  · exact fixCs_get hj
  · exact ⟨.a, c, hj, by unfold fixC; split <;> rfl⟩
theorem fixBx_len {P : Program} {h : Live} {s : Nat} {cs : List C} : (fixBx P h s cs).length = cs.length := by
  unfold fixBx
  split
  · exact fixCs_len
  · rfl
/-- Boxes whose cells, and temporaries, are known otherwise. -/
theorem St.reBox {fr' : Fr} (h : St nt w0 S w A fr tmps) (htk : fr'.tk = fr.tk) (htm : ∀ t, RV fr w A (fr'.tm t) (tmps.getD t Go.undef))
    (hbx : ∀ s, (fr'.bx s = none ∧ fr.bx s = none) ∨ ∃ b b', fr.bx s = some b ∧ fr'.bx s = some b' ∧ b'.e = b.e ∧ b'.cs.length = b.cs.length ∧ ∀ j c, b'.cs[j]? = some c → ∃ v, w.cell? (at_ (A.β s).block ((A.β s).off + j)) = some v ∧ RC fr w A c v) : St nt w0 S w A fr' tmps := by
  have hB : ∀ s b, fr.bx s = some b → ∃ b', fr'.bx s = some b' ∧ (b.e < b'.e ∨ (b'.e = b.e ∧ A.β s = A.β s)) := fun s b hb => by
    rcases hbx s with ⟨_, h2⟩ | ⟨b0, b', h1, h2, h3, _⟩
    · rw [h2] at hb; cases hb
    · rw [h1] at hb; injection hb with hb; subst hb
      exact ⟨b', h2, .inr ⟨h3, rfl⟩⟩
  have rc : ∀ c v, RC fr w A c v → RC fr' w A c v := fun c v hc => hc.step hB (fun t k hk => ⟨k, by rw [htk]; exact hk, .inr ⟨rfl, rfl, rfl, rfl, rfl⟩⟩) (fun _ _ h => h) (fun _ _ _ => rfl)
  refine ⟨h.ntm, h.keep, fun t => (htm t).map rc, fun s b hb => ?_, fun t k hk => h.tk t k (by rw [← htk]; exact hk), fun k o hi => ?_, h.ime, h.eim, fun s a ha => ?_⟩
  · rcases hbx s with ⟨h1, _⟩ | ⟨b0, b', h1, h2, h3, h4, h5⟩
    · rw [h1] at hb; cases hb
    · rw [h2] at hb; injection hb with hb; subst hb
      have hh := h.bx s b0 h1
      exact ⟨fun j c hj => by obtain ⟨v, q1, q2⟩ := h5 j c hj; exact ⟨v, q1, rc _ _ q2⟩, fun j hj => hh.free j (by omega), fun j hj => hh.own j (by omega), fun j hj => hh.may j (by omega), hh.whole⟩
  · have hh := h.im k o hi
    exact ⟨hh.cell, hh.nob, fun t x h1 h2 h3 => hh.tok t x h1 (by rw [← htk]; exact h2) h3⟩
  · obtain ⟨b, hb, he⟩ := h.pin s a ha
    obtain ⟨b', hb', hh⟩ := hB s b hb
    refine ⟨b', hb', fun h0 => he ?_⟩
    rcases hh with hh | hh
    · omega
    · omega
theorem St.fix {P : Program} {h : Live} (hst : St nt w0 S w A fr tmps) : St nt w0 S w A (fixFr P h fr) tmps := by
  refine hst.reBox rfl (fun t => ?_) fun s => ?_
  · show RV fr w A (fixTm P h t (fr.tm t)) _
    unfold fixTm
    split
    · exact fixV_rv (hst.tm t)
    · exact hst.tm t
  · cases hb : fr.bx s with
    | none => exact .inl ⟨by simp [fixFr, hb], rfl⟩
    | some b =>
      refine .inr ⟨b, ⟨b.e, fixBx P h s b.cs⟩, rfl, by simp [fixFr, hb], rfl, fixBx_len, fun j c hj => ?_⟩
      obtain ⟨k, c', h1, rfl⟩ := fixBx_get hj
      obtain ⟨v, h2, h3⟩ := (hst.bx s b hb).cell j c' h1
      exact ⟨v, h2, fixC_rc h3⟩
theorem St.nilTok {P : Program} (x : Nat × Nat × Nat × TypeId) (hst : St nt w0 S w A fr tmps) : ∃ A', St nt w0 S w A' (Vm.nilTok P x fr) tmps := by
  unfold Vm.nilTok
  split
  · rename_i b hb
    split
    · rename_i hc
      obtain ⟨v, hv, hr⟩ := (hst.bx _ b hb).cell _ _ hc
      obtain ⟨_, ad, rfl⟩ := hr
      obtain ⟨A', u, s1, s2, _, s3⟩ := hst.newTok x.2.2.1 ⟨nextT fr x.2.2.1, false, x.2.2.2, sz P x.2.2.2, []⟩ (.slice ad 0 0) none rfl rfl (Keep.refl _ _) (fun q hq => by cases hq) ⟨rfl, ad, rfl⟩ _ rfl
      obtain ⟨b2, hb2, hβ⟩ := u.bx _ b hb
      have hb3 : b2 = b := by
        have : some b2 = some b := hb2.symm.trans hb
        injection this
      subst hb3
      have hβ : A'.β x.1 = A.β x.1 := by
        rcases hβ with hβ | hβ
        · omega
        · exact hβ.2
      refine ⟨A', s1.reBox rfl (fun t => s1.tm t) fun s => ?_⟩
      by_cases hs : s = x.1
      · subst hs
        refine .inr ⟨b2, _, hb2, upd_same _ _ _, rfl, by simp, fun j c hj => ?_⟩
        have hh := s1.bx x.1 b2 hb2
        rw [List.getElem?_set] at hj
        split at hj
        · rename_i e
          subst e
          split at hj
          · injection hj with hj
            subst hj
            exact ⟨_, by rw [hβ]; exact hv, rfl, _, upd_same _ _ _, Nat.le_refl _, fun _ => s2.symm⟩
          · cases hj
        · exact hh.cell j c hj
      · cases hbs : fr.bx s with
        | none => exact .inl ⟨(upd_ne _ _ hs).trans hbs, rfl⟩
        | some b' => exact .inr ⟨b', b', rfl, (upd_ne _ _ hs).trans hbs, rfl, rfl, fun j c hj => (s1.bx s b' hbs).cell j c hj⟩
    · exact ⟨A, hst⟩
  · exact ⟨A, hst⟩
theorem St.nilToks {P : Program} : ∀ (xs : List (Nat × Nat × Nat × TypeId)) {A : As} {fr : Fr}, St nt w0 S w A fr tmps → ∃ A', St nt w0 S w A' (Vm.nilToks P xs fr) tmps
  | [], A, fr, h => ⟨A, h⟩
  | x :: xs, A, fr, h => by
    obtain ⟨A1, h1⟩ := h.nilTok (P := P) x
    exact St.nilToks xs h1
theorem canon_ok {X : Env} {h : Live} {l : Lv} (hc : canon X fr h = some l) (hst : St nt w0 S w A fr tmps) (hp : ∀ s a, S.pin s = some a → s ∈ pinsOf X) : ∃ A', St nt w0 S w A' (Fr.ofLv h l) tmps :=
  by
  obtain ⟨A1, h1⟩ := hst.nilToks (P := X.P) h.nb
  exact canon0_ok hc ((h1.fix (P := X.P) (h := h)).freeze h.fz _ rfl).2 hp

/-! ### Places -/
def place : List Bool → Code → List Item → Option (Code × List Item)
  | [], c, k => some (c, k)
  | false :: bs, .seq a b, k => place bs a (.code b :: k)
  | true :: bs, .seq _ b, k => place bs b k
  | false :: bs, .cond _ a _, k => place bs a k
  | true :: bs, .cond _ _ b, k => place bs b k
  | false :: bs, .block id a, k => place bs a (.inBlock id :: k)
  | false :: bs, .loop a, k => place bs a (.inLoop a :: k)
  | false :: bs, .scope a, k => place bs a (.inScope a :: k)
  | _, _, _ => none
def valB (p : Nat) : List Bool → Nat
  | [] => p
  | b :: bs => valB (2 * p + b.toNat) bs
theorem valB_snoc (b : Bool) : ∀ (bs : List Bool) (p : Nat), valB p (bs ++ [b]) = 2 * valB p bs + b.toNat
  | [], _ => rfl
  | _ :: bs, p => valB_snoc b bs _
theorem place_append (cs : List Bool) : ∀ (bs : List Bool) (c : Code) (k : List Item), place (bs ++ cs) c k = (place bs c k).bind fun q => place cs q.1 q.2
  | [], _, _ => rfl
  | b :: bs, c, k => by
    cases b <;> cases c <;> simp only [List.cons_append, place, Option.bind_none] <;> exact place_append cs bs _ _
theorem valB_ge (l : List Bool) : l.length < valB 1 l.reverse := by
  induction l with
  | nil => simp [valB]
  | cons b l ih => rw [List.reverse_cons, valB_snoc, List.length_cons]; omega
theorem bitsF_val : ∀ (l : List Bool) (n : Nat) (acc : List Bool), l.length ≤ n → bitsF n (valB 1 l.reverse) acc = l.reverse ++ acc := by
  intro l
  induction l with
  | nil => intro n acc _; cases n <;> rfl
  | cons b l ih =>
    intro n acc hn
    obtain ⟨m, rfl⟩ : ∃ m, n = m + 1 := ⟨n - 1, by simp at hn; omega⟩
    have hv := valB_ge l
    rw [List.reverse_cons, valB_snoc]
    have e1 : Nat.ble (2 * valB 1 l.reverse + b.toNat) 1 = false := by
      cases hb : Nat.ble (2 * valB 1 l.reverse + b.toNat) 1 with
      | false => rfl
      | true => have := Nat.le_of_ble_eq_true hb; omega
    have e2 : (2 * valB 1 l.reverse + b.toNat) / 2 = valB 1 l.reverse := by cases b <;> simp <;> omega
    have e3 : Nat.beq ((2 * valB 1 l.reverse + b.toNat) % 2) 1 = b := by
      cases b
      · rw [show (2 * valB 1 l.reverse + false.toNat) % 2 = 0 by simp]; rfl
      · rw [show (2 * valB 1 l.reverse + true.toNat) % 2 = 1 by simp]; rfl
    simp only [bitsF, e1, cond_false, e2, e3]
    rw [ih m _ (by simpa using hn)]
    simp
theorem bits_val (bs : List Bool) : bits (valB 1 bs) = bs := by
  have := bitsF_val bs.reverse (valB 1 bs) [] (by have := valB_ge bs.reverse; simp only [List.reverse_reverse] at this; omega)
  simpa [bits] using this

def At (root : Code) (p : Nat) (c : Code) (k : List Item) : Prop := ∃ bs, valB 1 bs = p ∧ place bs root [] = some (c, k)
theorem At.child {root c c' : Code} {p : Nat} {k k' : List Item} (h : At root p c k) (b : Bool) (hb : place [b] c k = some (c', k')) : At root (2 * p + b.toNat) c' k' := by
  obtain ⟨bs, rfl, hp⟩ := h
  exact ⟨bs ++ [b], valB_snoc b bs 1, by rw [place_append, hp]; exact hb⟩
theorem At.root (root : Code) : At root 1 root [] := ⟨[], rfl, rfl⟩
theorem At.bits {root c : Code} {p : Nat} {k : List Item} (h : At root p c k) : place (bits p) root [] = some (c, k) := by
  obtain ⟨bs, rfl, hp⟩ := h
  rw [bits_val]; exact hp

/-! ### Code -/
def Good (P : Program) (b : Frame) (cs : List Frame) (R : Act → World → Prop) (m : Machine) : Prop := ∃ a w todo, Steps P m (lone { b.at a todo with mode := .returning } cs w) ∧ a.defers = [] ∧ R a w
section code
variable {b : Frame} {cs : List Frame} {R : Act → World → Prop}
theorem Good.steps {m m' : Machine} (h : Steps P m m') (g : Good P b cs R m') : Good P b cs R m := by
  obtain ⟨a, w, todo, h1, h2⟩ := g
  exact ⟨a, w, todo, h.trans h1, h2⟩
theorem Good.head {m m' : Machine} (h : step P m = .next m') (g : Good P b cs R m') : Good P b cs R m := g.steps (.one h)

variable {X : Env} {r : List D}
structure KsOk (X : Env) (b : Frame) (cs : List Frame) (w0 : World) (S : Sp) (R : Act → World → Prop) (r : List D) (K : Ks) (k : List Item) : Prop where
  nx : ∀ fr w A a, K.nx fr = some r → St X.nt w0 S w A fr a.tmps → a.defers = [] → Good X.P b cs R (lone (b.at a k) cs w)
  ex : ∀ i fr w A a, K.ex i fr = some r → St X.nt w0 S w A fr a.tmps → a.defers = [] → ∃ k', exitTo i k = some k' ∧ Good X.P b cs R (lone (b.at a k') cs w)
  rt : ∀ fr w A a, K.rt fr = some r → St X.nt w0 S w A fr a.tmps → a.defers = [] → R a w

theorem region_ok (hN : NoNum X.P) (hC : ∀ g as r, X.call g as = some r → Con X.P X.H g as r) (hm : X.P.follows .mixedOrders = true) {id : Nat} {ops : Array Oper} {draw : Bool} {K : Fr → Option (List D)} (h : regionF X ops draw fr K = some r)
    {a : Act} (hst : St X.nt w0 S w A fr a.tmps) {N : Act → World → Prop} (hQ : ∀ fr' w' A' a', K fr' = some r → St X.nt w0 S w' A' fr' a'.tmps → a'.defers = a.defers → N a' w') :
    (Code.region id ops draw).wp X.P (fun e a' w' => e = .normal ∧ N a' w') a w := by
  have hb : ∀ o ∈ ops, ∀ d, o.dst = some d → d < X.nt := by
    unfold regionF at h
    replace h := bif_some h
    intro o ho d hd
    have := List.all_eq_true.1 h.1 o (Array.mem_def.1 ho)
    rw [hd] at this
    exact Nat.le_of_ble_eq_true this
  cases draw with
  | true =>
    refine wp_region_any hm (draw_ok hN hC hb h (A := A) ?_ fun fr' w' A' a' h1 h2 h3 => ⟨rfl, hQ fr' w' A' a' h1 h2 h3⟩)
    exact hst.drew
  | false =>
    refine wp_region ?_
    unfold regionF at h
    replace h := (bif_some h).2
    have := opsF_ok hN hC hb (Q := fun e a' w' => e = .normal ∧ N a' w') ops.toList 0 fr [] _ (fun j => by simp) h w A a hst fun fr' acc' w' A' a' h1 h2 h3 => ⟨rfl, hQ fr' w' A' a' h1 h2 h3⟩
    rw [List.range_eq_range']
    simpa using this

variable (hN : NoNum X.P) (hC : ∀ g as r, X.call g as = some r → Con X.P X.H g as r) (hm : X.P.follows .mixedOrders = true) {root : Code} (hp : ∀ s a, S.pin s = some a → s ∈ pinsOf X)
  (hk : ∀ p h l c k w A a, At root p c k → look p (X.H X.f).cuts = some h → X.kont p l = some r → St X.nt w0 S w A (Fr.ofLv h l) a.tmps → a.defers = [] → Good X.P b cs R (lone (b.at a (.code c :: k)) cs w))
include hN hC hm hp hk

omit hp hk in
theorem region_good {id : Nat} {ops : Array Oper} {draw : Bool} {K : Ks} {k : List Item} (h : regionF X ops draw fr K.nx = some r) {a : Act} (hst : St X.nt w0 S w A fr a.tmps) (hd : a.defers = []) (hK : KsOk X b cs w0 S R r K k) :
    Good X.P b cs R (lone (b.at a (.code (.region id ops draw) :: k)) cs w) := by
  obtain ⟨e, a', w', ⟨rfl, g⟩, harr⟩ := region_ok hN hC hm (id := id) h hst (N := fun a' w' => Good X.P b cs R (lone (b.at a' k) cs w')) (fun fr' w' A' a' h1 h2 h3 => hK.nx fr' w' A' a' h1 h2 (h3.trans hd)) b k cs
  exact g.steps harr

theorem ev_ok : ∀ (c : Code) (p : Nat) (fr : Fr) (K : Ks) (k : List Item) (w : World) (A : As) (a : Act), At root p c k → ev X p c fr K = some r → KsOk X b cs w0 S R r K k → St X.nt w0 S w A fr a.tmps → a.defers = [] →
    Good X.P b cs R (lone (b.at a (.code c :: k)) cs w) := by
  intro c
  induction c with
  | skip => intro p fr K k w A a hat h hK hst hd; exact (hK.nx fr w A a h hst hd).head step_skip
  | region id ops draw =>
    intro p fr K k w A a hat h hK hst hd
    simp only [ev] at h
    split at h
    · rename_i hh hl
      split at h
      · rename_i l hc
        obtain ⟨A', hst'⟩ := canon_ok hc hst hp
        exact hk p hh l _ k w A' a hat hl h hst' hd
      · cases h
    · exact region_good hN hC hm h hst hd hK
  | seq x y ihx ihy =>
    intro p fr K k w A a hat h hK hst hd
    simp only [ev] at h
    refine (ihx (2 * p) fr _ (.code y :: k) w A a (hat.child false rfl) h ⟨fun fr w A a h hst hd => ?_, fun i fr w A a h hst hd => ?_, hK.rt⟩ hst hd).head step_seq
    · exact ihy (2 * p + 1) fr K k w A a (hat.child true rfl) h hK hst hd
    · simp only [exitTo]; exact hK.ex i fr w A a h hst hd
  | cond c x y ihx ihy =>
    intro p fr K k w A a hat h hK hst hd
    simp only [ev, splitB] at h
    split at h
    · rename_i bb
      refine Good.head (step_cond (t := bb) rfl) ?_
      cases bb
      · exact ihy (2 * p + 1) fr K k w A a (hat.child true rfl) h hK hst hd
      · exact ihx (2 * p) fr K k w A a (hat.child false rfl) h hK hst hd
    · rename_i t
      split at h
      · rename_i x hx
        replace h := takeB_some h; obtain ⟨bb, rfl, h⟩ := h
        have hv := hst.tm t
        rw [hx] at hv
        have hst' : St X.nt w0 S w A { fr with tm := upd fr.tm t (.one (.d (.bool bb))) } a.tmps := hst.know t _ hv
        refine Good.head (step_cond (t := bb) hv.d_inv.bool_inv) ?_
        cases bb
        · exact ihy (2 * p + 1) _ K k w A a (hat.child true rfl) h hK hst' hd
        · exact ihx (2 * p) _ K k w A a (hat.child false rfl) h hK hst' hd
      · rename_i hx
        obtain ⟨ha, hb⟩ := both_some h
        have hv := hst.tm t
        rw [hx] at hv
        obtain ⟨hv1, bb, hvb⟩ := hv.one_inv
        have hst' : St X.nt w0 S w A { fr with tm := upd fr.tm t (.one (.d (.bool bb))) } a.tmps := hst.know t _ (by rw [hvb]; exact .one _ _ ⟨rfl, Rd.bool bb⟩)
        refine Good.head (step_cond (t := bb) hvb) ?_
        cases bb
        · exact ihy (2 * p + 1) _ K k w A a (hat.child true rfl) hb hK hst' hd
        · exact ihx (2 * p) _ K k w A a (hat.child false rfl) ha hK hst' hd
      · cases h
    · cases h
  | block id x ih =>
    intro p fr K k w A a hat h hK hst hd
    simp only [ev] at h
    refine (ih (2 * p) fr _ (.inBlock id :: k) w A a (hat.child false rfl) h ⟨fun fr w A a h hst hd => (hK.nx fr w A a h hst hd).head step_inBlock, fun i fr w A a h hst hd => ?_, hK.rt⟩ hst hd).head step_block
    simp only [exitTo]
    replace h : (bif Nat.beq i id then K.nx fr else K.ex i fr) = some r := h
    cases hb : Nat.beq i id with
    | true =>
      have := Nat.eq_of_beq_eq_true hb
      subst this
      rw [hb, cond_true] at h
      exact ⟨k, by simp, hK.nx fr w A a h hst hd⟩
    | false =>
      rw [hb, cond_false] at h
      rw [if_neg]
      · exact hK.ex i fr w A a h hst hd
      · intro e
        have : id = i := by simpa using e
        subst this
        rw [Nat.beq_refl] at hb; cases hb
  | loop x ih =>
    intro p fr K k w A a hat h hK hst hd
    simp only [ev] at h
    exact (ih (2 * p) fr _ (.inLoop x :: k) w A a (hat.child false rfl) h ⟨fun fr w A a h hst hd => (by cases h), fun i fr w A a h hst hd => (by simp only [exitTo]; exact hK.ex i fr w A a h hst hd), hK.rt⟩ hst hd).head step_loop
  | scope x ih =>
    intro p fr K k w A a hat h hK hst hd
    simp only [ev] at h
    exact (ih (2 * p) fr _ (.inScope x :: k) w A a (hat.child false rfl) h ⟨fun fr w A a h hst hd => (hK.nx fr w A a h hst hd).head step_inScope, fun i fr w A a h hst hd => (by simp only [exitTo]; exact hK.ex i fr w A a h hst hd), hK.rt⟩ hst hd).head step_scope
  | exit id =>
    intro p fr K k w A a hat h hK hst hd
    obtain ⟨k', h1, h2⟩ := hK.ex id fr w A a h hst hd
    exact h2.head (step_exit h1)
  | ret =>
    intro p fr K k w A a hat h hK hst hd
    exact ⟨a, w, _, .one step_ret, hd, hK.rt fr w A a h hst hd⟩
  | _ => intro p fr K k w A a hat h hK hst hd; cases h

theorem evAt_ok : ∀ (bs : List Bool) (c : Code) (p : Nat) (fr : Fr) (K : Ks) (k : List Item) (w : World) (A : As) (a : Act), At root p c k → evAt X bs p c fr K = some r → KsOk X b cs w0 S R r K k → St X.nt w0 S w A fr a.tmps → a.defers = [] →
    ∃ c' k', place bs c k = some (c', k') ∧ Good X.P b cs R (lone (b.at a (.code c' :: k')) cs w) := by
  intro bs
  induction bs with
  | nil =>
    intro c p fr K k w A a hat h hK hst hd
    cases c with
    | region id ops draw => exact ⟨_, _, rfl, region_good hN hC hm h hst hd hK⟩
    | _ => cases h
  | cons bb bs ih =>
    intro c p fr K k w A a hat h hK hst hd
    cases c with
    | seq x y =>
      cases bb with
      | false =>
        simp only [evAt] at h
        exact ih x (2 * p) fr _ (.code y :: k) w A a (hat.child false rfl) h ⟨fun fr w A a h hst hd => ev_ok hN hC hm hp hk y (2 * p + 1) fr K k w A a (hat.child true rfl) h hK hst hd, fun i fr w A a h hst hd => (by simp only [exitTo]; exact hK.ex i fr w A a h hst hd), hK.rt⟩ hst hd
      | true => simp only [evAt] at h; exact ih y (2 * p + 1) fr K k w A a (hat.child true rfl) h hK hst hd
    | cond c x y =>
      cases bb with
      | false => simp only [evAt] at h; exact ih x (2 * p) fr K k w A a (hat.child false rfl) h hK hst hd
      | true => simp only [evAt] at h; exact ih y (2 * p + 1) fr K k w A a (hat.child true rfl) h hK hst hd
    | block id x =>
      cases bb with
      | true => cases h
      | false =>
        simp only [evAt] at h
        refine ih x (2 * p) fr _ (.inBlock id :: k) w A a (hat.child false rfl) h ⟨fun fr w A a h hst hd => (hK.nx fr w A a h hst hd).head step_inBlock, fun i fr w A a h hst hd => ?_, hK.rt⟩ hst hd
        simp only [exitTo]
        replace h : (bif Nat.beq i id then K.nx fr else K.ex i fr) = some r := h
        cases hb : Nat.beq i id with
        | true =>
          have := Nat.eq_of_beq_eq_true hb
          subst this
          rw [hb, cond_true] at h
          exact ⟨k, by simp, hK.nx fr w A a h hst hd⟩
        | false =>
          rw [hb, cond_false] at h
          rw [if_neg]
          · exact hK.ex i fr w A a h hst hd
          · intro e
            have : id = i := by simpa using e
            subst this
            rw [Nat.beq_refl] at hb; cases hb
    | loop x =>
      cases bb with
      | true => cases h
      | false =>
        simp only [evAt] at h
        refine ih x (2 * p) fr _ (.inLoop x :: k) w A a (hat.child false rfl) h ⟨fun fr w A a h hst hd => ?_, fun i fr w A a h hst hd => (by simp only [exitTo]; exact hK.ex i fr w A a h hst hd), hK.rt⟩ hst hd
        exact (ev_ok hN hC hm hp hk x (2 * p) fr _ (.inLoop x :: k) w A a (hat.child false rfl) h ⟨fun fr w A a h hst hd => (by cases h), fun i fr w A a h hst hd => (by simp only [exitTo]; exact hK.ex i fr w A a h hst hd), hK.rt⟩ hst hd).head step_inLoop
    | scope x =>
      cases bb with
      | true => cases h
      | false =>
        simp only [evAt] at h
        exact ih x (2 * p) fr _ (.inScope x :: k) w A a (hat.child false rfl) h ⟨fun fr w A a h hst hd => (hK.nx fr w A a h hst hd).head step_inScope, fun i fr w A a h hst hd => (by simp only [exitTo]; exact hK.ex i fr w A a h hst hd), hK.rt⟩ hst hd
    | _ => cases bb <;> cases h
end code
end Go.Vm

/- Entering a function. -/
set_option linter.unusedVariables false
set_option linter.unusedSimpArgs false
namespace Go.Vm

variable {nt : Nat} {w0 : World} {S : Sp} {w : World} {A : As} {fr : Fr} {P : Program}

theorem key_inj {i j : Nat} (h : key i 0 = key j 0) : i = j := by unfold key at h; omega
theorem key_div (j : Nat) : key j 0 / 1024 = j := by unfold key; omega
theorem key_mod (j : Nat) : key j 0 % 1024 = 0 := by unfold key; omega

theorem tmE_bx (nr : Nat) (fr : Fr) (i : Nat) (v : V) : (tmE nr fr i v).bx = fr.bx := by unfold tmE; cases Nat.ble (i + 1) nr <;> rfl
theorem tmE_tk (nr : Nat) (fr : Fr) (i : Nat) (v : V) : (tmE nr fr i v).tk = fr.tk := by unfold tmE; cases Nat.ble (i + 1) nr <;> rfl
theorem tmE_same {nr : Nat} {fr : Fr} {i : Nat} {v : V} (h : i < nr) : (tmE nr fr i v).tm i = v := by
  unfold tmE
  rw [show Nat.ble (i + 1) nr = true from by rw [Nat.ble_eq]; exact h, cond_true]
  exact upd_same _ _ _
theorem tmE_ne {nr : Nat} {fr : Fr} {i t : Nat} {v : V} (h : t ≠ i ∨ nr ≤ i) : (tmE nr fr i v).tm t = fr.tm t := by
  unfold tmE
  cases hb : Nat.ble (i + 1) nr with
  | true =>
    rw [Nat.ble_eq] at hb
    exact upd_ne _ _ (by omega)
  | false => rfl
theorem enterF_spec {X : Env} {all : List Arg} {allk : List PK} {nr : Nat} : ∀ (as : List Arg) (ks : List PK) (i : Nat) (fr fr' : Fr), enterF X all allk nr i as ks fr = some fr' →
    as.length = ks.length ∧ fr'.tk = fr.tk ∧ (∀ t, t < i ∨ i + as.length ≤ t ∨ nr ≤ t → fr'.tm t = fr.tm t) ∧
    (∀ j cs k, as[j]? = some (.v cs) → ks[j]? = some k → ∃ v, entV X all allk k cs = some v ∧ (i + j < nr → fr'.tm (i + j) = v)) ∧
    (∀ j cs, as[j]? = some (.r cs) → (i + j < nr → fr'.tm (i + j) = .one (.ptr (key (i + j) 0) 0 0)) ∧ fr'.bx (key (i + j) 0) = some ⟨0, cs.map .d⟩) ∧
    (∀ s b, fr'.bx s = some b → fr.bx s = some b ∨ ∃ j cs, as[j]? = some (.r cs) ∧ s = key (i + j) 0 ∧ b = ⟨0, cs.map .d⟩) ∧ (∀ s, (∀ j, s ≠ key (i + j) 0) → fr'.bx s = fr.bx s)
  | [], [], i, fr, fr', h => by
    simp only [enterF, Option.some.injEq] at h
    subst h
    exact ⟨rfl, rfl, fun _ _ => rfl, fun j cs t h => by simp at h, fun j cs h => by simp at h, fun s b h => .inl h, fun _ _ => rfl⟩
  | [], t :: ts, i, fr, fr', h => by simp [enterF] at h
  | a :: as, [], i, fr, fr', h => by cases a <;> simp [enterF] at h
  | .v cs :: as, k :: ks, i, fr, fr', h => by
    simp only [enterF] at h
    split at h
    · rename_i v0 hv0
      obtain ⟨h1, h2, h3, h4, h5, h6, h7⟩ := enterF_spec as ks (i + 1) _ fr' h
      refine ⟨by simp [h1], h2.trans (tmE_tk _ _ _ _), fun t ht => ?_, fun j cs' k' ha ht => ?_, fun j cs' ha => ?_, fun s b hb => ?_, fun s hs => (h7 s fun j => by have := hs (j + 1); rwa [← Nat.add_assoc, Nat.add_right_comm] at this).trans (by rw [tmE_bx])⟩
      · rw [h3 t (by simp only [List.length_cons] at ht; omega)]
        exact tmE_ne (by simp only [List.length_cons] at ht; omega)
      · cases j with
        | zero =>
          simp only [List.getElem?_cons_zero, Option.some.injEq, Arg.v.injEq] at ha ht
          subst ha ht
          refine ⟨v0, hv0, fun hn => ?_⟩
          rw [h3 (i + 0) (by omega)]
          exact tmE_same hn
        | succ j =>
          obtain ⟨v, q1, q2⟩ := h4 j cs' k' (by simpa using ha) (by simpa using ht)
          exact ⟨v, q1, fun hn => by rw [show i + (j + 1) = i + 1 + j by omega]; exact q2 (by omega)⟩
      · cases j with
        | zero => simp at ha
        | succ j =>
          have := h5 j cs' (by simpa using ha)
          rwa [Nat.add_right_comm] at this
      · rcases h6 s b hb with hh | ⟨j, cs', q1, q2, q3⟩
        · exact .inl (by rwa [tmE_bx] at hh)
        · exact .inr ⟨j + 1, cs', by simpa using q1, by rw [q2, Nat.add_right_comm]; rfl, q3⟩
    · cases h
  | .r cs :: as, k :: ks, i, fr, fr', h => by
    cases k with
    | r e =>
      simp only [enterF] at h
      replace h := (bif_some h).2
      obtain ⟨h1, h2, h3, h4, h5, h6, h7⟩ := enterF_spec as ks (i + 1) _ fr' h
      refine ⟨by simp [h1], h2.trans (tmE_tk _ _ _ _), fun t ht => ?_, fun j cs' t' ha ht => ?_, fun j cs' ha => ?_, fun s b hb => ?_, fun s hs => ?_⟩
      · rw [h3 t (by simp only [List.length_cons] at ht; omega)]
        exact tmE_ne (by simp only [List.length_cons] at ht; omega)
      · cases j with
        | zero => simp at ha
        | succ j =>
          obtain ⟨v, q1, q2⟩ := h4 j cs' t' (by simpa using ha) (by simpa using ht)
          exact ⟨v, q1, fun hn => by rw [show i + (j + 1) = i + 1 + j by omega]; exact q2 (by omega)⟩
      · cases j with
        | zero =>
          simp only [List.getElem?_cons_zero, Option.some.injEq, Arg.r.injEq] at ha
          subst ha
          refine ⟨fun hn => ?_, ?_⟩
          · rw [h3 (i + 0) (by omega)]; exact tmE_same hn
          · rw [h7 (key (i + 0) 0) fun j e => by have := key_inj e; omega]; exact upd_same _ _ _
        | succ j =>
          have := h5 j cs' (by simpa using ha)
          rwa [Nat.add_right_comm] at this
      · rcases h6 s b hb with hh | ⟨j, cs', q1, q2, q3⟩
        · by_cases hs : s = key i 0
          · subst hs
            have hh : upd fr.bx (key i 0) (some ⟨0, cs.map .d⟩) (key i 0) = some b := hh
            rw [upd_same] at hh
            injection hh with hh
            exact .inr ⟨0, cs, rfl, rfl, hh.symm⟩
          · exact .inl ((upd_ne _ _ hs).symm.trans hh)
        · exact .inr ⟨j + 1, cs', by simpa using q1, by rw [q2, Nat.add_right_comm]; rfl, q3⟩
      · rw [h7 s fun j => by have := hs (j + 1); rwa [← Nat.add_assoc, Nat.add_right_comm] at this]
        exact upd_ne _ _ (hs 0)
    | _ => simp [enterF] at h

variable {Im : Pl}
theorem args_get : ∀ {as : List Arg} {ts : List PK} {vs : List Value} {gs : List Reg}, ArgsOk P w Im as ts vs gs → as.length = ts.length ∧ vs.length = ts.length ∧ ∀ (j : Nat) (a : Arg), as[j]? = some a → ∃ t v g, ts[j]? = some t ∧ vs[j]? = some v ∧ ArgOk P w Im a t v g ∧ ∀ k o, regsPl g k o → regsPl gs k o
  | _, _, _, _, .nil => ⟨rfl, rfl, fun j a h => by simp at h⟩
  | _, _, _, _, .cons (gs := g1) h hs dis => by
    obtain ⟨h1, h2, h3⟩ := args_get hs
    refine ⟨by simp [h1], by simp [h2], fun j a ha => ?_⟩
    cases j with
    | zero =>
      simp only [List.getElem?_cons_zero, Option.some.injEq] at ha
      subst ha
      exact ⟨_, _, _, rfl, rfl, h, fun k o ⟨x, hx, hh⟩ => ⟨x, List.mem_append_left _ hx, hh⟩⟩
    | succ j =>
      obtain ⟨t, v, g, q1, q2, q3, q4⟩ := h3 j a (by simpa using ha)
      exact ⟨t, v, g, by simpa using q1, by simpa using q2, q3, fun k o hh => by obtain ⟨x, hx, hh⟩ := q4 k o hh; exact ⟨x, List.mem_append_right _ hx, hh⟩⟩

/-- A place of what argument 'j' leads to. -/
def RegAt (as : List Arg) (vs : List Value) (j k o : Nat) : Prop := ∃ cs a, as[j]? = some (.r cs) ∧ vs[j]? = some (.pointer (some a)) ∧ k = a.block ∧ a.off ≤ o ∧ o < a.off + cs.length
theorem args_reg {as : List Arg} {ts : List PK} {vs : List Value} {gs : List Reg} (h : ArgsOk P w Im as ts vs gs) {j k o : Nat} (hr : RegAt as vs j k o) : regsPl gs k o := by
  obtain ⟨cs, a, h1, h2, h3, h4, h5⟩ := hr
  obtain ⟨t, v, g, q1, q2, q3, q4⟩ := (args_get h).2.2 j _ h1
  rw [h2] at q2; injection q2 with q2; subst q2
  cases q3
  exact q4 _ _ ⟨_, List.mem_cons_self, h3, h4, h5⟩
theorem args_dis : ∀ {as : List Arg} {ts : List PK} {vs : List Value} {gs : List Reg}, ArgsOk P w Im as ts vs gs → ∀ {j j' k o : Nat}, RegAt as vs j k o → RegAt as vs j' k o → j = j'
  | _, _, _, _, .nil, j, j', k, o, h, _ => by obtain ⟨cs, a, h1, _⟩ := h; simp at h1
  | _, _, _, _, .cons (a := a) (v := v) (gs := g1) (as := as) (vs := vs) h hs dis, j, j', k, o, h1, h2 => by
    have tail : ∀ {j}, RegAt (a :: as) (v :: vs) (j + 1) k o → RegAt as vs j k o := fun ⟨cs, x, q1, q2, q3⟩ => ⟨cs, x, by simpa using q1, by simpa using q2, q3⟩
    have head : RegAt (a :: as) (v :: vs) 0 k o → regsPl g1 k o := fun ⟨cs, x, q1, q2, q3, q4, q5⟩ => by
      simp only [List.getElem?_cons_zero, Option.some.injEq] at q1 q2
      subst q1 q2
      cases h
      exact ⟨_, List.mem_cons_self, q3, q4, q5⟩
    cases j with
    | zero =>
      cases j' with
      | zero => rfl
      | succ j' => exact absurd (args_reg hs (tail h2)) (dis k o (head h1))
    | succ j =>
      cases j' with
      | zero => exact absurd (args_reg hs (tail h1)) (dis k o (head h2))
      | succ j' => rw [args_dis hs (tail h1) (tail h2)]

theorem pinSites_mem : ∀ (ks : List PK) (i j : Nat) (e : TypeId), ks[j]? = some (.r e) → key (i + j) 0 ∈ pinSites i ks
  | [], i, j, e, h => by simp at h
  | x :: ks, i, 0, e, h => by
    simp only [List.getElem?_cons_zero, Option.some.injEq] at h
    subst h
    simp [pinSites]
  | x :: ks, i, j + 1, e, h => by
    have := pinSites_mem ks (i + 1) j e (by simpa using h)
    rw [show i + 1 + j = i + (j + 1) by omega] at this
    simp only [pinSites]
    split
    · exact List.mem_cons_of_mem _ this
    · exact this

def addrAt (vs : List Value) (j : Nat) : Option Addr := match vs[j]? with
  | some (.pointer (some a)) => some a
  | _ => none
def pinOf (as : List Arg) (vs : List Value) (s : Nat) : Option Addr := if s % 1024 = 0 then (match as[s / 1024]? with
  | some (.r _) => addrAt vs (s / 1024)
  | _ => none) else none
theorem pinOf_key {as : List Arg} {vs : List Value} {j : Nat} {cs : List D} {a : Addr} (h1 : as[j]? = some (.r cs)) (h2 : vs[j]? = some (.pointer (some a))) : pinOf as vs (key j 0) = some a := by
  simp [pinOf, key_div, key_mod, h1, addrAt, h2]
theorem pinOf_some {as : List Arg} {vs : List Value} {s : Nat} {a : Addr} (h : pinOf as vs s = some a) : ∃ j cs, s = key j 0 ∧ as[j]? = some (.r cs) ∧ vs[j]? = some (.pointer (some a)) := by
  unfold pinOf at h
  split at h
  · rename_i hm
    split at h
    · rename_i cs hc
      unfold addrAt at h
      split at h
      · rename_i a' ha
        injection h with h; subst h
        exact ⟨s / 1024, cs, by unfold key; omega, hc, ha⟩
      · cases h
    · cases h
  · cases h

open Classical in
noncomputable def asOf (Im : Pl) (as : List Arg) (vs : List Value) : As where
  Im := Im
  β := fun s => (pinOf as vs s).getD default
  τ := fun _ => Go.undef
  ω := fun _ => none
  own := fun k o => if h : ∃ j, RegAt as vs j k o then .b (key h.choose 0) else .none

theorem capsOf_get {all : List Arg} {ks : List PK} : ∀ {ix : List Nat} {caps : List Cap}, capsOf all ks ix = some caps → caps.length = ix.length ∧ ∀ (j : Nat) (c : Cap), caps[j]? = some c → ∃ q, ix[j]? = some q ∧ capOf all ks q = some c
  | [], caps, h => by
    simp only [capsOf, Option.some.injEq] at h
    subst h
    exact ⟨rfl, fun j c h => by simp at h⟩
  | q :: qs, caps, h => by
    simp only [capsOf] at h
    split at h
    · rename_i c hc
      obtain ⟨cs, h1, rfl⟩ := Option.map_eq_some_iff.1 h
      obtain ⟨q1, q2⟩ := capsOf_get h1
      refine ⟨by simp [q1], fun j c' hj => ?_⟩
      cases j with
      | zero =>
        simp only [List.getElem?_cons_zero, Option.some.injEq] at hj
        subst hj
        exact ⟨q, rfl, hc⟩
      | succ j =>
        obtain ⟨q', h2, h3⟩ := q2 j c' (by simpa using hj)
        exact ⟨q', by simpa using h2, h3⟩
    · cases h
theorem enter_st {X : Env} {fn : Func} (hf : X.fn = some fn) {as : List Arg} {vals : List Value} {gs : List Reg} (ha : ArgsOk X.P w Im as (kindsOf X.P X.H X.f fn) vals gs) (hF : FnsOk (kindsOf X.P X.H X.f fn) vals) (hI : ∀ k o, Im k o → ∃ u, w.cell? (at_ k o) = some u)
    (he : enterF X as (kindsOf X.P X.H X.f fn) (nreal X.H X.f fn) 0 as (kindsOf X.P X.H X.f fn) fr0 = some fr) :
    (∀ s a, pinOf as vals s = some a → s ∈ pinsOf X) ∧ St X.nt w ⟨regsPl gs, Im, pinOf as vals⟩ w (asOf Im as vals) fr ((vals.take (nreal X.H X.f fn)).toArray ++ Array.replicate (fn.ntmps - (vals.take (nreal X.H X.f fn)).toArray.size) Go.undef) := by
  obtain ⟨g1, g2, g3⟩ := args_get ha
  obtain ⟨e1, e2, e3, e4, e5, e6, e7⟩ := enterF_spec as _ 0 fr0 fr he
  simp only [Nat.zero_add] at e3 e4 e5 e6 e7
  have own_in : ∀ {j k o}, RegAt as vals j k o → (asOf Im as vals).own k o = .b (key j 0) := fun {j k o} h => by
    have hh : ∃ j, RegAt as vals j k o := ⟨j, h⟩
    simp only [asOf, dif_pos hh]
    rw [args_dis ha hh.choose_spec h]
  have own_some : ∀ {k o}, (asOf Im as vals).own k o = .none ∨ ∃ j, RegAt as vals j k o ∧ (asOf Im as vals).own k o = .b (key j 0) := fun {k o} => by
    by_cases hh : ∃ j, RegAt as vals j k o
    · obtain ⟨j, hj⟩ := hh; exact .inr ⟨j, hj, own_in hj⟩
    · exact .inl (by simp only [asOf, dif_neg hh])
  have ptr : ∀ {j cs}, as[j]? = some (.r cs) → ∃ e a, (kindsOf X.P X.H X.f fn)[j]? = some (.r e) ∧ vals[j]? = some (.pointer (some a)) ∧ a = at_ a.block a.off ∧ cs.length = sz X.P e ∧ (asOf Im as vals).β (key j 0) = a ∧
      ∀ (q : Nat) (d : D), cs[q]? = some d → w.frozen? (at_ a.block (a.off + q)) = false ∧ ¬ Im a.block (a.off + q) ∧ ∃ u, w.cell? (at_ a.block (a.off + q)) = some u ∧ Rd w Im d u := fun {j cs} hj => by
    obtain ⟨t, v, g, q1, q2, q3, q4⟩ := g3 j _ hj
    cases q3 with
    | r _ e k o hl h0 hr =>
      refine ⟨e, _, q1, q2, rfl, hl, ?_, hr⟩
      simp only [asOf, pinOf_key hj q2, Option.getD_some]
  have hptr : ∀ {j cs a}, as[j]? = some (.r cs) → vals[j]? = some (.pointer (some a)) → CapR fr w (asOf Im as vals) (.p (key j 0) 0) (.pointer (some a)) := fun {j cs a} hj hv => by
    obtain ⟨e, a', q1, q2, q3, q4, q5, _⟩ := ptr hj
    rw [hv] at q2; injection q2 with q2; injection q2 with q2; injection q2 with q2; subst q2
    refine ⟨⟨_, _, by rw [q3]⟩, _, (e5 j cs hj).2, Nat.le_refl _, fun _ => ?_⟩
    rw [q5]
    exact congrArg (fun z => Value.pointer (some z)) q3
  refine ⟨fun s a hs => ?_, ⟨?_, Keep.refl _ _, fun t => ?_, fun s b hb => ?_, fun t k hk => ?_, fun k o hi => ?_, fun _ _ h _ => h, fun _ _ h => h, fun s a hs => ?_⟩⟩
  · obtain ⟨j, cs, rfl, h1, h2⟩ := pinOf_some hs
    obtain ⟨e, a', q1, _⟩ := ptr h1
    have := pinSites_mem (kindsOf X.P X.H X.f fn) 0 j e q1
    simp only [pinsOf, hf]
    simpa using this
  · simp only [Env.nt, hf]; simp; omega
  · by_cases ht : t < as.length ∧ t < nreal X.H X.f fn
    · obtain ⟨ht, htn⟩ := ht
      obtain ⟨a, hat⟩ : ∃ a, as[t]? = some a := ⟨_, List.getElem?_eq_getElem ht⟩
      obtain ⟨ty, v, g, q1, q2, q3, q4⟩ := g3 t a hat
      have hv : ((vals.take (nreal X.H X.f fn)).toArray ++ Array.replicate (fn.ntmps - (vals.take (nreal X.H X.f fn)).toArray.size) Go.undef).getD t Go.undef = v := by
        rw [Array.getD_eq_getD_getElem?, Array.getElem?_append_left (by simp; omega)]
        simp [List.getElem?_take, htn, q2]
      rw [hv]
      cases q3 with
      | v cs ty us hok hl hu hr =>
        obtain ⟨x, r1, r2⟩ := e4 t cs _ hat q1
        rw [r2 htn]
        simp only [entV] at r1
        replace r1 := (bif_some r1).2
        injection r1 with r1
        subst r1
        refine RV.ofCells hok (by simpa using hl) ⟨by simpa using hu, fun j c u h1 h2 => ?_⟩
        rw [List.getElem?_map] at h1
        obtain ⟨d, hd, rfl⟩ := Option.map_eq_some_iff.1 h1
        have := hr j d u hd h2
        exact ⟨this.one, this⟩
      | r cs e k o hl h0 hr =>
        rw [(e5 t cs hat).1 htn]
        obtain ⟨hp, hh⟩ := hptr hat q2
        exact .one _ _ ⟨rfl, hp, hh⟩
      | w d u h =>
        obtain ⟨x, r1, r2⟩ := e4 t _ _ hat q1
        rw [r2 htn]
        simp only [entV, Option.some.injEq] at r1
        subst r1
        exact .one _ _ ⟨h.one, h⟩
      | n a =>
        obtain ⟨x, r1, r2⟩ := e4 t _ _ hat q1
        rw [r2 htn]
        simp only [entV, Option.some.injEq] at r1
        subst r1
        exact .one _ _ ⟨rfl, a, rfl⟩
      | f g b ix u =>
        obtain ⟨x, r1, r2⟩ := e4 t _ _ hat q1
        rw [r2 htn]
        simp only [entV] at r1
        obtain ⟨caps, r3, rfl⟩ := Option.map_eq_some_iff.1 r1
        obtain ⟨c1, c2⟩ := capsOf_get r3
        obtain ⟨us, f1, f2, f3⟩ := hF t g b ix q1
        rw [q2] at f1; injection f1 with f1; subst f1
        refine .one _ _ ⟨rfl, us, rfl, by omega, fun j c u h1 h2 => ?_⟩
        obtain ⟨q, h3, h4⟩ := c2 j c h1
        obtain ⟨u', h5, h6⟩ := f3 j q h3
        rw [h2] at h5; injection h5 with h5; subst h5
        unfold capOf at h4
        split at h4
        · rename_i cs e ha1 hk1
          injection h4 with h4
          subst h4
          obtain ⟨e', a', p1, p2, _⟩ := ptr ha1
          rw [h6] at p2; injection p2 with p2; subst p2
          exact hptr ha1 h6
        · rename_i x ha1 hk1
          injection h4 with h4
          subst h4
          obtain ⟨t', v', g', p1, p2, p3, _⟩ := g3 q _ ha1
          rw [h6] at p2; injection p2 with p2; subst p2
          rw [hk1] at p1; injection p1 with p1; subst p1
          cases p3 with
          | w d u h => exact h
        · cases h4
    · have hv : ((vals.take (nreal X.H X.f fn)).toArray ++ Array.replicate (fn.ntmps - (vals.take (nreal X.H X.f fn)).toArray.size) Go.undef).getD t Go.undef = Go.undef := by
        rw [Array.getD_eq_getD_getElem?, Array.getElem?_append_right (by simp; omega)]
        rw [Array.getElem?_replicate]
        split <;> rfl
      rw [hv, e3 t (by omega)]
      exact .skip
  · rcases e6 s b hb with hh | ⟨j, cs, h1, rfl, rfl⟩
    · cases hh
    · obtain ⟨e, a, q1, q2, q4, q5, q6, q7⟩ := ptr h1
      have reg : ∀ q, q < cs.length → RegAt as vals j a.block (a.off + q) := fun q hq => ⟨cs, a, h1, q2, rfl, by omega, by omega⟩
      refine ⟨fun q c hc => ?_, fun q hq => ?_, fun q hq => ?_, fun q hq => ?_, fun hp => ?_⟩
      · rw [List.getElem?_map] at hc
        obtain ⟨d, hd, rfl⟩ := Option.map_eq_some_iff.1 hc
        obtain ⟨_, _, u, h3, h4⟩ := q7 q d hd
        rw [q6]
        exact ⟨u, h3, h4.one, h4⟩
      · rw [q6]
        simp only [List.length_map] at hq
        exact (q7 q _ (List.getElem?_eq_getElem hq)).1
      · rw [q6]; exact own_in (reg q (by simpa using hq))
      · rw [q6]; exact .inr (args_reg ha (reg q (by simpa using hq)))
      · simp only [pinOf_key h1 q2] at hp; cases hp
  · rw [e2] at hk; cases hk
  · refine ⟨hI k o hi, fun s hs => ?_, fun t x h1 h2 => ?_⟩
    · rcases own_some (k := k) (o := o) with h | ⟨j, hj, h⟩
      · rw [h] at hs; cases hs
      · obtain ⟨cs, a, h1, h2, rfl, h4, h5⟩ := hj
        obtain ⟨e, a', q1, q2, q4, q5, q6, q7⟩ := ptr h1
        rw [h2] at q2; injection q2 with q2; injection q2 with q2; injection q2 with q2; subst q2
        have hq : o - a.off < cs.length := by omega
        have := (q7 _ _ (List.getElem?_eq_getElem hq)).2.1
        rw [show a.off + (o - a.off) = o by omega] at this
        exact this hi
    · rw [e2] at h2; cases h2
  · obtain ⟨j, cs, rfl, h1, h2⟩ := pinOf_some hs
    exact ⟨_, (e5 j cs h1).2, fun _ => by simp only [asOf, pinOf_key h1 h2, Option.getD_some]⟩

end Go.Vm
