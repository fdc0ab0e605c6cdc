/- Aggregates, literals, make; stores. -/
import Derived.Test.YtgjingnobdhdfaaVmOp4
set_option linter.unusedVariables false
set_option linter.unusedSimpArgs false
namespace Go.Vm

variable {nt : Nat} {w0 : World} {S : Sp} {w : World} {A : As} {fr : Fr} {tmps : Array Value} {P : Program}

theorem run_size_info {t : TypeId} (h : (P.info? t).isSome) (w : World) : (sizeOf t).run P w = .ok (sz P t) w := by
  obtain ⟨i, hi⟩ := Option.isSome_iff_exists.1 h
  simp [sizeOf, typeInfo, hi, sz, Program.cellsOf]
theorem run_places (fs : List Field) (h : fs.all (fun f => (P.info? f.type).isSome) = true) (w : World) : (fs.mapM fun f => do pure (f.offset, ← sizeOf f.type) : Sem (List (Nat × Nat))).run P w = .ok (fs.map fun f => (f.offset, sz P f.type)) w := by
  induction fs with
  | nil => rfl
  | cons f fs ih =>
    simp only [List.all_cons, Bool.and_eq_true] at h
    simp only [List.mapM_cons, Sem.run_bind, run_size_info h.1, Result.andThen_ok, Sem.run_pure, ih h.2, List.map_cons]

theorem parts_rv {a : Act} (h : St nt w0 S w A fr a.tmps) (parts : List (Nat × Operand)) : ∀ (j : Nat) (p : Nat × V) (q : Nat × Value), (parts.map fun p => (p.1, val fr p.2))[j]? = some p → (parts.map fun p => (p.1, a.eval p.2))[j]? = some q → q.1 = p.1 ∧ RV fr w A p.2 q.2 := by
  intro j p q h1 h2
  rw [List.getElem?_map] at h1 h2
  cases hj : parts[j]? with
  | none => simp [hj] at h1
  | some x =>
    simp [hj] at h1 h2
    subst h1 h2
    exact ⟨rfl, val_rv h x.2⟩

theorem buildF_ok {α : Type} {X : Env} {t : TypeId} {parts : List (Nat × Operand)} {K : V → Option α} {r : α} (h : buildF X t (parts.map fun p => (p.1, val fr p.2)) K = some r) :
    ∃ z, (∀ (β : Type) (K' : V → Option β), buildF X t (parts.map fun p => (p.1, val fr p.2)) K' = K' z) ∧
      ∀ (nt : Nat) (w0 : World) (S : Sp) (w : World) (A : As) (a : Act), St nt w0 S w A fr a.tmps → ∃ v, (Instr.build t (parts.map fun p => (p.1, a.eval p.2)).toArray).run X.P w = .ok v w ∧ RV fr w A z v := by
  unfold buildF at h
  obtain ⟨zv, hz0, hzs, hK, h, hzr, hrc⟩ := zeroF_ok h
  split at h
  · rename_i fs hu
    replace h := bif_some h; obtain ⟨hi, h⟩ := h
    split at h
    · rename_i cs hf
      refine ⟨_, fun β K' => by unfold buildF; rw [hK]; simp only [hu, hi, cond_true, hf]; rfl, fun nt w0 S w A a hst => ?_⟩
      obtain ⟨vs', r1, r2, r3⟩ := fillF_ok (w := w) (A := A) (vs := zv.cells) hf (hrc fr w A) (by simp) (parts_rv hst parts)
      refine ⟨.agg vs', ?_, .agg _ _ r2⟩
      have hpl := run_places (P := X.P) fs.toList hi w
      simp only [Instr.build, Sem.run_bind, hzr, Result.andThen_ok, run_underlying' hu, Sem.run_pure]
      rw [Array.mapM_eq_mapM_toList]
      simp only [Sem.run_map, hpl, Result.andThen_ok]
      have : (fun (i : Nat) => ((fs.toList.map fun (f : Field) => (f.offset, sz X.P f.type)).toArray)[i]?) = fun i => (fs[i]?).map fun (f : Field) => (f.offset, sz X.P f.type) := by
        funext i; simp
      simp only [this, r1]
      rfl
    · cases h
  · rename_i n e hu
    replace h := bif_some h; obtain ⟨hi, h⟩ := h
    split at h
    · rename_i cs hf
      refine ⟨_, fun β K' => by unfold buildF; rw [hK]; simp only [hu, hi, cond_true, hf]; rfl, fun nt w0 S w A a hst => ?_⟩
      obtain ⟨vs', r1, r2, r3⟩ := fillF_ok (w := w) (A := A) (vs := zv.cells) hf (hrc fr w A) (by simp) (parts_rv hst parts)
      refine ⟨.agg vs', ?_, .agg _ _ r2⟩
      simp only [Instr.build, Sem.run_bind, hzr, Result.andThen_ok, run_underlying' hu, Sem.run_pure, run_size_info hi, r1]
    · cases h
  · cases h

theorem chunk_get {β : Type} (n : Nat) : ∀ (m : Nat) (l : List β) (i : Nat), i < m → (chunk n m l)[i]? = some ((l.drop (i * n)).take n)
  | 0, l, i, h => by omega
  | m + 1, l, 0, h => by simp [chunk]
  | m + 1, l, i + 1, h => by
    simp only [chunk, List.getElem?_cons_succ]
    rw [chunk_get n m (l.drop n) i (by omega), List.drop_drop, Nat.succ_mul, Nat.add_comm n]
theorem chunk_len {β : Type} (n : Nat) : ∀ (m : Nat) (l : List β), (chunk n m l).length = m
  | 0, l => rfl
  | m + 1, l => by simp [chunk, chunk_len n m]

theorem made_get {z : Array Value} {n q : Nat} (h : q < n) : (madeCells z n)[q]? = some z[q % z.size]! := by
  simp [madeCells, h]

theorem buildSliceF_ok {α : Type} {X : Env} {d : Nat} {t : TypeId} {len : Nat} {parts : List (Nat × Operand)} {K : Eff → Option α} {r : α} (h : buildSliceF X fr d t len (parts.map fun p => (p.1, val fr p.2)) K = some r) :
    ∃ z, (∀ (β : Type) (K' : Eff → Option β), buildSliceF X fr d t len (parts.map fun p => (p.1, val fr p.2)) K' = K' z) ∧
      ∀ (nt : Nat) (w0 : World) (S : Sp) (w : World) (A : As) (a : Act), St nt w0 S w A fr a.tmps → Does X.P fr z nt w0 S w A a.tmps (Instr.buildSlice t len (parts.map fun p => (p.1, a.eval p.2)).toArray) := by
  unfold buildSliceF at h
  split at h
  · cases h
  · rename_i e he
    have hu := elemT_eq he
    replace h := bif_not h; obtain ⟨hc, h⟩ := h
    have hcc := hc
    simp only [Bool.or_eq_false_iff, Bool.not_eq_false', Nat.ble_eq] at hc
    obtain ⟨hn0, hle⟩ := hc
    have hn0 := beq_false hn0
    obtain ⟨zv, hz0, hzs, hK, h, hzr, hrc⟩ := zeroF_ok h
    split at h
    · rename_i cs hf
      split at h
      · rename_i ds hds
        replace h := bif_not h; obtain ⟨hk, h⟩ := h
        refine ⟨_, fun β K' => by unfold buildSliceF; simp only [he, hcc, cond_false]; rw [hK]; simp only [hf, hds, hk, cond_false]; rfl, fun nt w0 S w A a hst => ?_⟩
        have hbase : RCs fr w A ((List.range (len * sz X.P e)).map fun q => (zv.cells.toList.map cOf).getD (q % sz X.P e) .undef) (madeCells zv.cells (len * sz X.P e)).toList := by
          refine ⟨by simp [size_madeCells], fun j c v h1 h2 => ?_⟩
          obtain ⟨hj, rfl⟩ := range_map_get h1
          rw [Array.getElem?_toList, made_get hj] at h2
          injection h2 with h2
          subst h2
          have hlt : j % sz X.P e < zv.cells.size := by rw [hzs]; exact Nat.mod_lt _ (Nat.pos_of_ne_zero hn0)
          have := (hrc fr w A).2 (j % sz X.P e) _ _ (List.getElem?_eq_getElem (by simpa using hlt)) (List.getElem?_eq_getElem (by simpa using hlt))
          rw [hzs, getElem!_pos zv.cells _ hlt]
          simpa [List.getD, hlt] using this
        obtain ⟨vs', r1, r2, r3⟩ := fillF_ok (w := w) (A := A) (vs := madeCells zv.cells (len * sz X.P e)) hf hbase (by simp) (parts_rv hst parts)
        rw [size_madeCells] at r3
        obtain ⟨u1, hst1⟩ := hst.freeze (toksOf cs) _ rfl
        obtain ⟨hdl, hdr⟩ := toDs_rd hst hds r2 (ks := toksOf cs) fun t ht => ht
        have hcl := r2.1
        have hkey : key d 0 ∉ toksOf cs := fun hm => by
          have : (toksOf cs).any (Nat.beq (key d 0)) = true := List.any_eq_true.2 ⟨_, hm, Nat.beq_refl _⟩
          rw [this] at hk; cases hk
        have hrel : TokRel (w.alloc (.cells vs' e)) (ImF A fr (toksOf cs)) w0.heap.size ⟨nextT fr (key d 0), false, e, sz X.P e, chunk (sz X.P e) len ds⟩ (.slice (some (at_ w.heap.size 0)) len len) (some w.heap.size) := by
          refine ⟨Nat.pos_of_ne_zero hn0, hst.keep.size, fun row hrow => ?_, len, vs', by rw [chunk_len], heap_alloc_new w _, by rw [chunk_len]; exact Nat.le_refl _, ?_, r3, fun i row hi j x hj => ?_⟩
          · obtain ⟨i, hi⟩ := List.getElem?_of_mem hrow
            have hlt := (List.getElem?_eq_some_iff.1 hi).1
            rw [chunk_len] at hlt
            rw [chunk_get _ _ _ _ hlt] at hi
            injection hi with hi
            subst hi
            show ((ds.drop (i * sz X.P e)).take (sz X.P e)).length = sz X.P e
            rw [List.length_take, List.length_drop, hdl]
            have : i * sz X.P e + sz X.P e ≤ len * sz X.P e := by rw [← Nat.succ_mul]; exact Nat.mul_le_mul_right _ hlt
            simp at hcl
            omega
          · simp only [maxLen]
            have := Nat.le_mul_of_pos_right len (Nat.pos_of_ne_zero hn0)
            omega
          · have hlt := (List.getElem?_eq_some_iff.1 hi).1
            rw [chunk_len] at hlt
            rw [chunk_get _ _ _ _ hlt] at hi
            injection hi with hi
            subst hi
            rw [List.getElem?_take] at hj
            split at hj
            · rename_i hjn
              rw [List.getElem?_drop] at hj
              have hlt2 := (List.getElem?_eq_some_iff.1 hj).1
              have hv : i * sz X.P e + j < vs'.size := by simp at hcl; omega
              refine ⟨vs'[i * sz X.P e + j], by simp [hv], ?_⟩
              have := hdr _ x _ hj (List.getElem?_eq_getElem (by simpa using hv))
              refine Rd.step (by simpa using this) (fun _ _ h => h) fun k o hi => ?_
              obtain ⟨q, hq⟩ := (hst1.im k o hi).cell
              exact cell_alloc w _ o (cell_lt hq)
            · cases hj
        obtain ⟨A', _, s1, s2, _, s3⟩ := hst1.newTok (key d 0) ⟨nextT fr (key d 0), false, e, sz X.P e, chunk (sz X.P e) len ds⟩ (.slice (some (at_ w.heap.size 0)) len len) (some w.heap.size) (by simp only [nextT, upds_freeze, if_neg hkey]) rfl
          (Keep.alloc _ _ _) (fun q hq => by injection hq with hq; omega) hrel _ rfl
        refine ⟨.slice (some (at_ w.heap.size 0)) len len, _, A', ?_, s1, .one _ _ ⟨rfl, _, upd_same _ _ _, Nat.le_refl _, fun _ => s2.symm⟩⟩
        have hsz' := run_sizeOf' (P := X.P) (t := e) hn0 w
        unfold sz at r1 hle
        simp only [Instr.buildSlice, Sem.run_bind, run_underlying' hu, Result.andThen_ok, hsz']
        rw [if_neg (by omega)]
        unfold madeCells at r1
        by_cases h0 : len * X.P.cellsOf e = 0
        · have hmk : (Array.range (len * X.P.cellsOf e)).map (fun x => zv.cells[x % zv.cells.size]!) = (Array.range (len * X.P.cellsOf e)).map (fun x => (#[] : Array Value)[x % (#[] : Array Value).size]!) := by rw [h0]; simp [Array.range_zero']
          rw [hmk] at r1
          simp only [h0, if_true, Sem.run_bind, Sem.run_pure, Result.andThen_ok] at r1 ⊢
          rw [r1]
          simp [newRow]
        · simp only [if_neg h0, Sem.run_bind, hzr, Result.andThen_ok, Sem.run_pure, r1]
          simp [newRow]
      · cases h
    · cases h


theorem made_row {z : Array Value} {n i j : Nat} (hz : z.size = n) (hj : j < n) : (i * n + j) % z.size = j := by
  subst hz
  rw [Nat.mul_comm, Nat.mul_add_mod, Nat.mod_eq_of_lt hj]

theorem makeSliceF_ok {α : Type} {X : Env} {d : Nat} {t : TypeId} {l c : V} {K : Eff → Option α} {r : α} (h : makeSliceF X fr d t l c K = some r) :
    ∃ z, (∀ (β : Type) (K' : Eff → Option β), makeSliceF X fr d t l c K' = K' z) ∧
      ∀ (nt : Nat) (w0 : World) (S : Sp) (w : World) (A : As) (tmps : Array Value) (vl vc : Value), St nt w0 S w A fr tmps → RV fr w A l vl → RV fr w A c vc → Does X.P fr z nt w0 S w A tmps (Instr.makeSlice t vl vc) := by
  unfold makeSliceF at h
  split at h
  · cases h
  · rename_i e he
    have hu := elemT_eq he
    replace h := bif_not h; obtain ⟨hc, h⟩ := h
    have hcc := hc
    simp only [Bool.or_eq_false_iff] at hc
    have hn0 := beq_false hc.1
    have hb0 := beq_false hc.2
    replace h := zeroF_ok h
    obtain ⟨zv, hz0, hzs, hK, h, hzr, hrc⟩ := h
    split at h
    · rename_i zs hzd
      replace h := intT_ok h; obtain ⟨nl, hnl, h, hvl⟩ := h
      replace h := intT_ok h; obtain ⟨nc, hnc, h, hvc⟩ := h
      replace h := br_req h; obtain ⟨hb, h⟩ := h
      refine ⟨_, fun β K' => by unfold makeSliceF; simp only [he, hcc, cond_false]; rw [hK]; simp only [hzd, hnl, hnc, hb, br]; rfl, fun nt w0 S w A tmps vl vc hst h1 h2 => ?_⟩
      obtain ⟨kl, rfl⟩ := hvl fr w A vl h1
      obtain ⟨kc, rfl⟩ := hvc fr w A vc h2
      obtain ⟨b1, b2, b3⟩ : 0 ≤ nl ∧ nl ≤ nc ∧ nc.toNat * X.P.bytesOf e ≤ room := by simpa using hb
      obtain ⟨i, hi, hz⟩ := Option.bind_eq_some_iff.1 hz0
      have hby : i.bytes = X.P.bytesOf e := by simp [Program.bytesOf, hi]
      have hsz : i.size = sz X.P e := by simp [sz, Program.cellsOf, hi]
      have hcb : nc.toNat ≤ 140737488355328 := Nat.le_trans (Nat.le_mul_of_pos_right nc.toNat (Nat.pos_of_ne_zero hb0)) b3
      have hb3 : (i.bytes : Int) * nc ≤ 281474976710656 := by
        have e1 : ((nc.toNat * X.P.bytesOf e : Nat) : Int) = (i.bytes : Int) * nc := by
          rw [hby, Int.natCast_mul, Int.toNat_of_nonneg (by omega), Int.mul_comm]
        rw [← e1]
        simp only [room] at b3
        omega
      have hrun := run_make (P := X.P) w t e i zv hu hi hz kl kc nl nc b1 b2 hb3 (by omega)
      rw [hsz] at hrun
      obtain ⟨hdl, hdr⟩ := toDs_rd hst hzd (hrc fr w A) (ks := []) fun t ht => by
        obtain ⟨c, hc1, hc2⟩ := List.mem_flatMap.1 ht
        obtain ⟨u, _, rfl⟩ := List.mem_map.1 hc1
        unfold cOf at hc2
        split at hc2
        · cases hc2
        · split at hc2 <;> cases hc2
      have hdl' : zs.length = sz X.P e := by simp at hdl; omega
      have him : ∀ k o, ImF A fr [] k o → A.Im k o := fun k o hh => hh.resolve_right fun ⟨t, ht, _⟩ => by cases ht
      have hrel : TokRel (w.alloc (.cells (madeCells zv.cells (nc.toNat * sz X.P e)) e)) A.Im w0.heap.size ⟨nextT fr (key d 0), false, e, sz X.P e, List.replicate nl.toNat zs⟩ (.slice (some (at_ w.heap.size 0)) nl.toNat nc.toNat) (some w.heap.size) := by
        refine ⟨Nat.pos_of_ne_zero hn0, hst.keep.size, fun row hrow => ?_, nc.toNat, _, by simp, heap_alloc_new w _, by simp; omega, by simp only [maxLen]; omega, size_madeCells _ _, fun q row hq j x hj => ?_⟩
        · rw [(List.mem_replicate.1 hrow).2]; exact hdl'
        · have hlt := (List.getElem?_eq_some_iff.1 hq).1
          have hr := (List.mem_replicate.1 (List.mem_of_getElem? hq)).2
          subst hr
          have hjl := (List.getElem?_eq_some_iff.1 hj).1
          simp at hlt
          have hin : q * sz X.P e + j < nc.toNat * sz X.P e := by
            have : q * sz X.P e + sz X.P e ≤ nc.toNat * sz X.P e := by rw [← Nat.succ_mul]; exact Nat.mul_le_mul_right _ (by omega)
            omega
          refine ⟨_, made_get hin, ?_⟩
          rw [made_row hzs (by omega), getElem!_pos zv.cells j (by omega)]
          refine Rd.step (hdr j x _ hj (List.getElem?_eq_getElem (by simp; omega))) (fun k o hh => him k o hh) fun k o hh => ?_
          obtain ⟨u, hu⟩ := (hst.im k o (him k o hh)).cell
          exact cell_alloc w _ o (cell_lt hu)
      obtain ⟨A', _, s1, s2, _, s3⟩ := hst.newTok (key d 0) ⟨nextT fr (key d 0), false, e, sz X.P e, List.replicate nl.toNat zs⟩ (.slice (some (at_ w.heap.size 0)) nl.toNat nc.toNat) (some w.heap.size) rfl rfl
        (Keep.alloc _ _ _) (fun q hq => by injection hq with hq; omega) hrel _ rfl
      exact ⟨_, _, A', hrun, s1, .one _ _ ⟨s3, _, upd_same _ _ _, Nat.le_refl _, fun _ => s2.symm⟩⟩
    · cases h

theorem run_storeVar {t : TypeId} {ad : Addr} {v : Value} (hz : v.cells.size = sz P t) (hu : okT P t = true) {w' : World} (h : (storeCells ad v.cells.toList).run P w = .ok () w') : (storeVar t ad v).run P w = .ok () w' := by
  have := run_sizeOf'' (okT_und hu) w
  unfold sz at hz
  simp only [storeVar, Sem.run_bind, this, Result.andThen_ok]
  rw [if_neg (by omega)]
  simpa using h

theorem storeF_ok {α : Type} {X : Env} {t : TypeId} {a v : V} {K : Eff → Option α} {r : α} (h : storeF X fr t a v K = some r) :
    ∃ z, (∀ (β : Type) (K' : Eff → Option β), storeF X fr t a v K' = K' z) ∧ z.v = .skip ∧
      ∀ (nt : Nat) (w0 : World) (S : Sp) (w : World) (A : As) (tmps : Array Value) (va vv : Value), St nt w0 S w A fr tmps → RV fr w A a va → RV fr w A v vv →
        ∃ w' A', (Instr.storeAt t va vv).run X.P w = .ok () w' ∧ St nt w0 S w' A' (fr.mem z) tmps := by
  unfold storeF at h
  replace h := bif_some h; obtain ⟨hc, h⟩ := h
  have hcc := hc
  simp only [Bool.and_eq_true, Nat.beq_eq] at hc
  obtain ⟨⟨c1, c2⟩, c3⟩ := hc
  split at h
  · rename_i s e off
    split at h
    · rename_i b hb
      replace h := bif_some h; obtain ⟨hq, h⟩ := h
      have hqq := hq
      simp only [Bool.and_eq_true, Nat.beq_eq, Nat.ble_eq] at hq
      refine ⟨_, fun β K' => by simp only [storeF, hcc, cond_true, hb, hqq]; rfl, rfl, fun nt w0 S w A tmps va vv hst ha hv => ?_⟩
      have := ha.ptr_inv hb hq.1
      subst this
      have hcl := hv.cells c3
      have hsz : vv.cells.size = sz X.P t := by have := hcl.1; simp at this; omega
      obtain ⟨r1, r2⟩ := hst.setBox (P := X.P) hb hcl hq.2 _ rfl
      refine ⟨w.setCells (A.β s).block ((A.β s).off + off) vv.cells.toList, A, ?_, ?_⟩
      · simp only [Instr.storeAt, Instr.sureAddr, Sem.run_bind, Sem.run_pure, Result.andThen_ok]
        exact run_storeVar hsz c2 r1
      · have e1 := hq.1
        subst e1
        exact r2
    · cases h
  · rename_i k e i off
    split at h
    · rename_i x hx
      replace h := bif_some h; obtain ⟨hq, h⟩ := h
      have hqq := hq
      simp only [Bool.and_eq_true, Nat.beq_eq, Nat.ble_eq, Bool.not_eq_true'] at hq
      obtain ⟨⟨q1, q2⟩, q3⟩ := hq
      split at h
      · rename_i ds hds
        replace h := bif_not h; obtain ⟨hk, h⟩ := h
        refine ⟨_, fun β K' => by simp only [storeF, hcc, cond_true, hx, hqq, hds, hk, cond_false]; rfl, rfl, fun nt w0 S w A tmps va vv hst ha hv => ?_⟩
        obtain ⟨hi, g, hg, rfl⟩ := ha.tptr_inv hx q1
        have hcl := hv.cells c3
        have hsz : vv.cells.size = sz X.P t := by have := hcl.1; simp at this; omega
        have hkey : k ∉ toksOf v.cells := fun hm => by
          have : (toksOf v.cells).any (Nat.beq k) = true := List.any_eq_true.2 ⟨_, hm, Nat.beq_refl _⟩
          rw [this] at hk; cases hk
        obtain ⟨u1, hst1⟩ := hst.freeze (toksOf v.cells) _ rfl
        obtain ⟨hdl, hdr⟩ := toDs_rd hst hds hcl (ks := toksOf v.cells) fun t ht => ht
        have hcl1 := hcl.1
        simp only [Array.length_toList] at hcl1
        have hx' : (upds fr.tk (freeze fr (toksOf v.cells))) k = some x := by rw [upds_freeze, if_neg hkey]; exact hx
        obtain ⟨r1, r2⟩ := hst1.setTok (P := X.P) (off := off) (ds := ds) (vs := vv.cells.toList) hx' q3 hg hi (by simp; omega) hdr (by omega) _ rfl
        refine ⟨_, _, ?_, r2⟩
        simp only [Instr.storeAt, Instr.sureAddr, Sem.run_bind, Sem.run_pure, Result.andThen_ok]
        exact run_storeVar hsz c2 r1
      · cases h
    · cases h
  · cases h

end Go.Vm
