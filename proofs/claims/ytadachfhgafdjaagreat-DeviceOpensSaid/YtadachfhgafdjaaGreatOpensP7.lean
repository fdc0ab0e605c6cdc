/- OpensP: part 7 of the texts that the proof of opens_holds needs: an evaluator of the program on data, its soundness, the equations of the functions, the plain laws. Conditions: none. -/
import Derived.Test.YtadachfhgafdjaaGreatOpensP6
import Derived.Test.YtadachfhgafdjaaGreatProg
import Derived.KernelRfl
import Derived.RangeFuncFrom
import Derived.RangeFuncLeaves
import Derived.RangeFuncBox
import Derived.OwnWalkIn
import Derived.TacticsInMore
import Derived.LoopNIn
import Derived.LoopIn
/- clock.position: what it answers is so in memory (it ranges over a function: the kit's law for that). -/
set_option linter.unusedVariables false
set_option linter.unusedSimpArgs false
namespace Go.Vm
open Go.RowKit

attribute [local go_sem] Oper.semAt_some
noncomputable abbrev PP : Program := Go.Proofs.Tryz.prog

def Pce.val (p : Pce) : Value := .agg #[.int .i64 p.f, .int .i64 p.nu, .int .i64 p.de, .int .i64 p.u, .int .i64 p.b]
set_option maxRecDepth 100000 in
theorem at_in {H : FuncId → Hints} {p : Pce} {t x : Int} (hb : baseOf H 196 = 196) (hF : (H 196).fresh = []) (hk : ∀ fn, PP.funcs[196]? = some fn → kindsOf PP H 196 fn = [.v 236, .v 2] ∧ nreal H 196 fn = 2 ∧ fn.resultTypes = #[2])
    (h : Con PP H 196 [.v p.row, .v [.int .i64 t]] [.int .i64 x]) (n : Nat) (w : World) : CallsIn Fence.wide n PP 196 #[p.val, .int .i64 t] w fun e w' => e = .returned (.int .i64 x) ∧ Below w.heap.size w w' := by
  refine callsIn_wide.2 ?_
  obtain ⟨fn, hfn⟩ : ∃ fn, PP.funcs[196]? = some fn := ⟨Go.Proofs.Tryz.f196, by kernel_rfl⟩
  obtain ⟨k1, k2, k3⟩ := hk fn hfn
  have ev : partV PP 236 [.int .i64 p.f, .int .i64 p.nu, .int .i64 p.de, .int .i64 p.u, .int .i64 p.b] = p.val := by
    have : isAggT PP 236 = true := by kernel_rfl
    unfold partV
    rw [this]
    rfl
  have et : partV PP 2 [.int .i64 t] = .int .i64 t := by
    have : isAggT PP 2 = false := by kernel_rfl
    unfold partV
    rw [this]
    rfl
  have s1 : sz PP 236 = 5 := by kernel_rfl
  have s2 : sz PP 2 = 1 := by kernel_rfl
  have o1 : okT PP 236 = true := by kernel_rfl
  have o2 : okT PP 2 = true := by kernel_rfl
  have a1 : ArgOk PP w (fun _ _ => False) (.v p.row) (.v 236) p.val [] := by
    rw [← ev]
    refine ArgOk.v p.row 236 _ o1 (by rw [s1]; rfl) rfl (fun j d u h1 h2 => ?_)
    match j, h1, h2 with
    | 0, h1, h2 => cases h1; cases h2; exact .int _ _
    | 1, h1, h2 => cases h1; cases h2; exact .int _ _
    | 2, h1, h2 => cases h1; cases h2; exact .int _ _
    | 3, h1, h2 => cases h1; cases h2; exact .int _ _
    | 4, h1, h2 => cases h1; cases h2; exact .int _ _
    | n + 5, h1, h2 => simp [Pce.row] at h1
  have a2 : ArgOk PP w (fun _ _ => False) (.v [.int .i64 t]) (.v 2) (.int .i64 t) [] := by
    rw [← et]
    refine ArgOk.v _ 2 _ o2 (by rw [s2]; rfl) rfl (fun j d u h1 h2 => ?_)
    match j, h1, h2 with
    | 0, h1, h2 => cases h1; cases h2; exact .int _ _
    | n + 1, h1, h2 => simp at h1
  have hno : ∀ k o, ¬ regsPl [] k o := fun _ _ h => by obtain ⟨g, hg, _⟩ := h; cases hg
  have := h fn (by rw [hb]; exact hfn) w (fun _ _ => False) [p.val, .int .i64 t] [] (by
    rw [k1]
    exact .cons a1 (.cons a2 .nil (fun _ _ h _ => hno _ _ h)) (fun _ _ h _ => hno _ _ h)) (by
    rw [k1]
    intro i g b ix hi
    match i, hi with
    | 0, hi => cases hi
    | 1, hi => cases hi
    | n + 2, hi => simp at hi) (fun _ _ h => h.elim)
  rw [hb, k2] at this
  refine Calls.mono this fun e w' ⟨v, he, hp⟩ => ?_
  obtain ⟨Im', vs, bl, ds', qs, rfl, hq, hres, hrefs, _, _, hkp, _⟩ := hp.out
  refine ⟨?_, hkp.below fun k o h => hno k o h⟩
  rw [he]
  cases hrefs
  rw [List.append_nil] at hq
  subst hq
  rw [k3] at hres
  congr 1
  generalize hj : (0 : Nat) = j at hres
  generalize hd : [D.int .i64 x] = dd at hres
  generalize ht : (#[2] : Array TypeId).toList = tt at hres
  have ht' : tt = [2] := ht.symm
  subst ht'
  have hu : PP.underlying 2 = some (.int .i64) := by kernel_rfl
  cases hres with
  | ptr h _ _ _ _ => simp only [isPtrT, hu] at h; cases h
  | @val _ _ _ cs ds2 us vs2 b1 bl2 h hok hl hc hs =>
    cases hs
    rw [List.append_nil] at hd
    subst hd
    cases hc with
    | @cons _ d u b ds3 us3 bl3 h hs =>
      cases hs
      generalize look j (H 196).fresh = o at h
      cases h with
      | plain _ _ h =>
        cases h
        simp [tupV, partV, isAggT, hu]

/-! ### The iterator -/
theorem func243 : PP.funcs[243]? = some Go.Proofs.Tryz.f243 := by kernel_rfl
theorem func195 : PP.funcs[195]? = some Go.Proofs.Tryz.f195 := by kernel_rfl
theorem func127 : PP.funcs[127]? = some Go.Proofs.Tryz.f127 := by kernel_rfl
theorem ntmps243 : Go.Proofs.Tryz.f243.ntmps = 41 := by kernel_rfl
theorem ntmps195 : Go.Proofs.Tryz.f195.ntmps = 4 := by kernel_rfl
theorem ntmps127 : Go.Proofs.Tryz.f127.ntmps = 22 := by kernel_rfl

set_option maxHeartbeats 1000000 in
theorem pieces_in (n : Nat) (s : Value) (w : World) : CallsIn Fence.wide n PP 195 #[.agg #[s]] w fun e w' => e = .returned (.func (.func 243) #[] #[.pointer (some ⟨w.heap.size, 0, none⟩)]) ∧ w' = w.alloc (.cells #[s] 35) := by
  refine callsIn_of_wp func195 rfl trivial ?_ rfl
  simp only [ntmps195, List.size_toArray, List.length_cons, List.length_nil, Nat.reduceAdd, Nat.reduceSub, Array.replicate_succ, Array.replicate_zero, List.push_toArray, List.append_toArray, List.nil_append, List.cons_append]
  gi_wp2
  go_ret
  exact ⟨rfl, rfl⟩
end Go.Vm

/- The iterator over the pieces of a clock. -/
set_option linter.unusedVariables false
set_option linter.unusedSimpArgs false
namespace Go.Vm
open Go.RowKit

attribute [local go_sem] Oper.semAt_some

/-- The segments of pieces, as they lie. -/
structure SegsAt (W : World) (g o : Nat) (ps : List Pce) : Prop where
  c0 : ∀ (k : Nat) (h : k < ps.length), W.cell? ⟨g, o + k * 3, none⟩ = some (.int .i64 ps[k].f)
  c1 : ∀ (k : Nat) (h : k < ps.length), W.cell? ⟨g, o + k * 3 + 1, none⟩ = some (.int .i64 ps[k].nu)
  c2 : ∀ (k : Nat) (h : k < ps.length), W.cell? ⟨g, o + k * 3 + 2, none⟩ = some (.int .i64 ps[k].de)
/-- What a round keeps: all cells but those of one block. -/
structure KC (N : Nat) (W W' : World) : Prop where
  size : W.heap.size ≤ W'.heap.size
  same : ∀ (k : Nat) (o : Obj), k ≠ N → W.heap[k]? = some o → o.isCells = true → W'.heap[k]? = some o
theorem KC.trans {N : Nat} {A B C : World} (h : KC N A B) (k : KC N B C) : KC N A C := ⟨Nat.le_trans h.size k.size, fun i o hi h1 h2 => k.same i o hi (h.same i o hi h1 h2) h2⟩
theorem KC.cell {N : Nat} {A B : World} (h : KC N A B) {a : Addr} {v : Value} (ha : a.block ≠ N) (hv : A.cell? a = some v) : B.cell? a = some v := by
  obtain ⟨o, h1, h2⟩ := cells_of_cell hv
  have h3 := h.same a.block o ha h1 h2
  unfold World.cell? at hv ⊢
  rw [h3, ← h1]; exact hv
theorem KC.of_below {N : Nat} {A B : World} (h : Below A.heap.size A B) : KC N A B := ⟨h.size, fun k o _ h1 _ => (h.block k (Array.getElem?_eq_some_iff.1 h1).1).trans h1⟩
theorem KC.putObj {N : Nat} (W : World) (l : Nat) (o o' : Obj) (h : W.heap[l]? = some o) (hc : o.isCells = false) : KC N W (W.putObj l o') :=
  ⟨by simp, fun k o2 hk h1 h2 => by
    by_cases e : k = l
    · subst e; rw [h] at h1; cases h1; rw [hc] at h2; cases h2
    · exact (World.putObj_heap_other e).trans h1⟩
theorem SegsAt.kc {N : Nat} {A B : World} {g o : Nat} {ps : List Pce} (h : KC N A B) (hg : g ≠ N) (hs : SegsAt A g o ps) : SegsAt B g o ps :=
  ⟨fun k hk => h.cell hg (hs.c0 k hk), fun k hk => h.cell hg (hs.c1 k hk), fun k hk => h.cell hg (hs.c2 k hk)⟩
/-- Each piece ends where the next begins; at its end so much has been counted as the next begins with. -/
structure Chain (ps : List Pce) : Prop where
  un : ∀ (k : Nat) (h : k + 1 < ps.length), ps[k].u = ps[k + 1].f
  la : ∀ (k : Nat) (h : k + 1 = ps.length), ps[k].u = 1099511627776
  at_ : ∀ (k : Nat) (h : k < ps.length), ∃ x, (∀ n w, CallsIn Fence.wide n PP 196 #[ps[k].val, .int .i64 ps[k].u] w fun e w' => e = .returned (.int .i64 x) ∧ Below w.heap.size w w') ∧ ∀ h' : k + 1 < ps.length, ps[k + 1].b = x
  zero : ∀ h : 0 < ps.length, ps[0].b = 0

theorem cellA {W : World} {a : Addr} {v : Value} (o : Obj) (h : W.cell? a = some v) : (W.alloc o).cell? a = some v := cell_kept h (World.grownBy_alloc W o none) (fun r e => by cases e)
set_option maxRecDepth 100000 in
set_option maxHeartbeats 4000000 in
theorem iter_in (n : Nat) (hn : 1 ≤ n) (l Bs N g o cap : Nat) (ps : List Pce) (hreach : ps.length * 24 ≤ 140737488351232) (hg : g ≠ N) (hBN : Bs ≠ N) (hch : Chain ps) (J Jx : List (Fin ps.length) → World → Prop)
    (hY : ∀ pre x W, J pre W → pre.length < ps.length → YieldAt Fence.wide (n - 1) PP l #[ps[x].val] W fun e W' =>
      (e = .returned (.bool true) ∧ J (pre ++ [x]) W' ∧ KC N W W') ∨ (e = .returned (.bool false) ∧ Jx (pre ++ [x]) W'))
    (hJ : ∀ pre W W', J pre W → Below W.heap.size W W' → J pre W')
    (W : World) (hNW : N < W.heap.size) (hBs : W.cell? ⟨Bs, 0, none⟩ = some (.slice (some ⟨g, o, none⟩) ps.length cap)) (hc : SegsAt W g o ps) (h0 : J [] W) :
    CallsIn Fence.wide n PP 243 #[.func (.yield l) #[] #[], .pointer (some ⟨Bs, 0, none⟩)] W fun e W' => (∃ v, e = .returned v) ∧
      ((∃ ys, ys = List.finRange ps.length ∧ J ys W') ∨ (∃ pre, pre <+: List.finRange ps.length ∧ Jx pre W')) := by
  refine callsIn_of_wp func243 rfl trivial ?_ rfl
  simp only [ntmps243, List.size_toArray, List.length_cons, List.length_nil, Nat.reduceAdd, Nat.reduceSub, Array.replicate_succ, Array.replicate_zero, List.push_toArray, List.append_toArray, List.nil_append, List.cons_append]
  gi_wp2
  gi_loopw [10, 3] (fun i ib wr => ∃ (k : Nat) (b : Int), k ≤ ps.length ∧ i = .int .i64 k ∧ ib = .int .i64 b ∧ (∀ h : k < ps.length, b = ps[k].b) ∧ J ((List.finRange ps.length).take k) wr ∧ N < wr.heap.size ∧ SegsAt wr g o ps ∧ wr.cell? ⟨Bs, 0, none⟩ = some (.slice (some ⟨g, o, none⟩) ps.length cap))
    (fun i _ _ => ps.length - (intOf i).toNat)
  case atStart => exact ⟨0, 0, Nat.zero_le _, rfl, rfl, fun h => (hch.zero h).symm, h0, hNW, hc, hBs⟩
  case round =>
    obtain ⟨k, b, hk, rfl, rfl, hb, hJs, hNr, hsg, hcs⟩ := hrel
    by_cases hlt : k < ps.length
    · obtain rfl := hb hlt
      have e0 := hsg.c0 k hlt
      have e1 := hsg.c1 k hlt
      have e2 := hsg.c2 k hlt
      have f1 := cellA (.cells #[.int .i64 ps[k].f, .int .i64 ps[k].nu, .int .i64 ps[k].de, .int .i64 1099511627776, .int .i64 ps[k].b] 236) (cellA (.cells #[.int .i64 ps[k].f, .int .i64 ps[k].nu, .int .i64 ps[k].de] 112) hcs)
      obtain ⟨x, hat, hx⟩ := hch.at_ k hlt
      have hBel : ∀ u, Below wr.heap.size wr ((wr.alloc (.cells #[.int .i64 ps[k].f, .int .i64 ps[k].nu, .int .i64 ps[k].de] 112)).alloc (.cells #[.int .i64 ps[k].f, .int .i64 ps[k].nu, .int .i64 ps[k].de, .int .i64 u, .int .i64 ps[k].b] 236)) := fun u => ((Below.refl _ wr).alloc (Nat.le_refl _) _).alloc (by simp) _
      have hlen : ((List.finRange ps.length).take k).length < ps.length := by rw [List.length_take, List.length_finRange]; omega
      have hTk : (List.finRange ps.length).take k ++ [⟨k, hlt⟩] = (List.finRange ps.length).take (k + 1) := by rw [List.take_add_one, List.getElem?_eq_getElem (by rw [List.length_finRange]; exact hlt)]; simp
      -- what is read when the round is over
      have hbox : ∀ u {W4}, KC N ((wr.alloc (.cells #[.int .i64 ps[k].f, .int .i64 ps[k].nu, .int .i64 ps[k].de] 112)).alloc (.cells #[.int .i64 ps[k].f, .int .i64 ps[k].nu, .int .i64 ps[k].de, .int .i64 u, .int .i64 ps[k].b] 236)) W4 →
          W4.heap[wr.heap.size + 1]? = some (.cells #[.int .i64 ps[k].f, .int .i64 ps[k].nu, .int .i64 ps[k].de, .int .i64 u, .int .i64 ps[k].b] 236) := fun u W4 hk4 => by
        refine hk4.same _ _ (by omega) ?_ rfl
        have := World.alloc_heap_new (wr.alloc (.cells #[.int .i64 ps[k].f, .int .i64 ps[k].nu, .int .i64 ps[k].de] 112)) (.cells #[.int .i64 ps[k].f, .int .i64 ps[k].nu, .int .i64 ps[k].de, .int .i64 u, .int .i64 ps[k].b] 236)
        rwa [World.size_alloc] at this
      by_cases hl2 : k + 1 < ps.length
      · have f2 := cellA (.cells #[.int .i64 ps[k].f, .int .i64 ps[k].nu, .int .i64 ps[k].de, .int .i64 1099511627776, .int .i64 ps[k].b] 236) (cellA (.cells #[.int .i64 ps[k].f, .int .i64 ps[k].nu, .int .i64 ps[k].de] 112) (hsg.c0 (k + 1) hl2))
        have hu := hch.un k hl2
        have hval : ps[k].val = .agg #[.int .i64 ps[k].f, .int .i64 ps[k].nu, .int .i64 ps[k].de, .int .i64 ps[k + 1].f, .int .i64 ps[k].b] := by unfold Pce.val; rw [hu]
        obtain ⟨fn, tmps, assign, body, hy, hR⟩ := hY ((List.finRange ps.length).take k) ⟨k, hlt⟩ _ (hJ _ _ _ hJs (hBel ps[k + 1].f)) hlen
        simp only [Fin.getElem_fin] at hy
        rw [hval] at hy
        rw [hval, hu] at hat
        gi_wp2
        refine hR.mono ?_
        rintro e W4 (⟨rfl, hJ4, hk4⟩ | ⟨rfl, hJx4⟩)
        · have hbx := hbox _ hk4
          have g0 : W4.cell? ⟨wr.heap.size + 1, 0, none⟩ = some (.int .i64 ps[k].f) := by simp [World.cell?, hbx]
          have g1 : W4.cell? ⟨wr.heap.size + 1, 1, none⟩ = some (.int .i64 ps[k].nu) := by simp [World.cell?, hbx]
          have g2 : W4.cell? ⟨wr.heap.size + 1, 2, none⟩ = some (.int .i64 ps[k].de) := by simp [World.cell?, hbx]
          have g3 : W4.cell? ⟨wr.heap.size + 1, 3, none⟩ = some (.int .i64 ps[k + 1].f) := by simp [World.cell?, hbx]
          have g4 : W4.cell? ⟨wr.heap.size + 1, 4, none⟩ = some (.int .i64 ps[k].b) := by simp [World.cell?, hbx]
          gi_wp2
          refine ⟨trivial, (hat (n - 1) _).mono ?_⟩
          rintro e w' ⟨rfl, hB⟩
          have hk5 := hk4.trans (KC.of_below hB)
          gi_wp2
          go_roundw
          case rel =>
            refine ⟨k + 1, x, by omega, by simp, rfl, fun h => (hx h).symm, by rw [← hTk]; exact hJ _ _ _ hJ4 hB, ?_, ?_, ?_⟩
            · have := hk5.size; simp at this; omega
            · exact (hsg.kc (KC.of_below (hBel _)) hg).kc hk5 hg
            · exact hk5.cell hBN ((KC.of_below (N := N) (hBel _)).cell hBN hcs)
          case measure => simp [intOf]; omega
        · gi_wp2
          refine bodyPost_ret (results_none rfl _ _ _) rfl ?_
          exact ⟨⟨_, rfl⟩, .inr ⟨_, by rw [hTk]; exact List.take_prefix _ _, hJx4⟩⟩
      · have hu := hch.la k (by omega)
        have hval : ps[k].val = .agg #[.int .i64 ps[k].f, .int .i64 ps[k].nu, .int .i64 ps[k].de, .int .i64 1099511627776, .int .i64 ps[k].b] := by unfold Pce.val; rw [hu]
        obtain ⟨fn, tmps, assign, body, hy, hR⟩ := hY ((List.finRange ps.length).take k) ⟨k, hlt⟩ _ (hJ _ _ _ hJs (hBel 1099511627776)) hlen
        simp only [Fin.getElem_fin] at hy
        rw [hval] at hy
        rw [hval, hu] at hat
        gi_wp2
        refine hR.mono ?_
        rintro e W4 (⟨rfl, hJ4, hk4⟩ | ⟨rfl, hJx4⟩)
        · have hbx := hbox _ hk4
          have g0 : W4.cell? ⟨wr.heap.size + 1, 0, none⟩ = some (.int .i64 ps[k].f) := by simp [World.cell?, hbx]
          have g1 : W4.cell? ⟨wr.heap.size + 1, 1, none⟩ = some (.int .i64 ps[k].nu) := by simp [World.cell?, hbx]
          have g2 : W4.cell? ⟨wr.heap.size + 1, 2, none⟩ = some (.int .i64 ps[k].de) := by simp [World.cell?, hbx]
          have g3 : W4.cell? ⟨wr.heap.size + 1, 3, none⟩ = some (.int .i64 1099511627776) := by simp [World.cell?, hbx]
          have g4 : W4.cell? ⟨wr.heap.size + 1, 4, none⟩ = some (.int .i64 ps[k].b) := by simp [World.cell?, hbx]
          gi_wp2
          refine ⟨trivial, (hat (n - 1) _).mono ?_⟩
          rintro e w' ⟨rfl, hB⟩
          have hk5 := hk4.trans (KC.of_below hB)
          gi_wp2
          go_roundw
          case rel =>
            refine ⟨k + 1, x, by omega, by simp, rfl, fun h => (hx h).symm, by rw [← hTk]; exact hJ _ _ _ hJ4 hB, ?_, ?_, ?_⟩
            · have := hk5.size; simp at this; omega
            · exact (hsg.kc (KC.of_below (hBel _)) hg).kc hk5 hg
            · exact hk5.cell hBN ((KC.of_below (N := N) (hBel _)).cell hBN hcs)
          case measure => simp [intOf]; omega
        · gi_wp2
          refine bodyPost_ret (results_none rfl _ _ _) rfl ?_
          exact ⟨⟨_, rfl⟩, .inr ⟨_, by rw [hTk]; exact List.take_prefix _ _, hJx4⟩⟩
    · obtain rfl : k = ps.length := by omega
      gi_wp2
      go_end0
      exact ⟨⟨_, rfl⟩, .inl ⟨_, rfl, by rw [List.take_of_length_le (by rw [List.length_finRange]; exact Nat.le_refl _)] at hJs; exact hJs⟩⟩
end Go.Vm

/- A loop over an iterator whose rounds have variables of their own. -/
set_option linter.unusedVariables false
set_option linter.unusedSimpArgs false
namespace Go.Vm
open Go.RowKit

/-- All cells are kept. -/
structure KA (W W' : World) : Prop where
  size : W.heap.size ≤ W'.heap.size
  same : ∀ (k : Nat) (o : Obj), W.heap[k]? = some o → o.isCells = true → W'.heap[k]? = some o
theorem KA.kc {N : Nat} {W W' : World} (h : KA W W') : KC N W W' := ⟨h.size, fun k o _ => h.same k o⟩
theorem KA.putObj (W : World) (l : Nat) (o o' : Obj) (h : W.heap[l]? = some o) (hc : o.isCells = false) : KA W (W.putObj l o') :=
  ⟨by simp, fun k o2 h1 h2 => by
    by_cases e : k = l
    · subst e; rw [h] at h1; cases h1; rw [hc] at h2; cases h2
    · exact (World.putObj_heap_other e).trans h1⟩
theorem others_below {A B : World} (h : Below A.heap.size A B) : KeepsOthers A B := ⟨h.size, fun k o h1 _ => (h.block k (Array.getElem?_eq_some_iff.1 h1).1).trans h1⟩
/-- How a round may end. -/
def endsOk {α : Type} (N : Nat) (I : List α → World → Prop) (Ix : Code → List α → World → Prop) (xs : List α) (W : World) : Exit → Act → World → Prop
  | .normal, _, W' => KeepsOthers W W' ∧ KC N W W' ∧ I xs W'
  | .ret, _, W' => KeepsOthers W W' ∧ Ix .ret xs W'
  | .exit id, _, W' => KeepsOthers W W' ∧ Ix (.exit id) xs W'
  | _, _, _ => False

variable {P : Program}

theorem rangeIt {α : Type} {g : Operand} {prm : Array Tmp} {assign body : Code} {Q : Exit → Act → World → Prop} {a : Act} {w : World} {n : Nat}
    {gf : Nat} {lb : Array Value} (hg : a.eval g = .func (.func gf) #[] lb) (eg : ∀ args w, (callFunc gf args).run P w = .ok (.enter gf args) w)
    (encs : α → Array Value) (hps : ∀ x, (encs x).size = prm.size) (N len : Nat) (S Sp : List α → Prop)
    (hit : ∀ (l : Nat) (J Jx : List α → World → Prop) (W : World),
      (∀ pre x W, J pre W → pre.length < len → YieldAt Fence.wide (n - 1 - 1) P l (encs x) W fun e W' => (e = .returned (.bool true) ∧ J (pre ++ [x]) W' ∧ KC N W W') ∨ (e = .returned (.bool false) ∧ Jx (pre ++ [x]) W')) →
      (∀ pre W W', J pre W → Below W.heap.size W W' → J pre W') → Below w.heap.size w W → J [] W →
      CallsIn Fence.wide (n - 1) P gf (#[.func (.yield l) #[] #[]] ++ lb) W fun e W' => (∃ v, e = .returned v) ∧ ((∃ xs, S xs ∧ J xs W') ∨ (∃ pre, Sp pre ∧ Jx pre W')))
    (I : List α → World → Prop) (Ix : Code → List α → World → Prop)
    (hI : ∀ pre W W', I pre W → Below W.heap.size W W' → I pre W') (hIp : ∀ pre W l o o', I pre W → w.heap.size ≤ l → W.heap[l]? = some o → o.isCells = false → I pre (W.putObj l o'))
    (hIx : ∀ c pre W l o o', Ix c pre W → w.heap.size ≤ l → W.heap[l]? = some o → o.isCells = false → Ix c pre (W.putObj l o')) (h0 : I [] w)
    (hround : ∀ (l : Nat) (pre : List α) (x : α) (W : World), I pre W → pre.length < len →
      assign.wpIn (Fence.wide.inRound l) (n - 1 - 1) P (Exit.then (fun a₁ W₁ => Below W.heap.size W W₁ ∧ ∀ W₂, KA W₁ W₂ → I pre W₂ → body.wpIn (Fence.wide.inRound l) (n - 1 - 1) P (endsOk N I Ix (pre ++ [x]) W₂) a₁ W₂) (fun _ _ _ => False))
        { tmps := (prm.zip (encs x)).foldl (fun t (p, v) => t.setIfInBounds p v) a.tmps, defers := [] } W)
    (hdone : ∀ (D : Nat) (xs : List α) (W : World), w.heap.size ≤ D → S xs → I xs W → W.heap[D]? = some (.deferred (some [])) → Q .normal { a with defers := { target := .collected D, args := #[] } :: a.defers } W)
    (hstop : ∀ (D : Nat) (c : Code) (pre : List α) (W : World), w.heap.size ≤ D → Sp pre → Ix c pre W → W.heap[D]? = some (.deferred (some [])) → c.wpIn Fence.wide n P Q { a with defers := { target := .collected D, args := #[] } :: a.defers } W) :
    (Code.rangeFunc g prm assign body).wpIn Fence.wide n P Q a w := by
  refine wpIn_rangeFunc fun fn hfn => ?_
  -- the loop's record
  let rc : LoopState → Option Code → Loop := fun st pe => { state := st, pending := pe, fn, tmps := a.tmps, params := prm, assign, body, defers := w.heap.size }
  let W1 := (w.alloc (.deferred (some []))).alloc (.loop (rc .ready none))
  have hb1 : Below w.heap.size w W1 := ((Below.refl _ w).alloc (Nat.le_refl _) _).alloc (by simp) _
  have hl1 : W1.heap[w.heap.size + 1]? = some (.loop (rc .ready none)) := by
    have := World.alloc_heap_new (w.alloc (.deferred (some []))) (.loop (rc .ready none))
    rwa [World.size_alloc] at this
  have hd1 : W1.heap[w.heap.size]? = some (.deferred (some [])) := (Below.heap_alloc _ _ _ (by simp)).trans (World.alloc_heap_new w _)
  refine ⟨w.heap.size + 1, [{ target := .collected w.heap.size, args := #[] }], W1, { target := .fn (.func gf) lb, args := #[.func (.yield (w.heap.size + 1)) #[] #[]] }, W1, gf, #[.func (.yield (w.heap.size + 1)) #[] #[]] ++ lb, W1,
    run_enterLoop_outer _ _ _ _ _, ?_, fun _ _ => trivial, ?_, ?_, ?_⟩
  · simp only [resolve, hg]
    simp [go_sem]
  · simp [invoke, go_sem, eg]
  · intro h; cases h
  refine (hit (w.heap.size + 1) (fun pre W => I pre W ∧ W.heap[w.heap.size + 1]? = some (.loop (rc .ready none)) ∧ W.heap[w.heap.size]? = some (.deferred (some [])) ∧ w.heap.size + 1 < W.heap.size)
    (fun pre W => ∃ c, Ix c pre W ∧ W.heap[w.heap.size + 1]? = some (.loop (rc .done (some c))) ∧ W.heap[w.heap.size]? = some (.deferred (some []))) W1 ?_ ?_ hb1 ⟨hI _ _ _ h0 hb1, hl1, hd1, by simp [W1]⟩).mono ?_
  · -- a round
    rintro pre x W ⟨hi, hl, hd, hlt⟩ hlen
    refine ⟨fn, _, assign, body, run_yield hl (hps x), roundIn_of_wpIn hfn (wpIn_mono (hround (w.heap.size + 1) pre x W hi hlen) ?_)⟩
    intro e a₁ W₁ hp
    cases e with
    | normal =>
      obtain ⟨hB, hbody⟩ := hp
      have hl' := (hB.block _ hlt).trans hl
      have hd' := (hB.block _ (by omega)).trans hd
      have hlt1 : w.heap.size + 1 < W₁.heap.size := (Array.getElem?_eq_some_iff.1 hl').1
      refine ⟨_, run_beginRound hl' rfl, wpIn_mono (hbody _ (KA.putObj _ _ _ _ hl' rfl) (hIp _ _ _ _ _ (hI _ _ _ hi hB) (by omega) hl' rfl)) ?_⟩
      have hl2 : (W₁.putObj (w.heap.size + 1) (.loop { rc .ready none with state := .busy })).heap[w.heap.size + 1]? = some (.loop { rc .ready none with state := .busy }) := World.putObj_heap_same hlt1
      have hd2 : (W₁.putObj (w.heap.size + 1) (.loop { rc .ready none with state := .busy })).heap[w.heap.size]? = some (.deferred (some [])) := (World.putObj_heap_other (by omega)).trans hd'
      have hk2 : KC N W (W₁.putObj (w.heap.size + 1) (.loop { rc .ready none with state := .busy })) := (KC.of_below hB).trans (KC.putObj _ _ _ _ hl' rfl)
      intro e' a₂ W₃ hq
      cases e' with
      | normal =>
        obtain ⟨ho, hk, hi3⟩ := hq
        have hl3 := ho.same _ _ hl2 rfl
        have hlt3 : w.heap.size + 1 < W₃.heap.size := (Array.getElem?_eq_some_iff.1 hl3).1
        exact ⟨_, _, run_endRound none hl3, .inl ⟨rfl, ⟨hIp _ _ _ _ _ hi3 (by omega) hl3 rfl, World.putObj_heap_same hlt3, (World.putObj_heap_other (by omega)).trans (ho.same _ _ hd2 rfl), by simpa using hlt3⟩, (hk2.trans hk).trans (KC.putObj _ _ _ _ hl3 rfl)⟩⟩
      | ret =>
        obtain ⟨ho, hi3⟩ := hq
        have hl3 := ho.same _ _ hl2 rfl
        exact ⟨_, _, run_endRound (some .ret) hl3, .inr ⟨rfl, .ret, hIx _ _ _ _ _ _ hi3 (by omega) hl3 rfl, World.putObj_heap_same (Array.getElem?_eq_some_iff.1 hl3).1, (World.putObj_heap_other (by omega)).trans (ho.same _ _ hd2 rfl)⟩⟩
      | exit id =>
        obtain ⟨ho, hi3⟩ := hq
        have hl3 := ho.same _ _ hl2 rfl
        exact ⟨_, _, run_endRound (some (.exit id)) hl3, .inr ⟨rfl, .exit id, hIx _ _ _ _ _ _ hi3 (by omega) hl3 rfl, World.putObj_heap_same (Array.getElem?_eq_some_iff.1 hl3).1, (World.putObj_heap_other (by omega)).trans (ho.same _ _ hd2 rfl)⟩⟩
      | goto t => exact hq.elim
      | panic ch => exact hq.elim
      | outgrown => exact hq.elim
    | exit id => exact hp.elim
    | goto t => exact hp.elim
    | ret => exact hp.elim
    | panic ch => exact hp.elim
    | outgrown => exact hp.elim
  · rintro pre W W' ⟨hi, hl, hd, hlt⟩ hB
    exact ⟨hI _ _ _ hi hB, (hB.block _ hlt).trans hl, (hB.block _ (by omega)).trans hd, Nat.lt_of_lt_of_le hlt hB.size⟩
  · -- behind the iterator
    rintro e W2 ⟨⟨v, rfl⟩, ⟨xs, hS, hi, hl, hd, _⟩ | ⟨pre, hSp, c, hi, hl, hd⟩⟩
    · exact ⟨none, _, run_endLoop hl (by simp [rc]), hdone _ xs _ (Nat.le_refl _) hS (hIp _ _ _ _ _ hi (by omega) hl rfl) ((World.putObj_heap_other (by omega)).trans hd)⟩
    · exact ⟨some c, _, run_endLoop hl (by simp [rc]), hstop _ c pre _ (Nat.le_refl _) hSp (hIx _ _ _ _ _ _ hi (by omega) hl rfl) ((World.putObj_heap_other (by omega)).trans hd)⟩
end Go.Vm
