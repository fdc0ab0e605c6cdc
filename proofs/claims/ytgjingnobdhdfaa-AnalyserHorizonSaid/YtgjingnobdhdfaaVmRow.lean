/- A law's arguments, read as data; what a law's row asks. -/
import Derived.Test.YtgjingnobdhdfaaVmLim
import Derived.WalkKit
import Derived.ProofKit
import Derived.OpenShut
import Derived.ChangeOld
import Derived.Carry
import Derived.Deep.Slices
set_option linter.unusedVariables false
set_option linter.unusedSimpArgs false
namespace Go.Vm
open Go.ChangeShapes Go.WideShapes Go.ChangeAt Go.RowKit

variable {P : Program} {w : World}

/-- Types of pure data: numbers, bools, strings, slices and structs of such. -/
def tilesB (P : Program) (total : Nat) : Nat → List Field → Bool
  | off, [] => Nat.beq off total
  | off, f :: fs => Nat.beq f.offset off && Nat.ble (off + sz P f.type) total && tilesB P total (off + sz P f.type) fs
def plainB (P : Program) : Nat → TypeId → Bool
  | 0, _ => false
  | n + 1, t => match P.underlying t with
    | some .bool => Nat.beq (sz P t) 1
    | some (.int _) => Nat.beq (sz P t) 1
    | some .string => Nat.beq (sz P t) 1
    | some (.slice e) => Nat.beq (sz P t) 1 && !(Nat.beq (sz P e) 0) && plainB P n e
    | some (.struct fs) => tilesB P (sz P t) 0 fs.toList && fs.toList.all fun f => plainB P n f.type
    | _ => false
/-- Data of a type. -/
def TyD (P : Program) : Nat → TypeId → List D → Prop
  | 0, _, _ => False
  | n + 1, t, ds => match P.underlying t with
    | some .bool => ∃ b, ds = [.bool b]
    | some (.int k) => ∃ i, ds = [.int k i] ∧ (Lit.int k i).wf = true
    | some .string => ∃ s, ds = [.str s] ∧ s.size ≤ maxLen
    | some (.slice e) => ∃ rows, ds = [.list (sz P e) rows] ∧ rows.length ≤ maxLen ∧ ∀ row ∈ rows, TyD P n e row
    | some (.struct fs) => ds.length = sz P t ∧ ∀ f ∈ fs.toList, TyD P n f.type ((ds.drop f.offset).take (sz P f.type))
    | _ => False
theorem TyD.len {n : Nat} {t : TypeId} {ds : List D} (h : TyD P n t ds) (hp : plainB P n t = true) : ds.length = sz P t := by
  cases n with
  | zero => exact h.elim
  | succ n =>
    simp only [TyD] at h
    simp only [plainB] at hp
    split at h
    · rename_i hu
      simp only [hu, Nat.beq_eq] at hp
      obtain ⟨b, rfl⟩ := h; exact hp.symm
    · rename_i hu
      simp only [hu, Nat.beq_eq] at hp
      obtain ⟨i, rfl, _⟩ := h; exact hp.symm
    · rename_i hu
      simp only [hu, Nat.beq_eq] at hp
      obtain ⟨s, rfl, _⟩ := h; exact hp.symm
    · rename_i e hu
      simp only [hu, Bool.and_eq_true, Nat.beq_eq] at hp
      obtain ⟨s, rfl, _⟩ := h; exact hp.1.1.symm
    · exact h.1
    · exact h.elim

def ImW (w : World) : Pl := fun k o => ∃ v, w.cell? (at_ k o) = some v
def Rds (w : World) (ds : List D) (cs : List Value) : Prop := ds.length = cs.length ∧ ∀ (j : Nat) (d : D) (v : Value), ds[j]? = some d → cs[j]? = some v → Rd w (ImW w) d v
theorem Rds.one {d : D} {v : Value} (h : Rd w (ImW w) d v) : Rds w [d] [v] := ⟨rfl, fun j d' v' h1 h2 => by
  cases j with
  | zero => simp at h1 h2; subst h1 h2; exact h
  | succ j => simp at h1⟩
theorem Rds.append {d1 d2 : List D} {c1 c2 : List Value} (h1 : Rds w d1 c1) (h2 : Rds w d2 c2) : Rds w (d1 ++ d2) (c1 ++ c2) := by
  refine ⟨by simp [h1.1, h2.1], fun j d v hd hv => ?_⟩
  by_cases hj : j < d1.length
  · rw [List.getElem?_append_left hj] at hd
    rw [List.getElem?_append_left (by rw [← h1.1]; exact hj)] at hv
    exact h1.2 j d v hd hv
  · rw [List.getElem?_append_right (by omega)] at hd
    rw [List.getElem?_append_right (by rw [← h1.1]; omega), ← h1.1] at hv
    exact h2.2 _ d v hd hv

section
variable {H : Type} {enc : TypeId × Value → H} {base : Nat} {spare : Nat → Bool} {held : Bool}

theorem fields_ty {n total : Nat} {cs : List Value} (hc : cs.length = total) : ∀ (fs : List Field) (off : Nat), tilesB P total off fs = true → (∀ f ∈ fs, ∃ ds, TyD P n f.type ds ∧ Rds w ds ((cs.drop f.offset).take (sz P f.type))) → off ≤ total →
    ∃ ds, Rds w ds (cs.drop off) ∧ ∀ f ∈ fs, off ≤ f.offset ∧ TyD P n f.type ((ds.drop (f.offset - off)).take (sz P f.type))
  | [], off, ht, _, _ => by
    simp only [tilesB, Nat.beq_eq] at ht
    refine ⟨[], ?_, fun f hf => by cases hf⟩
    rw [List.drop_eq_nil_of_le (by omega)]
    exact ⟨rfl, fun j d v h => by simp at h⟩
  | f :: fs, off, ht, hf, ho => by
    simp only [tilesB, Bool.and_eq_true, Nat.beq_eq, Nat.ble_eq] at ht
    obtain ⟨⟨h1, h2⟩, h3⟩ := ht
    obtain ⟨d0, q1, q2⟩ := hf f List.mem_cons_self
    obtain ⟨ds, r1, r2⟩ := fields_ty hc fs (off + sz P f.type) h3 (fun g hg => hf g (List.mem_cons_of_mem _ hg)) h2
    have l0 : d0.length = sz P f.type := by
      rw [q2.1, List.length_take, List.length_drop]; omega
    refine ⟨d0 ++ ds, ?_, fun g hg => ?_⟩
    · have : cs.drop off = (cs.drop f.offset).take (sz P f.type) ++ cs.drop (off + sz P f.type) := by
        rw [h1, ← List.drop_drop]
        exact (List.take_append_drop _ _).symm
      rw [this]
      exact q2.append r1
    · rcases List.mem_cons.1 hg with rfl | hg
      · refine ⟨by omega, ?_⟩
        rw [show g.offset - off = 0 by omega, List.drop_zero, List.take_left' l0]
        exact q1
      · obtain ⟨s1, s2⟩ := r2 g hg
        refine ⟨by omega, ?_⟩
        rw [List.drop_append, show d0.drop (g.offset - off) = [] from List.drop_eq_nil_of_le (by omega), List.nil_append, l0, show g.offset - off - sz P f.type = g.offset - (off + sz P f.type) by omega]
        exact s2

theorem trod_bool {t : TypeId} {fuel : Nat} {cs : List Value} {x : DataW H × List MemPlace} (hu : P.underlying t = some .bool) (h : DataW.trod enc P w base spare held (fuel + 1) t cs = some x) : ∃ b, cs = [.bool b] := by
  unfold DataW.trod at h
  rw [hu] at h
  rcases cs with _ | ⟨v, _ | ⟨u, cs⟩⟩
  · simp at h
  · cases v <;> simp at h
    exact ⟨_, rfl⟩
  · cases v <;> simp at h
theorem trod_int {t : TypeId} {k : IntKind} {fuel : Nat} {cs : List Value} {x : DataW H × List MemPlace} (hu : P.underlying t = some (.int k)) (h : DataW.trod enc P w base spare held (fuel + 1) t cs = some x) : ∃ i, cs = [.int k i] ∧ (Lit.int k i).wf = true := by
  unfold DataW.trod at h
  rw [hu] at h
  rcases cs with _ | ⟨v, _ | ⟨u, cs⟩⟩
  · simp at h
  · cases v <;> simp at h
    obtain ⟨⟨rfl, hw⟩, _⟩ := h
    exact ⟨_, rfl, hw⟩
  · cases v <;> simp at h
theorem trod_str {t : TypeId} {fuel : Nat} {cs : List Value} {x : DataW H × List MemPlace} (hu : P.underlying t = some .string) (h : DataW.trod enc P w base spare held (fuel + 1) t cs = some x) : ∃ s, cs = [.string s] ∧ s.size ≤ maxLen := by
  unfold DataW.trod at h
  rw [hu] at h
  rcases cs with _ | ⟨v, _ | ⟨u, cs⟩⟩
  · simp at h
  · cases v <;> simp at h
    exact ⟨_, rfl, h.1⟩
  · cases v <;> simp at h

theorem trod_ty : ∀ (n : Nat) (t : TypeId) (fuel : Nat) (cs : List Value) (x : DataW H × List MemPlace), plainB P n t = true → DataW.trod enc P w base spare held fuel t cs = some x → ∃ ds, TyD P n t ds ∧ Rds w ds cs := by
  intro n
  induction n with
  | zero => intro t fuel cs x hp; cases hp
  | succ n ih =>
    intro t fuel cs x hp h
    cases fuel with
    | zero => simp [DataW.trod] at h
    | succ fuel =>
      simp only [plainB] at hp
      simp only [TyD]
      split at hp
      · rename_i hu
        try simp only [hu]
        obtain ⟨b, rfl⟩ := trod_bool hu h
        exact ⟨_, ⟨b, rfl⟩, .one (.bool b)⟩
      · rename_i k hu
        try simp only [hu]
        obtain ⟨i, rfl, hw⟩ := trod_int hu h
        exact ⟨_, ⟨i, rfl, hw⟩, .one (.int _ i)⟩
      · rename_i hu
        try simp only [hu]
        obtain ⟨s, rfl, hs⟩ := trod_str hu h
        exact ⟨_, ⟨s, rfl, hs⟩, .one (.str s)⟩
      · rename_i e hu
        simp only [Bool.and_eq_true, Nat.beq_eq, Bool.not_eq_true'] at hp
        obtain ⟨⟨hp1, hp2⟩, hp3⟩ := hp
        have hz : sz P e ≠ 0 := beq_false hp2
        try simp only [hu]
        rcases Go.Deep.open_slice hu h with ⟨rfl, rfl⟩ | ⟨a, len, cap, m, n', Dd, Pl, rfl, hb, hl, hm, hmm, rfl, hx⟩
        · exact ⟨[.list (sz P e) []], ⟨[], rfl, by simp [maxLen], fun r hr => by cases hr⟩, .one (.list _ [] none 0 (fun _ => Go.undef) (Nat.le_refl _) (fun r hr => by cases hr) (fun hne => absurd rfl hne) fun i row hi => by simp at hi)⟩
        · have hle : len ≤ m := by rw [hmm]; split <;> omega
          obtain ⟨row, hrow⟩ := Go.Deep.choose_lt (α := List D) (n := len) (p := fun i ds => TyD P n e ds ∧ ∃ cs', w.cells? base (a.add (i * P.cellsOf e)) (P.cellsOf e) = some cs' ∧ Rds w ds cs') (fun i hi => by
            obtain ⟨cs', h1, h2⟩ := hx i (by omega)
            obtain ⟨ds, h3, h4⟩ := ih e n' cs' _ hp3 h2
            exact ⟨ds, h3, cs', h1, h4⟩)
          have cell : ∀ i, i < len → ∀ j d, (row i)[j]? = some d → ∃ v, w.cell? ((a.add (i * P.cellsOf e)).add j) = some v ∧ Rd w (ImW w) d v ∧ j < sz P e := fun i hi j d hd => by
            obtain ⟨_, cs', h1, h2⟩ := hrow i hi
            obtain ⟨_, h3, h4⟩ := World.cells?_some h1
            have hj : j < (row i).length := (List.getElem?_eq_some_iff.1 hd).1
            rw [h2.1, h3] at hj
            have hv : cs'[j]? = some (cs'[j]'(by omega)) := List.getElem?_eq_getElem (by omega)
            exact ⟨_, (h4 j hj).trans hv, h2.2 j d _ hd hv, hj⟩
          have rlen : ∀ i, i < len → (row i).length = sz P e := fun i hi => by
            obtain ⟨_, cs', h1, h2⟩ := hrow i hi
            exact h2.1.trans (World.cells?_some h1).2.1
          have rows_len : ((List.range len).map row).length = len := by simp
          refine ⟨[.list (sz P e) ((List.range len).map row)], ⟨_, rfl, by rw [rows_len]; omega, fun r hr => ?_⟩, .one ?_⟩
          · obtain ⟨i, hi, rfl⟩ := List.mem_map.1 hr
            exact (hrow i (List.mem_range.1 hi)).1
          · have hspot : 0 < len → a = at_ a.block a.off := fun h0 => by
              have hl0 := rlen 0 h0
              have : (row 0)[0]? = some ((row 0)[0]'(by omega)) := List.getElem?_eq_getElem (by omega)
              obtain ⟨v, hv, _⟩ := cell 0 h0 0 _ this
              simp only [Nat.zero_mul, Addr.add, if_true] at hv
              unfold World.cell? at hv
              split at hv
              · split at hv
                · cases hv
                · rename_i hs
                  cases a
                  simp only [at_] at hs ⊢
                  simp at hs
                  subst hs
                  rfl
              · cases hv
            have := Rd.list (w := w) (Im := ImW w) (sz P e) ((List.range len).map row) (some a) cap (fun j => (w.cell? (at_ a.block (a.off + j))).getD Go.undef) (by rw [rows_len]; exact hl) (fun r hr => by
                obtain ⟨i, hi, rfl⟩ := List.mem_map.1 hr
                exact rlen i (List.mem_range.1 hi)) (fun hne => ?_) (fun i r hi j d hd => ?_)
            · rw [rows_len] at this; exact this
            · have h0 : 0 < len := by
                rcases Nat.eq_zero_or_pos len with h | h
                · subst h; exact absurd rfl hne
                · exact h
              have ha := hspot h0
              refine ⟨a.block, a.off, by rw [← ha], fun j hj => ?_⟩
              rw [rows_len] at hj
              have h1 : j / sz P e < len := (Nat.div_lt_iff_lt_mul (by omega)).2 hj
              have h2 : j % sz P e < sz P e := Nat.mod_lt _ (by omega)
              have hl1 := rlen _ h1
              obtain ⟨v, hv, _⟩ := cell _ h1 (j % sz P e) _ (List.getElem?_eq_getElem (by omega))
              rw [ha, at_add, at_add] at hv
              have : j / sz P e * P.cellsOf e + j % sz P e = j := by
                have := Nat.div_add_mod j (sz P e)
                rw [Nat.mul_comm] at this
                exact this
              rw [Nat.add_assoc, this] at hv
              exact ⟨⟨v, hv⟩, by rw [hv]; rfl⟩
            · rw [List.getElem?_map] at hi
              obtain ⟨i', hi1, rfl⟩ := Option.map_eq_some_iff.1 hi
              have hi' : i < len := by
                have := (List.getElem?_eq_some_iff.1 hi1).1
                simpa using this
              rw [List.getElem?_range hi'] at hi1
              injection hi1 with hi1
              subst hi1
              obtain ⟨v, hv, hr, _⟩ := cell i hi' j d hd
              rw [hspot (by omega), at_add, at_add, Nat.add_assoc] at hv
              rw [show i * sz P e + j = i * P.cellsOf e + j from rfl, hv]
              exact hr
      · rename_i fs hu
        simp only [Bool.and_eq_true, List.all_eq_true] at hp
        obtain ⟨ht, hp⟩ := hp
        unfold DataW.trod at h
        simp only [hu] at h
        try simp only [hu]
        split at h
        · rename_i hl
          obtain ⟨xs, hxs, _⟩ := Option.map_eq_some_iff.1 h
          have hf : ∀ f ∈ fs.toList, ∃ ds, TyD P n f.type ds ∧ Rds w ds ((cs.drop f.offset).take (sz P f.type)) := fun f hf => by
            obtain ⟨i, hi⟩ := List.getElem?_of_mem hf
            have h1 := mapM_some_get hxs i f hi
            have hil : i < xs.length := by
              rw [mapM_some_length hxs]; exact (List.getElem?_eq_some_iff.1 hi).1
            rw [List.getElem?_eq_getElem hil] at h1
            exact ih f.type fuel _ _ (hp f hf) h1
          obtain ⟨ds, q1, q2⟩ := fields_ty (total := sz P t) hl fs.toList 0 ht hf (Nat.zero_le _)
          refine ⟨ds, ⟨by rw [q1.1, List.drop_zero]; exact hl, fun f hf => (q2 f hf).2⟩, by simpa using q1⟩
        · cases h
      · cases hp

def TyAll (P : Program) : List TypeId → List (List D) → Prop
  | [], [] => True
  | t :: ts, a :: as => TyD P 40 t a ∧ TyAll P ts as
  | _, _ => False
theorem val_part {n : Nat} {t : TypeId} {v : Value} {b0 : Nat} (hp : plainB P n t = true) (hv : Value.okWide P w .any b0 t v) : v = partV P t v.cells.toList := by
  cases n with
  | zero => cases hp
  | succ n =>
    simp only [plainB] at hp
    unfold partV isAggT
    split at hp
    · rename_i hu
      simp only [Value.okWide, hu, Cell.okWide, Cell.ok] at hv ⊢
      cases v <;> simp_all [Value.cells]
    · rename_i k hu
      simp only [Value.okWide, hu, Cell.okWide, Cell.ok] at hv ⊢
      cases v <;> simp_all [Value.cells]
    · rename_i hu
      simp only [Value.okWide, hu, Cell.okWide, Cell.ok] at hv ⊢
      cases v <;> simp_all [Value.cells]
    · rename_i e hu
      simp only [Value.okWide, hu, Cell.okWide, Cell.ok] at hv ⊢
      cases v <;> simp_all [Value.cells]
    · rename_i fs hu
      simp only [Value.okWide, hu] at hv ⊢
      obtain ⟨cs, rfl, _⟩ := hv
      simp [Value.cells]
    · cases hp

theorem args_ty {b0 : Nat} : ∀ {ts : List TypeId} {vs : List Value} {ds : List (DataW H)} {p : List MemPlace}, DataW.TrodAll enc P w base spare held ts vs ds p → (∀ (j : Nat) t v, ts[j]? = some t → vs[j]? = some v → Value.okWide P w .any b0 t v) →
    (ts.all fun t => plainB P 40 t && okT P t && (isPtrT P t).isNone) = true → ∃ as : List (List D), TyAll P ts as ∧ ArgsOk P w (ImW w) (as.map .v) ts vs []
  | [], vs, ds, p, h, _, _ => by
    obtain ⟨rfl, rfl, rfl⟩ := trodAll_nil h
    exact ⟨[], trivial, .nil⟩
  | t :: ts, vs, ds, p, h, hv, hp => by
    obtain ⟨v, vs1, d, ds1, a, b, rfl, rfl, rfl, ⟨fuel, h1⟩, h2⟩ := trodAll_cons h
    simp only [List.all_cons, Bool.and_eq_true] at hp
    obtain ⟨⟨⟨hp1, hp2⟩, hp3⟩, hp4⟩ := hp
    obtain ⟨as, q1, q2⟩ := args_ty h2 (fun j t v h1 h2 => hv (j + 1) t v (by simpa using h1) (by simpa using h2)) hp4
    obtain ⟨cs, r1, r2⟩ := trod_ty 40 t fuel _ _ hp1 h1
    have hpart := val_part hp1 (hv 0 t v rfl rfl)
    refine ⟨cs :: as, ⟨r1, q1⟩, ?_⟩
    have hn : isPtrT P t = none := by cases hh : isPtrT P t with
      | none => rfl
      | some e => rw [hh] at hp3; cases hp3
    have h0 : ArgOk P w (ImW w) (.v cs) t v [] := by
      rw [hpart]
      exact .v cs t _ hn hp2 (r1.len hp1) r2.1.symm r2.2
    exact .cons h0 q2 fun k o ⟨g, hg, _⟩ => by cases hg

theorem args_again (hl : laidOutB P = true) {W W' : World} (hb : Below W.heap.size W W') : ∀ {ts : List TypeId} {vs : List Value} {ds : List (DataW H)} {p : List MemPlace}, DataW.TrodAll enc P W 0 (fun _ => true) true ts vs ds p → (ts.all fun t => P.readableRec t && decide (t < P.types.size)) = true →
    DataW.TrodAll enc P W' 0 (fun b => decide (b < W.heap.size)) true ts vs ds p
  | [], vs, ds, p, h, _ => by
    obtain ⟨rfl, rfl, rfl⟩ := trodAll_nil h
    exact h
  | t :: ts, vs, ds, p, h, hp => by
    obtain ⟨v, vs1, d, ds1, a, b, rfl, rfl, rfl, h1, h2⟩ := trodAll_cons h
    simp only [List.all_cons, Bool.and_eq_true, decide_eq_true_eq] at hp
    refine ⟨a, b, Below.trod hl hp.1.1 hp.1.2 h1 hb (fun x hx => ?_), args_again hl hb h2 (by simpa using hp.2), rfl⟩
    obtain ⟨m, hm⟩ := h1
    exact DataW.trod_lt m _ _ _ hm x hx

theorem Keep.below {S : Pl} {w w' : World} (h : Keep S w w') (hS : ∀ k o, ¬ S k o) : Below w.heap.size w w' :=
  ⟨h.os, h.tape, h.output, h.size, fun k hk => by
    rcases h.blk k hk with he | ⟨c, c', ty, fz, he1, he2, he3, he4⟩
    · exact he
    · rw [he1, he2]
      have : c' = c := Array.ext_getElem? fun i => he4 i (hS k i)
      rw [this]⟩

theorem law_call {Hh : FuncId → Hints} {f : FuncId} {fn : Func} {tb : TypeId} {b0 : Nat} (hN : NoNum P) (hm : P.follows .mixedOrders = true) (hf : P.funcs[f]? = some fn) (hts : (fn.params.toList.all fun t => plainB P 40 t && okT P t && (isPtrT P t).isNone) = true)
    (hr : fn.resultTypes = #[tb]) (hb : P.underlying tb = some .bool) (hz : sz P tb = 1) (hrun : ∀ as : List (List D), TyAll P fn.params.toList as → callL P Hh f (as.map .v) = some [.bool true])
    {args : Array Value} {ds : List (DataW H)} {p : List MemPlace} (hval : ∀ (j : Nat) t v, fn.params[j]? = some t → args[j]? = some v → Value.okWide P w .any b0 t v) (hA : DataW.TrodAll enc P w base spare held fn.params.toList args.toList ds p) :
    Calls P f args w fun e w' => e = .returned (.bool true) ∧ Below w.heap.size w w' := by
  obtain ⟨as, h1, h2⟩ := args_ty hA (fun j t v h1 h2 => hval j t v (by simpa using h1) (by simpa using h2)) hts
  have := callL_ok hN hm (hrun as h1) fn hf w (ImW w) args.toList [] h2 (fun k o h => h)
  rw [Array.toArray_toList] at this
  refine this.mono ?_
  rintro e w' ⟨v, rfl, hp⟩
  obtain ⟨Im', vs, bl, ds', qs, rfl, hq, hres, hrefs, _, _, hk, _⟩ := hp.out
  refine ⟨?_, hk.below fun k o ⟨g, hg, _⟩ => by cases hg⟩
  cases hrefs
  rw [List.append_nil] at hq
  subst hq
  rw [hr] at hres
  congr 1
  generalize hj : (0 : Nat) = j at hres
  generalize hd : [D.bool true] = dd at hres
  generalize ht : (#[tb] : Array TypeId).toList = tt at hres
  have ht' : tt = [tb] := ht.symm
  subst ht'
  cases hres with
  | ptr h _ _ _ _ => simp only [isPtrT, hb] at h; cases h
  | @val _ _ _ cs ds2 us vs2 b1 bl2 h hok hl hc hs =>
    cases hs
    rw [List.append_nil] at hd
    subst hd
    cases hc with
    | @cons _ d u b ds3 us3 bl3 h hs =>
      cases hs
      generalize look j (Hh f).fresh = o at h
      cases h with
      | plain _ _ h =>
        cases h
        simp [tupV, partV, isAggT, hb]
end
end Go.Vm
