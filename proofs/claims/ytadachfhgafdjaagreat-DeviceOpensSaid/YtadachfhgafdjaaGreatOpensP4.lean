/- OpensP: part 4 of the texts that the proof of opens_holds needs: an evaluator of the program on data, its soundness, the equations of the functions, the plain laws. Conditions: none. -/
import Derived.Test.YtadachfhgafdjaaGreatOpensP3
import Derived.WalkKit
import Derived.ProofKit
import Derived.OpenShut
import Derived.ChangeOld
import Derived.Carry
import Derived.Deep.Slices
/- A law's arguments, read as data; what a law's row asks. -/
set_option linter.unusedVariables false
set_option linter.unusedSimpArgs false
namespace Go.Vm
open Go.ChangeShapes Go.WideShapes Go.ChangeAt Go.RowKit

variable {P : Program} {w : World}

/-- Types of pure data: numbers, bools, strings, slices and structs of such. -/
def tilesB (P : Program) (total : Nat) : Nat → List Field → Bool
  | off, [] => Nat.beq off total
  | off, f :: fs => Nat.beq f.offset off && Nat.ble (off + sz P f.type) total && tilesB P total (off + sz P f.type) fs
def plainB (P : Program) : Nat → TypeId → Bool
  | 0, _ => false
  | n + 1, t => match P.underlying t with
    | some .bool => Nat.beq (sz P t) 1
    | some (.int _) => Nat.beq (sz P t) 1
    | some .string => Nat.beq (sz P t) 1
    | some (.slice e) => Nat.beq (sz P t) 1 && !(Nat.beq (sz P e) 0) && plainB P n e
    | some (.struct fs) => tilesB P (sz P t) 0 fs.toList && fs.toList.all fun f => plainB P n f.type
    | _ => false
/-- Data of a type. -/
def TyD (P : Program) : Nat → TypeId → List D → Prop
  | 0, _, _ => False
  | n + 1, t, ds => match P.underlying t with
    | some .bool => ∃ b, ds = [.bool b]
    | some (.int k) => ∃ i, ds = [.int k i] ∧ (Lit.int k i).wf = true
    | some .string => ∃ s, ds = [.str s] ∧ s.size ≤ maxLen
    | some (.slice e) => ∃ rows, ds = [.list (sz P e) rows] ∧ rows.length ≤ maxLen ∧ ∀ row ∈ rows, TyD P n e row
    | some (.struct fs) => ds.length = sz P t ∧ ∀ f ∈ fs.toList, TyD P n f.type ((ds.drop f.offset).take (sz P f.type))
    | _ => False
theorem TyD.len {n : Nat} {t : TypeId} {ds : List D} (h : TyD P n t ds) (hp : plainB P n t = true) : ds.length = sz P t := by
  cases n with
  | zero => exact h.elim
  | succ n =>
    simp only [TyD] at h
    simp only [plainB] at hp
    split at h
    · rename_i hu
      simp only [hu, Nat.beq_eq] at hp
      obtain ⟨b, rfl⟩ := h; exact hp.symm
    · rename_i hu
      simp only [hu, Nat.beq_eq] at hp
      obtain ⟨i, rfl, _⟩ := h; exact hp.symm
    · rename_i hu
      simp only [hu, Nat.beq_eq] at hp
      obtain ⟨s, rfl, _⟩ := h; exact hp.symm
    · rename_i e hu
      simp only [hu, Bool.and_eq_true, Nat.beq_eq] at hp
      obtain ⟨s, rfl, _⟩ := h; exact hp.1.1.symm
    · exact h.1
    · exact h.elim

def ImW (w : World) : Pl := fun k o => ∃ v, w.cell? (at_ k o) = some v
def Rds (w : World) (ds : List D) (cs : List Value) : Prop := ds.length = cs.length ∧ ∀ (j : Nat) (d : D) (v : Value), ds[j]? = some d → cs[j]? = some v → Rd w (ImW w) d v
theorem Rds.one {d : D} {v : Value} (h : Rd w (ImW w) d v) : Rds w [d] [v] := ⟨rfl, fun j d' v' h1 h2 => by
  cases j with
  | zero => simp at h1 h2; subst h1 h2; exact h
  | succ j => simp at h1⟩
theorem Rds.append {d1 d2 : List D} {c1 c2 : List Value} (h1 : Rds w d1 c1) (h2 : Rds w d2 c2) : Rds w (d1 ++ d2) (c1 ++ c2) := by
  refine ⟨by simp [h1.1, h2.1], fun j d v hd hv => ?_⟩
  by_cases hj : j < d1.length
  · rw [List.getElem?_append_left hj] at hd
    rw [List.getElem?_append_left (by rw [← h1.1]; exact hj)] at hv
    exact h1.2 j d v hd hv
  · rw [List.getElem?_append_right (by omega)] at hd
    rw [List.getElem?_append_right (by rw [← h1.1]; omega), ← h1.1] at hv
    exact h2.2 _ d v hd hv

section
variable {H : Type} {enc : TypeId × Value → H} {base : Nat} {spare : Nat → Bool} {held : Bool}

theorem fields_ty {n total : Nat} {cs : List Value} (hc : cs.length = total) : ∀ (fs : List Field) (off : Nat), tilesB P total off fs = true → (∀ f ∈ fs, ∃ ds, TyD P n f.type ds ∧ Rds w ds ((cs.drop f.offset).take (sz P f.type))) → off ≤ total →
    ∃ ds, Rds w ds (cs.drop off) ∧ ∀ f ∈ fs, off ≤ f.offset ∧ TyD P n f.type ((ds.drop (f.offset - off)).take (sz P f.type))
  | [], off, ht, _, _ => by
    simp only [tilesB, Nat.beq_eq] at ht
    refine ⟨[], ?_, fun f hf => by cases hf⟩
    rw [List.drop_eq_nil_of_le (by omega)]
    exact ⟨rfl, fun j d v h => by simp at h⟩
  | f :: fs, off, ht, hf, ho => by
    simp only [tilesB, Bool.and_eq_true, Nat.beq_eq, Nat.ble_eq] at ht
    obtain ⟨⟨h1, h2⟩, h3⟩ := ht
    obtain ⟨d0, q1, q2⟩ := hf f List.mem_cons_self
    obtain ⟨ds, r1, r2⟩ := fields_ty hc fs (off + sz P f.type) h3 (fun g hg => hf g (List.mem_cons_of_mem _ hg)) h2
    have l0 : d0.length = sz P f.type := by
      rw [q2.1, List.length_take, List.length_drop]; omega
    refine ⟨d0 ++ ds, ?_, fun g hg => ?_⟩
    · have : cs.drop off = (cs.drop f.offset).take (sz P f.type) ++ cs.drop (off + sz P f.type) := by
        rw [h1, ← List.drop_drop]
        exact (List.take_append_drop _ _).symm
      rw [this]
      exact q2.append r1
    · rcases List.mem_cons.1 hg with rfl | hg
      · refine ⟨by omega, ?_⟩
        rw [show g.offset - off = 0 by omega, List.drop_zero, List.take_left' l0]
        exact q1
      · obtain ⟨s1, s2⟩ := r2 g hg
        refine ⟨by omega, ?_⟩
        rw [List.drop_append, show d0.drop (g.offset - off) = [] from List.drop_eq_nil_of_le (by omega), List.nil_append, l0, show g.offset - off - sz P f.type = g.offset - (off + sz P f.type) by omega]
        exact s2

theorem trod_bool {t : TypeId} {fuel : Nat} {cs : List Value} {x : DataW H × List MemPlace} (hu : P.underlying t = some .bool) (h : DataW.trod enc P w base spare held (fuel + 1) t cs = some x) : ∃ b, cs = [.bool b] := by
  unfold DataW.trod at h
  rw [hu] at h
  rcases cs with _ | ⟨v, _ | ⟨u, cs⟩⟩
  · simp at h
  · cases v <;> simp at h
    exact ⟨_, rfl⟩
  · cases v <;> simp at h
theorem trod_int {t : TypeId} {k : IntKind} {fuel : Nat} {cs : List Value} {x : DataW H × List MemPlace} (hu : P.underlying t = some (.int k)) (h : DataW.trod enc P w base spare held (fuel + 1) t cs = some x) : ∃ i, cs = [.int k i] ∧ (Lit.int k i).wf = true := by
  unfold DataW.trod at h
  rw [hu] at h
  rcases cs with _ | ⟨v, _ | ⟨u, cs⟩⟩
  · simp at h
  · cases v <;> simp at h
    obtain ⟨⟨rfl, hw⟩, _⟩ := h
    exact ⟨_, rfl, hw⟩
  · cases v <;> simp at h
theorem trod_str {t : TypeId} {fuel : Nat} {cs : List Value} {x : DataW H × List MemPlace} (hu : P.underlying t = some .string) (h : DataW.trod enc P w base spare held (fuel + 1) t cs = some x) : ∃ s, cs = [.string s] ∧ s.size ≤ maxLen := by
  unfold DataW.trod at h
  rw [hu] at h
  rcases cs with _ | ⟨v, _ | ⟨u, cs⟩⟩
  · simp at h
  · cases v <;> simp at h
    exact ⟨_, rfl, h.1⟩
  · cases v <;> simp at h

theorem trod_ty : ∀ (n : Nat) (t : TypeId) (fuel : Nat) (cs : List Value) (x : DataW H × List MemPlace), plainB P n t = true → DataW.trod enc P w base spare held fuel t cs = some x → ∃ ds, TyD P n t ds ∧ Rds w ds cs := by
  intro n
  induction n with
  | zero => intro t fuel cs x hp; cases hp
  | succ n ih =>
    intro t fuel cs x hp h
    cases fuel with
    | zero => simp [DataW.trod] at h
    | succ fuel =>
      simp only [plainB] at hp
      simp only [TyD]
      split at hp
      · rename_i hu
        try simp only [hu]
        obtain ⟨b, rfl⟩ := trod_bool hu h
        exact ⟨_, ⟨b, rfl⟩, .one (.bool b)⟩
      · rename_i k hu
        try simp only [hu]
        obtain ⟨i, rfl, hw⟩ := trod_int hu h
        exact ⟨_, ⟨i, rfl, hw⟩, .one (.int _ i)⟩
      · rename_i hu
        try simp only [hu]
        obtain ⟨s, rfl, hs⟩ := trod_str hu h
        exact ⟨_, ⟨s, rfl, hs⟩, .one (.str s)⟩
      · rename_i e hu
        simp only [Bool.and_eq_true, Nat.beq_eq, Bool.not_eq_true'] at hp
        obtain ⟨⟨hp1, hp2⟩, hp3⟩ := hp
        have hz : sz P e ≠ 0 := beq_false hp2
        try simp only [hu]
        rcases Go.Deep.open_slice hu h with ⟨rfl, rfl⟩ | ⟨a, len, cap, m, n', Dd, Pl, rfl, hb, hl, hm, hmm, rfl, hx⟩
        · exact ⟨[.list (sz P e) []], ⟨[], rfl, by simp [maxLen], fun r hr => by cases hr⟩, .one (.list _ [] none 0 (fun _ => Go.undef) (Nat.le_refl _) (fun r hr => by cases hr) (fun hne => absurd rfl hne) fun i row hi => by simp at hi)⟩
        · have hle : len ≤ m := by rw [hmm]; split <;> omega
          obtain ⟨row, hrow⟩ := Go.Deep.choose_lt (α := List D) (n := len) (p := fun i ds => TyD P n e ds ∧ ∃ cs', w.cells? base (a.add (i * P.cellsOf e)) (P.cellsOf e) = some cs' ∧ Rds w ds cs') (fun i hi => by
            obtain ⟨cs', h1, h2⟩ := hx i (by omega)
            obtain ⟨ds, h3, h4⟩ := ih e n' cs' _ hp3 h2
            exact ⟨ds, h3, cs', h1, h4⟩)
          have cell : ∀ i, i < len → ∀ j d, (row i)[j]? = some d → ∃ v, w.cell? ((a.add (i * P.cellsOf e)).add j) = some v ∧ Rd w (ImW w) d v ∧ j < sz P e := fun i hi j d hd => by
            obtain ⟨_, cs', h1, h2⟩ := hrow i hi
            obtain ⟨_, h3, h4⟩ := World.cells?_some h1
            have hj : j < (row i).length := (List.getElem?_eq_some_iff.1 hd).1
            rw [h2.1, h3] at hj
            have hv : cs'[j]? = some (cs'[j]'(by omega)) := List.getElem?_eq_getElem (by omega)
            exact ⟨_, (h4 j hj).trans hv, h2.2 j d _ hd hv, hj⟩
          have rlen : ∀ i, i < len → (row i).length = sz P e := fun i hi => by
            obtain ⟨_, cs', h1, h2⟩ := hrow i hi
            exact h2.1.trans (World.cells?_some h1).2.1
          have rows_len : ((List.range len).map row).length = len := by simp
          refine ⟨[.list (sz P e) ((List.range len).map row)], ⟨_, rfl, by rw [rows_len]; omega, fun r hr => ?_⟩, .one ?_⟩
          · obtain ⟨i, hi, rfl⟩ := List.mem_map.1 hr
            exact (hrow i (List.mem_range.1 hi)).1
          · have hspot : 0 < len → a = at_ a.block a.off := fun h0 => by
              have hl0 := rlen 0 h0
              have : (row 0)[0]? = some ((row 0)[0]'(by omega)) := List.getElem?_eq_getElem (by omega)
              obtain ⟨v, hv, _⟩ := cell 0 h0 0 _ this
              simp only [Nat.zero_mul, Addr.add, if_true] at hv
              unfold World.cell? at hv
              split at hv
              · split at hv
                · cases hv
                · rename_i hs
                  cases a
                  simp only [at_] at hs ⊢
                  simp at hs
                  subst hs
                  rfl
              · cases hv
            have := Rd.list (w := w) (Im := ImW w) (sz P e) ((List.range len).map row) (some a) cap (fun j => (w.cell? (at_ a.block (a.off + j))).getD Go.undef) (by rw [rows_len]; exact hl) (fun r hr => by
                obtain ⟨i, hi, rfl⟩ := List.mem_map.1 hr
                exact rlen i (List.mem_range.1 hi)) (fun hne => ?_) (fun i r hi j d hd => ?_)
            · rw [rows_len] at this; exact this
            · have h0 : 0 < len := by
                rcases Nat.eq_zero_or_pos len with h | h
                · subst h; exact absurd rfl hne
                · exact h
              have ha := hspot h0
              refine ⟨a.block, a.off, by rw [← ha], fun j hj => ?_⟩
              rw [rows_len] at hj
              have h1 : j / sz P e < len := (Nat.div_lt_iff_lt_mul (by omega)).2 hj
              have h2 : j % sz P e < sz P e := Nat.mod_lt _ (by omega)
              have hl1 := rlen _ h1
              obtain ⟨v, hv, _⟩ := cell _ h1 (j % sz P e) _ (List.getElem?_eq_getElem (by omega))
              rw [ha, at_add, at_add] at hv
              have : j / sz P e * P.cellsOf e + j % sz P e = j := by
                have := Nat.div_add_mod j (sz P e)
                rw [Nat.mul_comm] at this
                exact this
              rw [Nat.add_assoc, this] at hv
              exact ⟨⟨v, hv⟩, by rw [hv]; rfl⟩
            · rw [List.getElem?_map] at hi
              obtain ⟨i', hi1, rfl⟩ := Option.map_eq_some_iff.1 hi
              have hi' : i < len := by
                have := (List.getElem?_eq_some_iff.1 hi1).1
                simpa using this
              rw [List.getElem?_range hi'] at hi1
              injection hi1 with hi1
              subst hi1
              obtain ⟨v, hv, hr, _⟩ := cell i hi' j d hd
              rw [hspot (by omega), at_add, at_add, Nat.add_assoc] at hv
              rw [show i * sz P e + j = i * P.cellsOf e + j from rfl, hv]
              exact hr
      · rename_i fs hu
        simp only [Bool.and_eq_true, List.all_eq_true] at hp
        obtain ⟨ht, hp⟩ := hp
        unfold DataW.trod at h
        simp only [hu] at h
        try simp only [hu]
        split at h
        · rename_i hl
          obtain ⟨xs, hxs, _⟩ := Option.map_eq_some_iff.1 h
          have hf : ∀ f ∈ fs.toList, ∃ ds, TyD P n f.type ds ∧ Rds w ds ((cs.drop f.offset).take (sz P f.type)) := fun f hf => by
            obtain ⟨i, hi⟩ := List.getElem?_of_mem hf
            have h1 := mapM_some_get hxs i f hi
            have hil : i < xs.length := by
              rw [mapM_some_length hxs]; exact (List.getElem?_eq_some_iff.1 hi).1
            rw [List.getElem?_eq_getElem hil] at h1
            exact ih f.type fuel _ _ (hp f hf) h1
          obtain ⟨ds, q1, q2⟩ := fields_ty (total := sz P t) hl fs.toList 0 ht hf (Nat.zero_le _)
          refine ⟨ds, ⟨by rw [q1.1, List.drop_zero]; exact hl, fun f hf => (q2 f hf).2⟩, by simpa using q1⟩
        · cases h
      · cases hp

def TyAll (P : Program) : List TypeId → List (List D) → Prop
  | [], [] => True
  | t :: ts, a :: as => TyD P 40 t a ∧ TyAll P ts as
  | _, _ => False
theorem val_part {n : Nat} {t : TypeId} {v : Value} {b0 : Nat} (hp : plainB P n t = true) (hv : Value.okWide P w .any b0 t v) : v = partV P t v.cells.toList := by
  cases n with
  | zero => cases hp
  | succ n =>
    simp only [plainB] at hp
    unfold partV isAggT
    split at hp
    · rename_i hu
      simp only [Value.okWide, hu, Cell.okWide, Cell.ok] at hv ⊢
      cases v <;> simp_all [Value.cells]
    · rename_i k hu
      simp only [Value.okWide, hu, Cell.okWide, Cell.ok] at hv ⊢
      cases v <;> simp_all [Value.cells]
    · rename_i hu
      simp only [Value.okWide, hu, Cell.okWide, Cell.ok] at hv ⊢
      cases v <;> simp_all [Value.cells]
    · rename_i e hu
      simp only [Value.okWide, hu, Cell.okWide, Cell.ok] at hv ⊢
      cases v <;> simp_all [Value.cells]
    · rename_i fs hu
      simp only [Value.okWide, hu] at hv ⊢
      obtain ⟨cs, rfl, _⟩ := hv
      simp [Value.cells]
    · cases hp

theorem args_ty {b0 : Nat} : ∀ {ts : List TypeId} {vs : List Value} {ds : List (DataW H)} {p : List MemPlace}, DataW.TrodAll enc P w base spare held ts vs ds p → (∀ (j : Nat) t v, ts[j]? = some t → vs[j]? = some v → Value.okWide P w .any b0 t v) →
    (ts.all fun t => plainB P 40 t && okT P t && (isPtrT P t).isNone) = true → ∃ as : List (List D), TyAll P ts as ∧ ArgsOk P w (ImW w) (as.map .v) (ts.map .v) vs []
  | [], vs, ds, p, h, _, _ => by
    obtain ⟨rfl, rfl, rfl⟩ := trodAll_nil h
    exact ⟨[], trivial, .nil⟩
  | t :: ts, vs, ds, p, h, hv, hp => by
    obtain ⟨v, vs1, d, ds1, a, b, rfl, rfl, rfl, ⟨fuel, h1⟩, h2⟩ := trodAll_cons h
    simp only [List.all_cons, Bool.and_eq_true] at hp
    obtain ⟨⟨⟨hp1, hp2⟩, hp3⟩, hp4⟩ := hp
    obtain ⟨as, q1, q2⟩ := args_ty h2 (fun j t v h1 h2 => hv (j + 1) t v (by simpa using h1) (by simpa using h2)) hp4
    obtain ⟨cs, r1, r2⟩ := trod_ty 40 t fuel _ _ hp1 h1
    have hpart := val_part hp1 (hv 0 t v rfl rfl)
    refine ⟨cs :: as, ⟨r1, q1⟩, ?_⟩
    have hn : isPtrT P t = none := by cases hh : isPtrT P t with
      | none => rfl
      | some e => rw [hh] at hp3; cases hp3
    have h0 : ArgOk P w (ImW w) (.v cs) (.v t) v [] := by
      rw [hpart]
      exact .v cs t _ hp2 (r1.len hp1) r2.1.symm r2.2
    exact .cons h0 q2 fun k o ⟨g, hg, _⟩ => by cases hg

theorem args_again (hl : laidOutB P = true) {W W' : World} (hb : Below W.heap.size W W') : ∀ {ts : List TypeId} {vs : List Value} {ds : List (DataW H)} {p : List MemPlace}, DataW.TrodAll enc P W 0 (fun _ => true) true ts vs ds p → (ts.all fun t => P.readableRec t && decide (t < P.types.size)) = true →
    DataW.TrodAll enc P W' 0 (fun b => decide (b < W.heap.size)) true ts vs ds p
  | [], vs, ds, p, h, _ => by
    obtain ⟨rfl, rfl, rfl⟩ := trodAll_nil h
    exact h
  | t :: ts, vs, ds, p, h, hp => by
    obtain ⟨v, vs1, d, ds1, a, b, rfl, rfl, rfl, h1, h2⟩ := trodAll_cons h
    simp only [List.all_cons, Bool.and_eq_true, decide_eq_true_eq] at hp
    refine ⟨a, b, Below.trod hl hp.1.1 hp.1.2 h1 hb (fun x hx => ?_), args_again hl hb h2 (by simpa using hp.2), rfl⟩
    obtain ⟨m, hm⟩ := h1
    exact DataW.trod_lt m _ _ _ hm x hx

theorem Keep.below {S : Pl} {w w' : World} (h : Keep S w w') (hS : ∀ k o, ¬ S k o) : Below w.heap.size w w' :=
  ⟨h.os, h.tape, h.output, h.size, fun k hk => by
    rcases h.blk k hk with he | ⟨c, c', ty, fz, he1, he2, he3, he4⟩
    · exact he
    · rw [he1, he2]
      have : c' = c := Array.ext_getElem? fun i => he4 i (hS k i)
      rw [this]⟩

theorem law_call {Hh : FuncId → Hints} (hO : OrcsOk P Hh) {f : FuncId} {fn : Func} {tb : TypeId} {b0 : Nat} (hN : NoNum P) (hm : P.follows .mixedOrders = true) (hf : P.funcs[f]? = some fn) (hH : baseOf Hh f = f ∧ kindsOf P Hh f fn = fn.params.toList.map .v ∧ nreal Hh f fn = fn.params.size) (hts : (fn.params.toList.all fun t => plainB P 40 t && okT P t && (isPtrT P t).isNone) = true)
    (hr : fn.resultTypes = #[tb]) (hb : P.underlying tb = some .bool) (hz : sz P tb = 1) (hrun : ∀ as : List (List D), TyAll P fn.params.toList as → callL P Hh f (as.map .v) = some [.bool true])
    {args : Array Value} {ds : List (DataW H)} {p : List MemPlace} (hval : ∀ (j : Nat) t v, fn.params[j]? = some t → args[j]? = some v → Value.okWide P w .any b0 t v) (hA : DataW.TrodAll enc P w base spare held fn.params.toList args.toList ds p) :
    Calls P f args w fun e w' => e = .returned (.bool true) ∧ Below w.heap.size w w' := by
  obtain ⟨as, h1, h2⟩ := args_ty hA (fun j t v h1 h2 => hval j t v (by simpa using h1) (by simpa using h2)) hts
  obtain ⟨hH1, hH2, hH3⟩ := hH
  have h2' : ArgsOk P w (ImW w) (as.map .v) (kindsOf P Hh f fn) args.toList [] := by rw [hH2]; exact h2
  have hlen : args.toList.length = fn.params.size := by
    have := (args_get h2').2.1
    rw [hH2] at this
    simpa using this
  have hF : FnsOk (kindsOf P Hh f fn) args.toList := fun i g b ix hi => by
    rw [hH2, List.getElem?_map] at hi
    obtain ⟨t, _, he⟩ := Option.map_eq_some_iff.1 hi
    cases he
  have := callL_ok hO hN hm (hrun as h1) fn (by rw [hH1]; exact hf) w (ImW w) args.toList [] h2' hF (fun k o h => h)
  rw [hH1, hH3, List.take_of_length_le (by omega), Array.toArray_toList] at this
  refine this.mono ?_
  rintro e w' ⟨v, rfl, hp⟩
  obtain ⟨Im', vs, bl, ds', qs, rfl, hq, hres, hrefs, _, _, hk, _⟩ := hp.out
  refine ⟨?_, hk.below fun k o ⟨g, hg, _⟩ => by cases hg⟩
  cases hrefs
  rw [List.append_nil] at hq
  subst hq
  rw [hr] at hres
  congr 1
  generalize hj : (0 : Nat) = j at hres
  generalize hd : [D.bool true] = dd at hres
  generalize ht : (#[tb] : Array TypeId).toList = tt at hres
  have ht' : tt = [tb] := ht.symm
  subst ht'
  cases hres with
  | ptr h _ _ _ _ => simp only [isPtrT, hb] at h; cases h
  | @val _ _ _ cs ds2 us vs2 b1 bl2 h hok hl hc hs =>
    cases hs
    rw [List.append_nil] at hd
    subst hd
    cases hc with
    | @cons _ d u b ds3 us3 bl3 h hs =>
      cases hs
      generalize look j (Hh f).fresh = o at h
      cases h with
      | plain _ _ h =>
        cases h
        simp [tupV, partV, isAggT, hb]
end
end Go.Vm

set_option linter.unusedVariables false
set_option linter.unusedSimpArgs false
namespace Go.Vm
def sub (r : List D) : Nat → Nat → List D
  | _, 0 => []
  | k, n + 1 => r.getD k .bad :: sub r (k + 1) n
section
variable {α : Type}
def gB (r : List D) (K : Bool → Option α) : Option α := tB r fun x r => tE r (K x)
def gI (k : IntKind) (r : List D) (K : Int → Option α) : Option α := tI k r fun x r => tE r (K x)
def gS (r : List D) (K : ByteArray → Option α) : Option α := tS r fun x r => tE r (K x)
def gL (e : Nat) (r : List D) (K : List (List D) → Option α) : Option α := tL e r fun x r => tE r (K x)
def gA (r : List D) (K : D → Option α) : Option α := tA r fun x r => tE r (K x)
@[simp] theorem gB_e (b : Bool) (K : Bool → Option α) : gB [.bool b] K = K b := rfl
@[simp] theorem gI_e (k : IntKind) (n : Int) (K : Int → Option α) : gI k [.int k n] K = K n := by simp [gI, tI, tE]
@[simp] theorem gS_e (s : ByteArray) (K : ByteArray → Option α) : gS [.str s] K = K s := rfl
@[simp] theorem gL_e (e : Nat) (l : List (List D)) (K : List (List D) → Option α) : gL e [.list e l] K = K l := by simp [gL, tL, tE]
@[simp] theorem gA_e (d : D) (K : D → Option α) : gA [d] K = K d := rfl
end
structure Y.Made_Dice where
  L : List (List D)
def Y.Made_Dice.enc (x : Y.Made_Dice) : List D := [.list 1 x.L]
def Y.Made_Dice.take {α : Type} (r : List D) (K : Y.Made_Dice → List D → Option α) : Option α := tL 1 r fun x0 r => K ⟨x0⟩ r
def Y.Made_Dice.get {α : Type} (r : List D) (K : Y.Made_Dice → Option α) : Option α := Y.Made_Dice.take r fun x r => tE r (K x)
@[simp] theorem Y.Made_Dice.get_enc {α : Type} (x : Y.Made_Dice) (K : Y.Made_Dice → Option α) : Y.Made_Dice.get x.enc K = K x := rfl
@[simp] theorem Y.Made_Dice.sub_enc (x : Y.Made_Dice) : sub x.enc 0 1 = x.enc := rfl
@[simp] theorem Y.Made_Dice.take_enc {α : Type} (x : Y.Made_Dice) (r : List D) (K : Y.Made_Dice → List D → Option α) : Y.Made_Dice.take (x.enc ++ r) K = K x r := rfl
@[simp] theorem Y.Made_Dice.take_enc' {α : Type} (x : Y.Made_Dice) (K : Y.Made_Dice → List D → Option α) : Y.Made_Dice.take x.enc K = K x [] := rfl
structure Y.Span where
  Lo : Int
  Hi : Int
def Y.Span.enc (x : Y.Span) : List D := [.int .i64 x.Lo, .int .i64 x.Hi]
def Y.Span.take {α : Type} (r : List D) (K : Y.Span → List D → Option α) : Option α := tI .i64 r fun x0 r => tI .i64 r fun x1 r => K ⟨x0, x1⟩ r
def Y.Span.get {α : Type} (r : List D) (K : Y.Span → Option α) : Option α := Y.Span.take r fun x r => tE r (K x)
@[simp] theorem Y.Span.get_enc {α : Type} (x : Y.Span) (K : Y.Span → Option α) : Y.Span.get x.enc K = K x := rfl
@[simp] theorem Y.Span.sub_enc (x : Y.Span) : sub x.enc 0 2 = x.enc := rfl
@[simp] theorem Y.Span.take_enc {α : Type} (x : Y.Span) (r : List D) (K : Y.Span → List D → Option α) : Y.Span.take (x.enc ++ r) K = K x r := rfl
@[simp] theorem Y.Span.take_enc' {α : Type} (x : Y.Span) (K : Y.Span → List D → Option α) : Y.Span.take x.enc K = K x [] := rfl
structure Y.IntSet where
  Spans : List (List D)
def Y.IntSet.enc (x : Y.IntSet) : List D := [.list 2 x.Spans]
def Y.IntSet.take {α : Type} (r : List D) (K : Y.IntSet → List D → Option α) : Option α := tL 2 r fun x0 r => K ⟨x0⟩ r
def Y.IntSet.get {α : Type} (r : List D) (K : Y.IntSet → Option α) : Option α := Y.IntSet.take r fun x r => tE r (K x)
@[simp] theorem Y.IntSet.get_enc {α : Type} (x : Y.IntSet) (K : Y.IntSet → Option α) : Y.IntSet.get x.enc K = K x := rfl
@[simp] theorem Y.IntSet.sub_enc (x : Y.IntSet) : sub x.enc 0 1 = x.enc := rfl
@[simp] theorem Y.IntSet.take_enc {α : Type} (x : Y.IntSet) (r : List D) (K : Y.IntSet → List D → Option α) : Y.IntSet.take (x.enc ++ r) K = K x r := rfl
@[simp] theorem Y.IntSet.take_enc' {α : Type} (x : Y.IntSet) (K : Y.IntSet → List D → Option α) : Y.IntSet.take x.enc K = K x [] := rfl
structure Y.Box where
  Kinds : Int
  Rates : Y.IntSet
  Maps : List (List D)
  Sizes : Y.IntSet
def Y.Box.enc (x : Y.Box) : List D := [.int .i64 x.Kinds, .list 2 x.Rates.Spans, .list 1 x.Maps, .list 2 x.Sizes.Spans]
def Y.Box.take {α : Type} (r : List D) (K : Y.Box → List D → Option α) : Option α := tI .i64 r fun x0 r => Y.IntSet.take r fun x1 r => tL 1 r fun x2 r => Y.IntSet.take r fun x3 r => K ⟨x0, x1, x2, x3⟩ r
def Y.Box.get {α : Type} (r : List D) (K : Y.Box → Option α) : Option α := Y.Box.take r fun x r => tE r (K x)
@[simp] theorem Y.Box.get_enc {α : Type} (x : Y.Box) (K : Y.Box → Option α) : Y.Box.get x.enc K = K x := rfl
@[simp] theorem Y.Box.sub_enc (x : Y.Box) : sub x.enc 0 4 = x.enc := rfl
@[simp] theorem Y.Box.take_enc {α : Type} (x : Y.Box) (r : List D) (K : Y.Box → List D → Option α) : Y.Box.take (x.enc ++ r) K = K x r := rfl
@[simp] theorem Y.Box.take_enc' {α : Type} (x : Y.Box) (K : Y.Box → List D → Option α) : Y.Box.take x.enc K = K x [] := rfl
structure Y.Descriptor where
  ID : Int
  Name : ByteArray
  Direction : Int
  Domain : Int
  Latency : Int
  Drift : Int
  Jitter : Int
  Boxes : List (List D)
def Y.Descriptor.enc (x : Y.Descriptor) : List D := [.int .u64 x.ID, .str x.Name, .int .i64 x.Direction, .int .i64 x.Domain, .int .i64 x.Latency, .int .i64 x.Drift, .int .i64 x.Jitter, .list 4 x.Boxes]
def Y.Descriptor.take {α : Type} (r : List D) (K : Y.Descriptor → List D → Option α) : Option α := tI .u64 r fun x0 r => tS r fun x1 r => tI .i64 r fun x2 r => tI .i64 r fun x3 r => tI .i64 r fun x4 r => tI .i64 r fun x5 r => tI .i64 r fun x6 r => tL 4 r fun x7 r => K ⟨x0, x1, x2, x3, x4, x5, x6, x7⟩ r
def Y.Descriptor.get {α : Type} (r : List D) (K : Y.Descriptor → Option α) : Option α := Y.Descriptor.take r fun x r => tE r (K x)
@[simp] theorem Y.Descriptor.get_enc {α : Type} (x : Y.Descriptor) (K : Y.Descriptor → Option α) : Y.Descriptor.get x.enc K = K x := rfl
@[simp] theorem Y.Descriptor.sub_enc (x : Y.Descriptor) : sub x.enc 0 8 = x.enc := rfl
@[simp] theorem Y.Descriptor.take_enc {α : Type} (x : Y.Descriptor) (r : List D) (K : Y.Descriptor → List D → Option α) : Y.Descriptor.take (x.enc ++ r) K = K x r := rfl
@[simp] theorem Y.Descriptor.take_enc' {α : Type} (x : Y.Descriptor) (K : Y.Descriptor → List D → Option α) : Y.Descriptor.take x.enc K = K x [] := rfl
structure Y.Format where
  Kind : Int
  Rate : Int
  Map : List (List D)
def Y.Format.enc (x : Y.Format) : List D := [.int .i64 x.Kind, .int .i64 x.Rate, .list 1 x.Map]
def Y.Format.take {α : Type} (r : List D) (K : Y.Format → List D → Option α) : Option α := tI .i64 r fun x0 r => tI .i64 r fun x1 r => tL 1 r fun x2 r => K ⟨x0, x1, x2⟩ r
def Y.Format.get {α : Type} (r : List D) (K : Y.Format → Option α) : Option α := Y.Format.take r fun x r => tE r (K x)
@[simp] theorem Y.Format.get_enc {α : Type} (x : Y.Format) (K : Y.Format → Option α) : Y.Format.get x.enc K = K x := rfl
@[simp] theorem Y.Format.sub_enc (x : Y.Format) : sub x.enc 0 3 = x.enc := rfl
@[simp] theorem Y.Format.take_enc {α : Type} (x : Y.Format) (r : List D) (K : Y.Format → List D → Option α) : Y.Format.take (x.enc ++ r) K = K x r := rfl
@[simp] theorem Y.Format.take_enc' {α : Type} (x : Y.Format) (K : Y.Format → List D → Option α) : Y.Format.take x.enc K = K x [] := rfl
structure Y.Choice where
  Format : Y.Format
  Size : Int
def Y.Choice.enc (x : Y.Choice) : List D := [.int .i64 x.Format.Kind, .int .i64 x.Format.Rate, .list 1 x.Format.Map, .int .i64 x.Size]
def Y.Choice.take {α : Type} (r : List D) (K : Y.Choice → List D → Option α) : Option α := Y.Format.take r fun x0 r => tI .i64 r fun x1 r => K ⟨x0, x1⟩ r
def Y.Choice.get {α : Type} (r : List D) (K : Y.Choice → Option α) : Option α := Y.Choice.take r fun x r => tE r (K x)
@[simp] theorem Y.Choice.get_enc {α : Type} (x : Y.Choice) (K : Y.Choice → Option α) : Y.Choice.get x.enc K = K x := rfl
@[simp] theorem Y.Choice.sub_enc (x : Y.Choice) : sub x.enc 0 4 = x.enc := rfl
@[simp] theorem Y.Choice.take_enc {α : Type} (x : Y.Choice) (r : List D) (K : Y.Choice → List D → Option α) : Y.Choice.take (x.enc ++ r) K = K x r := rfl
@[simp] theorem Y.Choice.take_enc' {α : Type} (x : Y.Choice) (K : Y.Choice → List D → Option α) : Y.Choice.take x.enc K = K x [] := rfl
structure Y.Ratio where
  Num : Int
  Den : Int
def Y.Ratio.enc (x : Y.Ratio) : List D := [.int .i64 x.Num, .int .i64 x.Den]
def Y.Ratio.take {α : Type} (r : List D) (K : Y.Ratio → List D → Option α) : Option α := tI .i64 r fun x0 r => tI .i64 r fun x1 r => K ⟨x0, x1⟩ r
def Y.Ratio.get {α : Type} (r : List D) (K : Y.Ratio → Option α) : Option α := Y.Ratio.take r fun x r => tE r (K x)
@[simp] theorem Y.Ratio.get_enc {α : Type} (x : Y.Ratio) (K : Y.Ratio → Option α) : Y.Ratio.get x.enc K = K x := rfl
@[simp] theorem Y.Ratio.sub_enc (x : Y.Ratio) : sub x.enc 0 2 = x.enc := rfl
@[simp] theorem Y.Ratio.take_enc {α : Type} (x : Y.Ratio) (r : List D) (K : Y.Ratio → List D → Option α) : Y.Ratio.take (x.enc ++ r) K = K x r := rfl
@[simp] theorem Y.Ratio.take_enc' {α : Type} (x : Y.Ratio) (K : Y.Ratio → List D → Option α) : Y.Ratio.take x.enc K = K x [] := rfl
structure Y.Segment where
  From : Int
  Rate : Y.Ratio
def Y.Segment.enc (x : Y.Segment) : List D := [.int .i64 x.From, .int .i64 x.Rate.Num, .int .i64 x.Rate.Den]
def Y.Segment.take {α : Type} (r : List D) (K : Y.Segment → List D → Option α) : Option α := tI .i64 r fun x0 r => Y.Ratio.take r fun x1 r => K ⟨x0, x1⟩ r
def Y.Segment.get {α : Type} (r : List D) (K : Y.Segment → Option α) : Option α := Y.Segment.take r fun x r => tE r (K x)
@[simp] theorem Y.Segment.get_enc {α : Type} (x : Y.Segment) (K : Y.Segment → Option α) : Y.Segment.get x.enc K = K x := rfl
@[simp] theorem Y.Segment.sub_enc (x : Y.Segment) : sub x.enc 0 3 = x.enc := rfl
@[simp] theorem Y.Segment.take_enc {α : Type} (x : Y.Segment) (r : List D) (K : Y.Segment → List D → Option α) : Y.Segment.take (x.enc ++ r) K = K x r := rfl
@[simp] theorem Y.Segment.take_enc' {α : Type} (x : Y.Segment) (K : Y.Segment → List D → Option α) : Y.Segment.take x.enc K = K x [] := rfl
structure Y.Clock where
  Segments : List (List D)
def Y.Clock.enc (x : Y.Clock) : List D := [.list 3 x.Segments]
def Y.Clock.take {α : Type} (r : List D) (K : Y.Clock → List D → Option α) : Option α := tL 3 r fun x0 r => K ⟨x0⟩ r
def Y.Clock.get {α : Type} (r : List D) (K : Y.Clock → Option α) : Option α := Y.Clock.take r fun x r => tE r (K x)
@[simp] theorem Y.Clock.get_enc {α : Type} (x : Y.Clock) (K : Y.Clock → Option α) : Y.Clock.get x.enc K = K x := rfl
@[simp] theorem Y.Clock.sub_enc (x : Y.Clock) : sub x.enc 0 1 = x.enc := rfl
@[simp] theorem Y.Clock.take_enc {α : Type} (x : Y.Clock) (r : List D) (K : Y.Clock → List D → Option α) : Y.Clock.take (x.enc ++ r) K = K x r := rfl
@[simp] theorem Y.Clock.take_enc' {α : Type} (x : Y.Clock) (K : Y.Clock → List D → Option α) : Y.Clock.take x.enc K = K x [] := rfl
structure Y.Control where
  Target : Int
  Dead : Int
  Gain : Int
  Most : Int
def Y.Control.enc (x : Y.Control) : List D := [.int .i64 x.Target, .int .i64 x.Dead, .int .i64 x.Gain, .int .i64 x.Most]
def Y.Control.take {α : Type} (r : List D) (K : Y.Control → List D → Option α) : Option α := tI .i64 r fun x0 r => tI .i64 r fun x1 r => tI .i64 r fun x2 r => tI .i64 r fun x3 r => K ⟨x0, x1, x2, x3⟩ r
def Y.Control.get {α : Type} (r : List D) (K : Y.Control → Option α) : Option α := Y.Control.take r fun x r => tE r (K x)
@[simp] theorem Y.Control.get_enc {α : Type} (x : Y.Control) (K : Y.Control → Option α) : Y.Control.get x.enc K = K x := rfl
@[simp] theorem Y.Control.sub_enc (x : Y.Control) : sub x.enc 0 4 = x.enc := rfl
@[simp] theorem Y.Control.take_enc {α : Type} (x : Y.Control) (r : List D) (K : Y.Control → List D → Option α) : Y.Control.take (x.enc ++ r) K = K x r := rfl
@[simp] theorem Y.Control.take_enc' {α : Type} (x : Y.Control) (K : Y.Control → List D → Option α) : Y.Control.take x.enc K = K x [] := rfl
structure Y.Phase where
  Base : Y.Ratio
  Adjust : Int
  Pos : Int
  Frac : Int
def Y.Phase.enc (x : Y.Phase) : List D := [.int .i64 x.Base.Num, .int .i64 x.Base.Den, .int .i64 x.Adjust, .int .i64 x.Pos, .int .i64 x.Frac]
def Y.Phase.take {α : Type} (r : List D) (K : Y.Phase → List D → Option α) : Option α := Y.Ratio.take r fun x0 r => tI .i64 r fun x1 r => tI .i64 r fun x2 r => tI .i64 r fun x3 r => K ⟨x0, x1, x2, x3⟩ r
def Y.Phase.get {α : Type} (r : List D) (K : Y.Phase → Option α) : Option α := Y.Phase.take r fun x r => tE r (K x)
@[simp] theorem Y.Phase.get_enc {α : Type} (x : Y.Phase) (K : Y.Phase → Option α) : Y.Phase.get x.enc K = K x := rfl
@[simp] theorem Y.Phase.sub_enc (x : Y.Phase) : sub x.enc 0 5 = x.enc := rfl
@[simp] theorem Y.Phase.take_enc {α : Type} (x : Y.Phase) (r : List D) (K : Y.Phase → List D → Option α) : Y.Phase.take (x.enc ++ r) K = K x r := rfl
@[simp] theorem Y.Phase.take_enc' {α : Type} (x : Y.Phase) (K : Y.Phase → List D → Option α) : Y.Phase.take x.enc K = K x [] := rfl
structure Y.Resampler where
  Channels : Int
  Phase : Y.Phase
  Rest : List (List D)
def Y.Resampler.enc (x : Y.Resampler) : List D := [.int .i64 x.Channels, .int .i64 x.Phase.Base.Num, .int .i64 x.Phase.Base.Den, .int .i64 x.Phase.Adjust, .int .i64 x.Phase.Pos, .int .i64 x.Phase.Frac, .list 1 x.Rest]
def Y.Resampler.take {α : Type} (r : List D) (K : Y.Resampler → List D → Option α) : Option α := tI .i64 r fun x0 r => Y.Phase.take r fun x1 r => tL 1 r fun x2 r => K ⟨x0, x1, x2⟩ r
def Y.Resampler.get {α : Type} (r : List D) (K : Y.Resampler → Option α) : Option α := Y.Resampler.take r fun x r => tE r (K x)
@[simp] theorem Y.Resampler.get_enc {α : Type} (x : Y.Resampler) (K : Y.Resampler → Option α) : Y.Resampler.get x.enc K = K x := rfl
@[simp] theorem Y.Resampler.sub_enc (x : Y.Resampler) : sub x.enc 0 7 = x.enc := rfl
@[simp] theorem Y.Resampler.take_enc {α : Type} (x : Y.Resampler) (r : List D) (K : Y.Resampler → List D → Option α) : Y.Resampler.take (x.enc ++ r) K = K x r := rfl
@[simp] theorem Y.Resampler.take_enc' {α : Type} (x : Y.Resampler) (K : Y.Resampler → List D → Option α) : Y.Resampler.take x.enc K = K x [] := rfl
structure Y.Bridge where
  Capacity : Int
  Control : Y.Control
  Resample : Y.Resampler
  Lost : Int
  Missed : Int
def Y.Bridge.enc (x : Y.Bridge) : List D := [.int .i64 x.Capacity, .int .i64 x.Control.Target, .int .i64 x.Control.Dead, .int .i64 x.Control.Gain, .int .i64 x.Control.Most, .int .i64 x.Resample.Channels, .int .i64 x.Resample.Phase.Base.Num, .int .i64 x.Resample.Phase.Base.Den, .int .i64 x.Resample.Phase.Adjust, .int .i64 x.Resample.Phase.Pos, .int .i64 x.Resample.Phase.Frac, .list 1 x.Resample.Rest, .int .i64 x.Lost, .int .i64 x.Missed]
def Y.Bridge.take {α : Type} (r : List D) (K : Y.Bridge → List D → Option α) : Option α := tI .i64 r fun x0 r => Y.Control.take r fun x1 r => Y.Resampler.take r fun x2 r => tI .i64 r fun x3 r => tI .i64 r fun x4 r => K ⟨x0, x1, x2, x3, x4⟩ r
def Y.Bridge.get {α : Type} (r : List D) (K : Y.Bridge → Option α) : Option α := Y.Bridge.take r fun x r => tE r (K x)
@[simp] theorem Y.Bridge.get_enc {α : Type} (x : Y.Bridge) (K : Y.Bridge → Option α) : Y.Bridge.get x.enc K = K x := rfl
@[simp] theorem Y.Bridge.sub_enc (x : Y.Bridge) : sub x.enc 0 14 = x.enc := rfl
@[simp] theorem Y.Bridge.take_enc {α : Type} (x : Y.Bridge) (r : List D) (K : Y.Bridge → List D → Option α) : Y.Bridge.take (x.enc ++ r) K = K x r := rfl
@[simp] theorem Y.Bridge.take_enc' {α : Type} (x : Y.Bridge) (K : Y.Bridge → List D → Option α) : Y.Bridge.take x.enc K = K x [] := rfl
structure Y.Device where
  Descriptor : Y.Descriptor
  Choice : Y.Choice
  Rate : Int
  Period : Int
  Clock : Y.Clock
  Running : Bool
  Since : Int
  Bridge : Y.Bridge
def Y.Device.enc (x : Y.Device) : List D := [.int .u64 x.Descriptor.ID, .str x.Descriptor.Name, .int .i64 x.Descriptor.Direction, .int .i64 x.Descriptor.Domain, .int .i64 x.Descriptor.Latency, .int .i64 x.Descriptor.Drift, .int .i64 x.Descriptor.Jitter, .list 4 x.Descriptor.Boxes, .int .i64 x.Choice.Format.Kind, .int .i64 x.Choice.Format.Rate, .list 1 x.Choice.Format.Map, .int .i64 x.Choice.Size, .int .i64 x.Rate, .int .i64 x.Period, .list 3 x.Clock.Segments, .bool x.Running, .int .i64 x.Since, .int .i64 x.Bridge.Capacity, .int .i64 x.Bridge.Control.Target, .int .i64 x.Bridge.Control.Dead, .int .i64 x.Bridge.Control.Gain, .int .i64 x.Bridge.Control.Most, .int .i64 x.Bridge.Resample.Channels, .int .i64 x.Bridge.Resample.Phase.Base.Num, .int .i64 x.Bridge.Resample.Phase.Base.Den, .int .i64 x.Bridge.Resample.Phase.Adjust, .int .i64 x.Bridge.Resample.Phase.Pos, .int .i64 x.Bridge.Resample.Phase.Frac, .list 1 x.Bridge.Resample.Rest, .int .i64 x.Bridge.Lost, .int .i64 x.Bridge.Missed]
def Y.Device.take {α : Type} (r : List D) (K : Y.Device → List D → Option α) : Option α := Y.Descriptor.take r fun x0 r => Y.Choice.take r fun x1 r => tI .i64 r fun x2 r => tI .i64 r fun x3 r => Y.Clock.take r fun x4 r => tB r fun x5 r => tI .i64 r fun x6 r => Y.Bridge.take r fun x7 r => K ⟨x0, x1, x2, x3, x4, x5, x6, x7⟩ r
def Y.Device.get {α : Type} (r : List D) (K : Y.Device → Option α) : Option α := Y.Device.take r fun x r => tE r (K x)
@[simp] theorem Y.Device.get_enc {α : Type} (x : Y.Device) (K : Y.Device → Option α) : Y.Device.get x.enc K = K x := rfl
@[simp] theorem Y.Device.sub_enc (x : Y.Device) : sub x.enc 0 31 = x.enc := rfl
@[simp] theorem Y.Device.take_enc {α : Type} (x : Y.Device) (r : List D) (K : Y.Device → List D → Option α) : Y.Device.take (x.enc ++ r) K = K x r := rfl
@[simp] theorem Y.Device.take_enc' {α : Type} (x : Y.Device) (K : Y.Device → List D → Option α) : Y.Device.take x.enc K = K x [] := rfl
structure Y.Block where
  Channels : Int
  Data : List (List D)
def Y.Block.enc (x : Y.Block) : List D := [.int .i64 x.Channels, .list 1 x.Data]
def Y.Block.take {α : Type} (r : List D) (K : Y.Block → List D → Option α) : Option α := tI .i64 r fun x0 r => tL 1 r fun x1 r => K ⟨x0, x1⟩ r
def Y.Block.get {α : Type} (r : List D) (K : Y.Block → Option α) : Option α := Y.Block.take r fun x r => tE r (K x)
@[simp] theorem Y.Block.get_enc {α : Type} (x : Y.Block) (K : Y.Block → Option α) : Y.Block.get x.enc K = K x := rfl
@[simp] theorem Y.Block.sub_enc (x : Y.Block) : sub x.enc 0 2 = x.enc := rfl
@[simp] theorem Y.Block.take_enc {α : Type} (x : Y.Block) (r : List D) (K : Y.Block → List D → Option α) : Y.Block.take (x.enc ++ r) K = K x r := rfl
@[simp] theorem Y.Block.take_enc' {α : Type} (x : Y.Block) (K : Y.Block → List D → Option α) : Y.Block.take x.enc K = K x [] := rfl
structure Y.Arr2_Int where
  X0 : Int
  X1 : Int
def Y.Arr2_Int.enc (x : Y.Arr2_Int) : List D := [.int .i64 x.X0, .int .i64 x.X1]
def Y.Arr2_Int.take {α : Type} (r : List D) (K : Y.Arr2_Int → List D → Option α) : Option α := tI .i64 r fun x0 r => tI .i64 r fun x1 r => K ⟨x0, x1⟩ r
def Y.Arr2_Int.get {α : Type} (r : List D) (K : Y.Arr2_Int → Option α) : Option α := Y.Arr2_Int.take r fun x r => tE r (K x)
@[simp] theorem Y.Arr2_Int.get_enc {α : Type} (x : Y.Arr2_Int) (K : Y.Arr2_Int → Option α) : Y.Arr2_Int.get x.enc K = K x := rfl
@[simp] theorem Y.Arr2_Int.sub_enc (x : Y.Arr2_Int) : sub x.enc 0 2 = x.enc := rfl
@[simp] theorem Y.Arr2_Int.take_enc {α : Type} (x : Y.Arr2_Int) (r : List D) (K : Y.Arr2_Int → List D → Option α) : Y.Arr2_Int.take (x.enc ++ r) K = K x r := rfl
@[simp] theorem Y.Arr2_Int.take_enc' {α : Type} (x : Y.Arr2_Int) (K : Y.Arr2_Int → List D → Option α) : Y.Arr2_Int.take x.enc K = K x [] := rfl
structure Y.Transfer where
  Pull : Int
  Push : Int
def Y.Transfer.enc (x : Y.Transfer) : List D := [.int .i64 x.Pull, .int .i64 x.Push]
def Y.Transfer.take {α : Type} (r : List D) (K : Y.Transfer → List D → Option α) : Option α := tI .i64 r fun x0 r => tI .i64 r fun x1 r => K ⟨x0, x1⟩ r
def Y.Transfer.get {α : Type} (r : List D) (K : Y.Transfer → Option α) : Option α := Y.Transfer.take r fun x r => tE r (K x)
@[simp] theorem Y.Transfer.get_enc {α : Type} (x : Y.Transfer) (K : Y.Transfer → Option α) : Y.Transfer.get x.enc K = K x := rfl
@[simp] theorem Y.Transfer.sub_enc (x : Y.Transfer) : sub x.enc 0 2 = x.enc := rfl
@[simp] theorem Y.Transfer.take_enc {α : Type} (x : Y.Transfer) (r : List D) (K : Y.Transfer → List D → Option α) : Y.Transfer.take (x.enc ++ r) K = K x r := rfl
@[simp] theorem Y.Transfer.take_enc' {α : Type} (x : Y.Transfer) (K : Y.Transfer → List D → Option α) : Y.Transfer.take x.enc K = K x [] := rfl
structure Y.Device_unit where
  Device : Y.Device
def Y.Device_unit.enc (x : Y.Device_unit) : List D := [.int .u64 x.Device.Descriptor.ID, .str x.Device.Descriptor.Name, .int .i64 x.Device.Descriptor.Direction, .int .i64 x.Device.Descriptor.Domain, .int .i64 x.Device.Descriptor.Latency, .int .i64 x.Device.Descriptor.Drift, .int .i64 x.Device.Descriptor.Jitter, .list 4 x.Device.Descriptor.Boxes, .int .i64 x.Device.Choice.Format.Kind, .int .i64 x.Device.Choice.Format.Rate, .list 1 x.Device.Choice.Format.Map, .int .i64 x.Device.Choice.Size, .int .i64 x.Device.Rate, .int .i64 x.Device.Period, .list 3 x.Device.Clock.Segments, .bool x.Device.Running, .int .i64 x.Device.Since, .int .i64 x.Device.Bridge.Capacity, .int .i64 x.Device.Bridge.Control.Target, .int .i64 x.Device.Bridge.Control.Dead, .int .i64 x.Device.Bridge.Control.Gain, .int .i64 x.Device.Bridge.Control.Most, .int .i64 x.Device.Bridge.Resample.Channels, .int .i64 x.Device.Bridge.Resample.Phase.Base.Num, .int .i64 x.Device.Bridge.Resample.Phase.Base.Den, .int .i64 x.Device.Bridge.Resample.Phase.Adjust, .int .i64 x.Device.Bridge.Resample.Phase.Pos, .int .i64 x.Device.Bridge.Resample.Phase.Frac, .list 1 x.Device.Bridge.Resample.Rest, .int .i64 x.Device.Bridge.Lost, .int .i64 x.Device.Bridge.Missed]
def Y.Device_unit.take {α : Type} (r : List D) (K : Y.Device_unit → List D → Option α) : Option α := Y.Device.take r fun x0 r => K ⟨x0⟩ r
def Y.Device_unit.get {α : Type} (r : List D) (K : Y.Device_unit → Option α) : Option α := Y.Device_unit.take r fun x r => tE r (K x)
@[simp] theorem Y.Device_unit.get_enc {α : Type} (x : Y.Device_unit) (K : Y.Device_unit → Option α) : Y.Device_unit.get x.enc K = K x := rfl
@[simp] theorem Y.Device_unit.sub_enc (x : Y.Device_unit) : sub x.enc 0 31 = x.enc := rfl
@[simp] theorem Y.Device_unit.take_enc {α : Type} (x : Y.Device_unit) (r : List D) (K : Y.Device_unit → List D → Option α) : Y.Device_unit.take (x.enc ++ r) K = K x r := rfl
@[simp] theorem Y.Device_unit.take_enc' {α : Type} (x : Y.Device_unit) (K : Y.Device_unit → List D → Option α) : Y.Device_unit.take x.enc K = K x [] := rfl
structure Y.Control_wide where
  Hi : Int
  Lo : Int
def Y.Control_wide.enc (x : Y.Control_wide) : List D := [.int .u64 x.Hi, .int .u64 x.Lo]
def Y.Control_wide.take {α : Type} (r : List D) (K : Y.Control_wide → List D → Option α) : Option α := tI .u64 r fun x0 r => tI .u64 r fun x1 r => K ⟨x0, x1⟩ r
def Y.Control_wide.get {α : Type} (r : List D) (K : Y.Control_wide → Option α) : Option α := Y.Control_wide.take r fun x r => tE r (K x)
@[simp] theorem Y.Control_wide.get_enc {α : Type} (x : Y.Control_wide) (K : Y.Control_wide → Option α) : Y.Control_wide.get x.enc K = K x := rfl
@[simp] theorem Y.Control_wide.sub_enc (x : Y.Control_wide) : sub x.enc 0 2 = x.enc := rfl
@[simp] theorem Y.Control_wide.take_enc {α : Type} (x : Y.Control_wide) (r : List D) (K : Y.Control_wide → List D → Option α) : Y.Control_wide.take (x.enc ++ r) K = K x r := rfl
@[simp] theorem Y.Control_wide.take_enc' {α : Type} (x : Y.Control_wide) (K : Y.Control_wide → List D → Option α) : Y.Control_wide.take x.enc K = K x [] := rfl
structure Y.Control_level where
  Now : Y.Control_wide
  Least : Y.Control_wide
def Y.Control_level.enc (x : Y.Control_level) : List D := [.int .u64 x.Now.Hi, .int .u64 x.Now.Lo, .int .u64 x.Least.Hi, .int .u64 x.Least.Lo]
def Y.Control_level.take {α : Type} (r : List D) (K : Y.Control_level → List D → Option α) : Option α := Y.Control_wide.take r fun x0 r => Y.Control_wide.take r fun x1 r => K ⟨x0, x1⟩ r
def Y.Control_level.get {α : Type} (r : List D) (K : Y.Control_level → Option α) : Option α := Y.Control_level.take r fun x r => tE r (K x)
@[simp] theorem Y.Control_level.get_enc {α : Type} (x : Y.Control_level) (K : Y.Control_level → Option α) : Y.Control_level.get x.enc K = K x := rfl
@[simp] theorem Y.Control_level.sub_enc (x : Y.Control_level) : sub x.enc 0 4 = x.enc := rfl
@[simp] theorem Y.Control_level.take_enc {α : Type} (x : Y.Control_level) (r : List D) (K : Y.Control_level → List D → Option α) : Y.Control_level.take (x.enc ++ r) K = K x r := rfl
@[simp] theorem Y.Control_level.take_enc' {α : Type} (x : Y.Control_level) (K : Y.Control_level → List D → Option α) : Y.Control_level.take x.enc K = K x [] := rfl
structure Y.Ref18_wide where
  Hi : Int
  Lo : Int
def Y.Ref18_wide.enc (x : Y.Ref18_wide) : List D := [.int .u64 x.Hi, .int .u64 x.Lo]
def Y.Ref18_wide.take {α : Type} (r : List D) (K : Y.Ref18_wide → List D → Option α) : Option α := tI .u64 r fun x0 r => tI .u64 r fun x1 r => K ⟨x0, x1⟩ r
def Y.Ref18_wide.get {α : Type} (r : List D) (K : Y.Ref18_wide → Option α) : Option α := Y.Ref18_wide.take r fun x r => tE r (K x)
@[simp] theorem Y.Ref18_wide.get_enc {α : Type} (x : Y.Ref18_wide) (K : Y.Ref18_wide → Option α) : Y.Ref18_wide.get x.enc K = K x := rfl
@[simp] theorem Y.Ref18_wide.sub_enc (x : Y.Ref18_wide) : sub x.enc 0 2 = x.enc := rfl
@[simp] theorem Y.Ref18_wide.take_enc {α : Type} (x : Y.Ref18_wide) (r : List D) (K : Y.Ref18_wide → List D → Option α) : Y.Ref18_wide.take (x.enc ++ r) K = K x r := rfl
@[simp] theorem Y.Ref18_wide.take_enc' {α : Type} (x : Y.Ref18_wide) (K : Y.Ref18_wide → List D → Option α) : Y.Ref18_wide.take x.enc K = K x [] := rfl
structure Y.Clock_piece where
  Segment : Y.Segment
  Until : Int
  Begin : Int
def Y.Clock_piece.enc (x : Y.Clock_piece) : List D := [.int .i64 x.Segment.From, .int .i64 x.Segment.Rate.Num, .int .i64 x.Segment.Rate.Den, .int .i64 x.Until, .int .i64 x.Begin]
def Y.Clock_piece.take {α : Type} (r : List D) (K : Y.Clock_piece → List D → Option α) : Option α := Y.Segment.take r fun x0 r => tI .i64 r fun x1 r => tI .i64 r fun x2 r => K ⟨x0, x1, x2⟩ r
def Y.Clock_piece.get {α : Type} (r : List D) (K : Y.Clock_piece → Option α) : Option α := Y.Clock_piece.take r fun x r => tE r (K x)
@[simp] theorem Y.Clock_piece.get_enc {α : Type} (x : Y.Clock_piece) (K : Y.Clock_piece → Option α) : Y.Clock_piece.get x.enc K = K x := rfl
@[simp] theorem Y.Clock_piece.sub_enc (x : Y.Clock_piece) : sub x.enc 0 5 = x.enc := rfl
@[simp] theorem Y.Clock_piece.take_enc {α : Type} (x : Y.Clock_piece) (r : List D) (K : Y.Clock_piece → List D → Option α) : Y.Clock_piece.take (x.enc ++ r) K = K x r := rfl
@[simp] theorem Y.Clock_piece.take_enc' {α : Type} (x : Y.Clock_piece) (K : Y.Clock_piece → List D → Option α) : Y.Clock_piece.take x.enc K = K x [] := rfl
def e_B (x0 : Bool) : List D := [.bool x0]
def o_B {α : Type} (x : Option (List D)) (K : Bool → Option α) : Option α := obind x fun r => tB r fun x0 r => tE r (K x0)
@[simp] theorem o_B_e {α : Type} (x0 : Bool) (K : Bool → Option α) : o_B (some (e_B x0)) K = K x0 := rfl
def e_B_Choice (x0 : Bool) (x1 : Y.Choice) : List D := .bool x0 :: (x1.enc)
def o_B_Choice {α : Type} (x : Option (List D)) (K : Bool → Y.Choice → Option α) : Option α := obind x fun r => tB r fun x0 r => Y.Choice.take r fun x1 r => tE r (K x0 x1)
@[simp] theorem o_B_Choice_e {α : Type} (x0 : Bool) (x1 : Y.Choice) (K : Bool → Y.Choice → Option α) : o_B_Choice (some (e_B_Choice x0 x1)) K = K x0 x1 := rfl
def e_B_Control_level (x0 : Bool) (x1 : Y.Control_level) : List D := .bool x0 :: (x1.enc)
def o_B_Control_level {α : Type} (x : Option (List D)) (K : Bool → Y.Control_level → Option α) : Option α := obind x fun r => tB r fun x0 r => Y.Control_level.take r fun x1 r => tE r (K x0 x1)
@[simp] theorem o_B_Control_level_e {α : Type} (x0 : Bool) (x1 : Y.Control_level) (K : Bool → Y.Control_level → Option α) : o_B_Control_level (some (e_B_Control_level x0 x1)) K = K x0 x1 := rfl
def e_B_I64 (x0 : Bool) (x1 : Int) : List D := .bool x0 :: ([.int .i64 x1])
def o_B_I64 {α : Type} (x : Option (List D)) (K : Bool → Int → Option α) : Option α := obind x fun r => tB r fun x0 r => tI .i64 r fun x1 r => tE r (K x0 x1)
@[simp] theorem o_B_I64_e {α : Type} (x0 : Bool) (x1 : Int) (K : Bool → Int → Option α) : o_B_I64 (some (e_B_I64 x0 x1)) K = K x0 x1 := rfl
def e_B_L1 (x0 : Bool) (x1 : List (List D)) : List D := .bool x0 :: ([.list 1 x1])
def o_B_L1 {α : Type} (x : Option (List D)) (K : Bool → List (List D) → Option α) : Option α := obind x fun r => tB r fun x0 r => tL 1 r fun x1 r => tE r (K x0 x1)
@[simp] theorem o_B_L1_e {α : Type} (x0 : Bool) (x1 : List (List D)) (K : Bool → List (List D) → Option α) : o_B_L1 (some (e_B_L1 x0 x1)) K = K x0 x1 := rfl
def e_B_Phase_I64 (x0 : Bool) (x1 : Y.Phase) (x2 : Int) : List D := .bool x0 :: (x1.enc ++ ([.int .i64 x2]))
def o_B_Phase_I64 {α : Type} (x : Option (List D)) (K : Bool → Y.Phase → Int → Option α) : Option α := obind x fun r => tB r fun x0 r => Y.Phase.take r fun x1 r => tI .i64 r fun x2 r => tE r (K x0 x1 x2)
@[simp] theorem o_B_Phase_I64_e {α : Type} (x0 : Bool) (x1 : Y.Phase) (x2 : Int) (K : Bool → Y.Phase → Int → Option α) : o_B_Phase_I64 (some (e_B_Phase_I64 x0 x1 x2)) K = K x0 x1 x2 := rfl
def e_Block (x0 : Y.Block) : List D := x0.enc
def o_Block {α : Type} (x : Option (List D)) (K : Y.Block → Option α) : Option α := obind x fun r => Y.Block.take r fun x0 r => tE r (K x0)
@[simp] theorem o_Block_e {α : Type} (x0 : Y.Block) (K : Y.Block → Option α) : o_Block (some (e_Block x0)) K = K x0 := rfl
def e_Block_I64 (x0 : Y.Block) (x1 : Int) : List D := x0.enc ++ ([.int .i64 x1])
def o_Block_I64 {α : Type} (x : Option (List D)) (K : Y.Block → Int → Option α) : Option α := obind x fun r => Y.Block.take r fun x0 r => tI .i64 r fun x1 r => tE r (K x0 x1)
@[simp] theorem o_Block_I64_e {α : Type} (x0 : Y.Block) (x1 : Int) (K : Y.Block → Int → Option α) : o_Block_I64 (some (e_Block_I64 x0 x1)) K = K x0 x1 := rfl
def e_Block_I64_Bridge_I64 (x0 : Y.Block) (x1 : Int) (x2 : Y.Bridge) (x3 : Int) : List D := x0.enc ++ (.int .i64 x1 :: (x2.enc ++ ([.int .i64 x3])))
def o_Block_I64_Bridge_I64 {α : Type} (x : Option (List D)) (K : Y.Block → Int → Y.Bridge → Int → Option α) : Option α := obind x fun r => Y.Block.take r fun x0 r => tI .i64 r fun x1 r => Y.Bridge.take r fun x2 r => tI .i64 r fun x3 r => tE r (K x0 x1 x2 x3)
@[simp] theorem o_Block_I64_Bridge_I64_e {α : Type} (x0 : Y.Block) (x1 : Int) (x2 : Y.Bridge) (x3 : Int) (K : Y.Block → Int → Y.Bridge → Int → Option α) : o_Block_I64_Bridge_I64 (some (e_Block_I64_Bridge_I64 x0 x1 x2 x3)) K = K x0 x1 x2 x3 := rfl
def e_Block_I64_I64_Device_I64 (x0 : Y.Block) (x1 : Int) (x2 : Int) (x3 : Y.Device) (x4 : Int) : List D := x0.enc ++ (.int .i64 x1 :: (.int .i64 x2 :: (x3.enc ++ ([.int .i64 x4]))))
def o_Block_I64_I64_Device_I64 {α : Type} (x : Option (List D)) (K : Y.Block → Int → Int → Y.Device → Int → Option α) : Option α := obind x fun r => Y.Block.take r fun x0 r => tI .i64 r fun x1 r => tI .i64 r fun x2 r => Y.Device.take r fun x3 r => tI .i64 r fun x4 r => tE r (K x0 x1 x2 x3 x4)
@[simp] theorem o_Block_I64_I64_Device_I64_e {α : Type} (x0 : Y.Block) (x1 : Int) (x2 : Int) (x3 : Y.Device) (x4 : Int) (K : Y.Block → Int → Int → Y.Device → Int → Option α) : o_Block_I64_I64_Device_I64 (some (e_Block_I64_I64_Device_I64 x0 x1 x2 x3 x4)) K = K x0 x1 x2 x3 x4 := rfl
def e_Block_Made_Dice (x0 : Y.Block) (x1 : Y.Made_Dice) : List D := x0.enc ++ (x1.enc)
def o_Block_Made_Dice {α : Type} (x : Option (List D)) (K : Y.Block → Y.Made_Dice → Option α) : Option α := obind x fun r => Y.Block.take r fun x0 r => Y.Made_Dice.take r fun x1 r => tE r (K x0 x1)
@[simp] theorem o_Block_Made_Dice_e {α : Type} (x0 : Y.Block) (x1 : Y.Made_Dice) (K : Y.Block → Y.Made_Dice → Option α) : o_Block_Made_Dice (some (e_Block_Made_Dice x0 x1)) K = K x0 x1 := rfl
def e_Block_Resampler_I64 (x0 : Y.Block) (x1 : Y.Resampler) (x2 : Int) : List D := x0.enc ++ (x1.enc ++ ([.int .i64 x2]))
def o_Block_Resampler_I64 {α : Type} (x : Option (List D)) (K : Y.Block → Y.Resampler → Int → Option α) : Option α := obind x fun r => Y.Block.take r fun x0 r => Y.Resampler.take r fun x1 r => tI .i64 r fun x2 r => tE r (K x0 x1 x2)
@[simp] theorem o_Block_Resampler_I64_e {α : Type} (x0 : Y.Block) (x1 : Y.Resampler) (x2 : Int) (K : Y.Block → Y.Resampler → Int → Option α) : o_Block_Resampler_I64 (some (e_Block_Resampler_I64 x0 x1 x2)) K = K x0 x1 x2 := rfl
def e_Box_Made_Dice (x0 : Y.Box) (x1 : Y.Made_Dice) : List D := x0.enc ++ (x1.enc)
def o_Box_Made_Dice {α : Type} (x : Option (List D)) (K : Y.Box → Y.Made_Dice → Option α) : Option α := obind x fun r => Y.Box.take r fun x0 r => Y.Made_Dice.take r fun x1 r => tE r (K x0 x1)
@[simp] theorem o_Box_Made_Dice_e {α : Type} (x0 : Y.Box) (x1 : Y.Made_Dice) (K : Y.Box → Y.Made_Dice → Option α) : o_Box_Made_Dice (some (e_Box_Made_Dice x0 x1)) K = K x0 x1 := rfl
def e_Bridge_I64 (x0 : Y.Bridge) (x1 : Int) : List D := x0.enc ++ ([.int .i64 x1])
def o_Bridge_I64 {α : Type} (x : Option (List D)) (K : Y.Bridge → Int → Option α) : Option α := obind x fun r => Y.Bridge.take r fun x0 r => tI .i64 r fun x1 r => tE r (K x0 x1)
@[simp] theorem o_Bridge_I64_e {α : Type} (x0 : Y.Bridge) (x1 : Int) (K : Y.Bridge → Int → Option α) : o_Bridge_I64 (some (e_Bridge_I64 x0 x1)) K = K x0 x1 := rfl
def e_Bridge_I64_I64 (x0 : Y.Bridge) (x1 : Int) (x2 : Int) : List D := x0.enc ++ (.int .i64 x1 :: ([.int .i64 x2]))
def o_Bridge_I64_I64 {α : Type} (x : Option (List D)) (K : Y.Bridge → Int → Int → Option α) : Option α := obind x fun r => Y.Bridge.take r fun x0 r => tI .i64 r fun x1 r => tI .i64 r fun x2 r => tE r (K x0 x1 x2)
@[simp] theorem o_Bridge_I64_I64_e {α : Type} (x0 : Y.Bridge) (x1 : Int) (x2 : Int) (K : Y.Bridge → Int → Int → Option α) : o_Bridge_I64_I64 (some (e_Bridge_I64_I64 x0 x1 x2)) K = K x0 x1 x2 := rfl
def e_Choice (x0 : Y.Choice) : List D := x0.enc
def o_Choice {α : Type} (x : Option (List D)) (K : Y.Choice → Option α) : Option α := obind x fun r => Y.Choice.take r fun x0 r => tE r (K x0)
@[simp] theorem o_Choice_e {α : Type} (x0 : Y.Choice) (K : Y.Choice → Option α) : o_Choice (some (e_Choice x0)) K = K x0 := rfl
def e_Choice_B (x0 : Y.Choice) (x1 : Bool) : List D := x0.enc ++ ([.bool x1])
def o_Choice_B {α : Type} (x : Option (List D)) (K : Y.Choice → Bool → Option α) : Option α := obind x fun r => Y.Choice.take r fun x0 r => tB r fun x1 r => tE r (K x0 x1)
@[simp] theorem o_Choice_B_e {α : Type} (x0 : Y.Choice) (x1 : Bool) (K : Y.Choice → Bool → Option α) : o_Choice_B (some (e_Choice_B x0 x1)) K = K x0 x1 := rfl
def e_Choice_Made_Dice (x0 : Y.Choice) (x1 : Y.Made_Dice) : List D := x0.enc ++ (x1.enc)
def o_Choice_Made_Dice {α : Type} (x : Option (List D)) (K : Y.Choice → Y.Made_Dice → Option α) : Option α := obind x fun r => Y.Choice.take r fun x0 r => Y.Made_Dice.take r fun x1 r => tE r (K x0 x1)
@[simp] theorem o_Choice_Made_Dice_e {α : Type} (x0 : Y.Choice) (x1 : Y.Made_Dice) (K : Y.Choice → Y.Made_Dice → Option α) : o_Choice_Made_Dice (some (e_Choice_Made_Dice x0 x1)) K = K x0 x1 := rfl
def e_Clock (x0 : Y.Clock) : List D := x0.enc
def o_Clock {α : Type} (x : Option (List D)) (K : Y.Clock → Option α) : Option α := obind x fun r => Y.Clock.take r fun x0 r => tE r (K x0)
@[simp] theorem o_Clock_e {α : Type} (x0 : Y.Clock) (K : Y.Clock → Option α) : o_Clock (some (e_Clock x0)) K = K x0 := rfl
def e_Clock_I64 (x0 : Y.Clock) (x1 : Int) : List D := x0.enc ++ ([.int .i64 x1])
def o_Clock_I64 {α : Type} (x : Option (List D)) (K : Y.Clock → Int → Option α) : Option α := obind x fun r => Y.Clock.take r fun x0 r => tI .i64 r fun x1 r => tE r (K x0 x1)
@[simp] theorem o_Clock_I64_e {α : Type} (x0 : Y.Clock) (x1 : Int) (K : Y.Clock → Int → Option α) : o_Clock_I64 (some (e_Clock_I64 x0 x1)) K = K x0 x1 := rfl
def e_Clock_Made_Dice (x0 : Y.Clock) (x1 : Y.Made_Dice) : List D := x0.enc ++ (x1.enc)
def o_Clock_Made_Dice {α : Type} (x : Option (List D)) (K : Y.Clock → Y.Made_Dice → Option α) : Option α := obind x fun r => Y.Clock.take r fun x0 r => Y.Made_Dice.take r fun x1 r => tE r (K x0 x1)
@[simp] theorem o_Clock_Made_Dice_e {α : Type} (x0 : Y.Clock) (x1 : Y.Made_Dice) (K : Y.Clock → Y.Made_Dice → Option α) : o_Clock_Made_Dice (some (e_Clock_Made_Dice x0 x1)) K = K x0 x1 := rfl
def e_Control_I64_I64 (x0 : Y.Control) (x1 : Int) (x2 : Int) : List D := x0.enc ++ (.int .i64 x1 :: ([.int .i64 x2]))
def o_Control_I64_I64 {α : Type} (x : Option (List D)) (K : Y.Control → Int → Int → Option α) : Option α := obind x fun r => Y.Control.take r fun x0 r => tI .i64 r fun x1 r => tI .i64 r fun x2 r => tE r (K x0 x1 x2)
@[simp] theorem o_Control_I64_I64_e {α : Type} (x0 : Y.Control) (x1 : Int) (x2 : Int) (K : Y.Control → Int → Int → Option α) : o_Control_I64_I64 (some (e_Control_I64_I64 x0 x1 x2)) K = K x0 x1 x2 := rfl
def e_Control_wide (x0 : Y.Control_wide) : List D := x0.enc
def o_Control_wide {α : Type} (x : Option (List D)) (K : Y.Control_wide → Option α) : Option α := obind x fun r => Y.Control_wide.take r fun x0 r => tE r (K x0)
@[simp] theorem o_Control_wide_e {α : Type} (x0 : Y.Control_wide) (K : Y.Control_wide → Option α) : o_Control_wide (some (e_Control_wide x0)) K = K x0 := rfl
def e_D (x0 : D) : List D := [x0]
def o_D {α : Type} (x : Option (List D)) (K : D → Option α) : Option α := obind x fun r => tA r fun x0 r => tE r (K x0)
@[simp] theorem o_D_e {α : Type} (x0 : D) (K : D → Option α) : o_D (some (e_D x0)) K = K x0 := rfl
def e_Descriptor_Made_Dice (x0 : Y.Descriptor) (x1 : Y.Made_Dice) : List D := x0.enc ++ (x1.enc)
def o_Descriptor_Made_Dice {α : Type} (x : Option (List D)) (K : Y.Descriptor → Y.Made_Dice → Option α) : Option α := obind x fun r => Y.Descriptor.take r fun x0 r => Y.Made_Dice.take r fun x1 r => tE r (K x0 x1)
@[simp] theorem o_Descriptor_Made_Dice_e {α : Type} (x0 : Y.Descriptor) (x1 : Y.Made_Dice) (K : Y.Descriptor → Y.Made_Dice → Option α) : o_Descriptor_Made_Dice (some (e_Descriptor_Made_Dice x0 x1)) K = K x0 x1 := rfl
def e_Device (x0 : Y.Device) : List D := x0.enc
def o_Device {α : Type} (x : Option (List D)) (K : Y.Device → Option α) : Option α := obind x fun r => Y.Device.take r fun x0 r => tE r (K x0)
@[simp] theorem o_Device_e {α : Type} (x0 : Y.Device) (K : Y.Device → Option α) : o_Device (some (e_Device x0)) K = K x0 := rfl
def e_Device_I64 (x0 : Y.Device) (x1 : Int) : List D := x0.enc ++ ([.int .i64 x1])
def o_Device_I64 {α : Type} (x : Option (List D)) (K : Y.Device → Int → Option α) : Option α := obind x fun r => Y.Device.take r fun x0 r => tI .i64 r fun x1 r => tE r (K x0 x1)
@[simp] theorem o_Device_I64_e {α : Type} (x0 : Y.Device) (x1 : Int) (K : Y.Device → Int → Option α) : o_Device_I64 (some (e_Device_I64 x0 x1)) K = K x0 x1 := rfl
def e_Device_Made_Dice (x0 : Y.Device) (x1 : Y.Made_Dice) : List D := x0.enc ++ (x1.enc)
def o_Device_Made_Dice {α : Type} (x : Option (List D)) (K : Y.Device → Y.Made_Dice → Option α) : Option α := obind x fun r => Y.Device.take r fun x0 r => Y.Made_Dice.take r fun x1 r => tE r (K x0 x1)
@[simp] theorem o_Device_Made_Dice_e {α : Type} (x0 : Y.Device) (x1 : Y.Made_Dice) (K : Y.Device → Y.Made_Dice → Option α) : o_Device_Made_Dice (some (e_Device_Made_Dice x0 x1)) K = K x0 x1 := rfl
def e_I32 (x0 : Int) : List D := [.int .i32 x0]
def o_I32 {α : Type} (x : Option (List D)) (K : Int → Option α) : Option α := obind x fun r => tI .i32 r fun x0 r => tE r (K x0)
@[simp] theorem o_I32_e {α : Type} (x0 : Int) (K : Int → Option α) : o_I32 (some (e_I32 x0)) K = K x0 := rfl
def e_I32_Made_Dice (x0 : Int) (x1 : Y.Made_Dice) : List D := .int .i32 x0 :: (x1.enc)
def o_I32_Made_Dice {α : Type} (x : Option (List D)) (K : Int → Y.Made_Dice → Option α) : Option α := obind x fun r => tI .i32 r fun x0 r => Y.Made_Dice.take r fun x1 r => tE r (K x0 x1)
@[simp] theorem o_I32_Made_Dice_e {α : Type} (x0 : Int) (x1 : Y.Made_Dice) (K : Int → Y.Made_Dice → Option α) : o_I32_Made_Dice (some (e_I32_Made_Dice x0 x1)) K = K x0 x1 := rfl
def e_I64 (x0 : Int) : List D := [.int .i64 x0]
def o_I64 {α : Type} (x : Option (List D)) (K : Int → Option α) : Option α := obind x fun r => tI .i64 r fun x0 r => tE r (K x0)
@[simp] theorem o_I64_e {α : Type} (x0 : Int) (K : Int → Option α) : o_I64 (some (e_I64 x0)) K = K x0 := rfl
def e_I64_B (x0 : Int) (x1 : Bool) : List D := .int .i64 x0 :: ([.bool x1])
def o_I64_B {α : Type} (x : Option (List D)) (K : Int → Bool → Option α) : Option α := obind x fun r => tI .i64 r fun x0 r => tB r fun x1 r => tE r (K x0 x1)
@[simp] theorem o_I64_B_e {α : Type} (x0 : Int) (x1 : Bool) (K : Int → Bool → Option α) : o_I64_B (some (e_I64_B x0 x1)) K = K x0 x1 := rfl
def e_I64_Choice (x0 : Int) (x1 : Y.Choice) : List D := .int .i64 x0 :: (x1.enc)
def o_I64_Choice {α : Type} (x : Option (List D)) (K : Int → Y.Choice → Option α) : Option α := obind x fun r => tI .i64 r fun x0 r => Y.Choice.take r fun x1 r => tE r (K x0 x1)
@[simp] theorem o_I64_Choice_e {α : Type} (x0 : Int) (x1 : Y.Choice) (K : Int → Y.Choice → Option α) : o_I64_Choice (some (e_I64_Choice x0 x1)) K = K x0 x1 := rfl
def e_I64_Control (x0 : Int) (x1 : Y.Control) : List D := .int .i64 x0 :: (x1.enc)
def o_I64_Control {α : Type} (x : Option (List D)) (K : Int → Y.Control → Option α) : Option α := obind x fun r => tI .i64 r fun x0 r => Y.Control.take r fun x1 r => tE r (K x0 x1)
@[simp] theorem o_I64_Control_e {α : Type} (x0 : Int) (x1 : Y.Control) (K : Int → Y.Control → Option α) : o_I64_Control (some (e_I64_Control x0 x1)) K = K x0 x1 := rfl
def e_I64_I64 (x0 : Int) (x1 : Int) : List D := .int .i64 x0 :: ([.int .i64 x1])
def o_I64_I64 {α : Type} (x : Option (List D)) (K : Int → Int → Option α) : Option α := obind x fun r => tI .i64 r fun x0 r => tI .i64 r fun x1 r => tE r (K x0 x1)
@[simp] theorem o_I64_I64_e {α : Type} (x0 : Int) (x1 : Int) (K : Int → Int → Option α) : o_I64_I64 (some (e_I64_I64 x0 x1)) K = K x0 x1 := rfl
def e_I64_I64_B (x0 : Int) (x1 : Int) (x2 : Bool) : List D := .int .i64 x0 :: (.int .i64 x1 :: ([.bool x2]))
def o_I64_I64_B {α : Type} (x : Option (List D)) (K : Int → Int → Bool → Option α) : Option α := obind x fun r => tI .i64 r fun x0 r => tI .i64 r fun x1 r => tB r fun x2 r => tE r (K x0 x1 x2)
@[simp] theorem o_I64_I64_B_e {α : Type} (x0 : Int) (x1 : Int) (x2 : Bool) (K : Int → Int → Bool → Option α) : o_I64_I64_B (some (e_I64_I64_B x0 x1 x2)) K = K x0 x1 x2 := rfl
def e_I64_I64_I64 (x0 : Int) (x1 : Int) (x2 : Int) : List D := .int .i64 x0 :: (.int .i64 x1 :: ([.int .i64 x2]))
def o_I64_I64_I64 {α : Type} (x : Option (List D)) (K : Int → Int → Int → Option α) : Option α := obind x fun r => tI .i64 r fun x0 r => tI .i64 r fun x1 r => tI .i64 r fun x2 r => tE r (K x0 x1 x2)
@[simp] theorem o_I64_I64_I64_e {α : Type} (x0 : Int) (x1 : Int) (x2 : Int) (K : Int → Int → Int → Option α) : o_I64_I64_I64 (some (e_I64_I64_I64 x0 x1 x2)) K = K x0 x1 x2 := rfl
def e_I64_L1 (x0 : Int) (x1 : List (List D)) : List D := .int .i64 x0 :: ([.list 1 x1])
def o_I64_L1 {α : Type} (x : Option (List D)) (K : Int → List (List D) → Option α) : Option α := obind x fun r => tI .i64 r fun x0 r => tL 1 r fun x1 r => tE r (K x0 x1)
@[simp] theorem o_I64_L1_e {α : Type} (x0 : Int) (x1 : List (List D)) (K : Int → List (List D) → Option α) : o_I64_L1 (some (e_I64_L1 x0 x1)) K = K x0 x1 := rfl
def e_I64_Made_Dice (x0 : Int) (x1 : Y.Made_Dice) : List D := .int .i64 x0 :: (x1.enc)
def o_I64_Made_Dice {α : Type} (x : Option (List D)) (K : Int → Y.Made_Dice → Option α) : Option α := obind x fun r => tI .i64 r fun x0 r => Y.Made_Dice.take r fun x1 r => tE r (K x0 x1)
@[simp] theorem o_I64_Made_Dice_e {α : Type} (x0 : Int) (x1 : Y.Made_Dice) (K : Int → Y.Made_Dice → Option α) : o_I64_Made_Dice (some (e_I64_Made_Dice x0 x1)) K = K x0 x1 := rfl
def e_I64_Phase_I64 (x0 : Int) (x1 : Y.Phase) (x2 : Int) : List D := .int .i64 x0 :: (x1.enc ++ ([.int .i64 x2]))
def o_I64_Phase_I64 {α : Type} (x : Option (List D)) (K : Int → Y.Phase → Int → Option α) : Option α := obind x fun r => tI .i64 r fun x0 r => Y.Phase.take r fun x1 r => tI .i64 r fun x2 r => tE r (K x0 x1 x2)
@[simp] theorem o_I64_Phase_I64_e {α : Type} (x0 : Int) (x1 : Y.Phase) (x2 : Int) (K : Int → Y.Phase → Int → Option α) : o_I64_Phase_I64 (some (e_I64_Phase_I64 x0 x1 x2)) K = K x0 x1 x2 := rfl
def e_IntSet_I64 (x0 : Y.IntSet) (x1 : Int) : List D := x0.enc ++ ([.int .i64 x1])
def o_IntSet_I64 {α : Type} (x : Option (List D)) (K : Y.IntSet → Int → Option α) : Option α := obind x fun r => Y.IntSet.take r fun x0 r => tI .i64 r fun x1 r => tE r (K x0 x1)
@[simp] theorem o_IntSet_I64_e {α : Type} (x0 : Y.IntSet) (x1 : Int) (K : Y.IntSet → Int → Option α) : o_IntSet_I64 (some (e_IntSet_I64 x0 x1)) K = K x0 x1 := rfl
def e_IntSet_Made_Dice (x0 : Y.IntSet) (x1 : Y.Made_Dice) : List D := x0.enc ++ (x1.enc)
def o_IntSet_Made_Dice {α : Type} (x : Option (List D)) (K : Y.IntSet → Y.Made_Dice → Option α) : Option α := obind x fun r => Y.IntSet.take r fun x0 r => Y.Made_Dice.take r fun x1 r => tE r (K x0 x1)
@[simp] theorem o_IntSet_Made_Dice_e {α : Type} (x0 : Y.IntSet) (x1 : Y.Made_Dice) (K : Y.IntSet → Y.Made_Dice → Option α) : o_IntSet_Made_Dice (some (e_IntSet_Made_Dice x0 x1)) K = K x0 x1 := rfl
def e_L1 (x0 : List (List D)) : List D := [.list 1 x0]
def o_L1 {α : Type} (x : Option (List D)) (K : List (List D) → Option α) : Option α := obind x fun r => tL 1 r fun x0 r => tE r (K x0)
@[simp] theorem o_L1_e {α : Type} (x0 : List (List D)) (K : List (List D) → Option α) : o_L1 (some (e_L1 x0)) K = K x0 := rfl
def e_L1_Made_Dice (x0 : List (List D)) (x1 : Y.Made_Dice) : List D := .list 1 x0 :: (x1.enc)
def o_L1_Made_Dice {α : Type} (x : Option (List D)) (K : List (List D) → Y.Made_Dice → Option α) : Option α := obind x fun r => tL 1 r fun x0 r => Y.Made_Dice.take r fun x1 r => tE r (K x0 x1)
@[simp] theorem o_L1_Made_Dice_e {α : Type} (x0 : List (List D)) (x1 : Y.Made_Dice) (K : List (List D) → Y.Made_Dice → Option α) : o_L1_Made_Dice (some (e_L1_Made_Dice x0 x1)) K = K x0 x1 := rfl
def e_L2 (x0 : List (List D)) : List D := [.list 2 x0]
def o_L2 {α : Type} (x : Option (List D)) (K : List (List D) → Option α) : Option α := obind x fun r => tL 2 r fun x0 r => tE r (K x0)
@[simp] theorem o_L2_e {α : Type} (x0 : List (List D)) (K : List (List D) → Option α) : o_L2 (some (e_L2 x0)) K = K x0 := rfl
def e_L3 (x0 : List (List D)) : List D := [.list 3 x0]
def o_L3 {α : Type} (x : Option (List D)) (K : List (List D) → Option α) : Option α := obind x fun r => tL 3 r fun x0 r => tE r (K x0)
@[simp] theorem o_L3_e {α : Type} (x0 : List (List D)) (K : List (List D) → Option α) : o_L3 (some (e_L3 x0)) K = K x0 := rfl
def e_L4 (x0 : List (List D)) : List D := [.list 4 x0]
def o_L4 {α : Type} (x : Option (List D)) (K : List (List D) → Option α) : Option α := obind x fun r => tL 4 r fun x0 r => tE r (K x0)
@[simp] theorem o_L4_e {α : Type} (x0 : List (List D)) (K : List (List D) → Option α) : o_L4 (some (e_L4 x0)) K = K x0 := rfl
def e_L4_Made_Dice (x0 : List (List D)) (x1 : Y.Made_Dice) : List D := .list 4 x0 :: (x1.enc)
def o_L4_Made_Dice {α : Type} (x : Option (List D)) (K : List (List D) → Y.Made_Dice → Option α) : Option α := obind x fun r => tL 4 r fun x0 r => Y.Made_Dice.take r fun x1 r => tE r (K x0 x1)
@[simp] theorem o_L4_Made_Dice_e {α : Type} (x0 : List (List D)) (x1 : Y.Made_Dice) (K : List (List D) → Y.Made_Dice → Option α) : o_L4_Made_Dice (some (e_L4_Made_Dice x0 x1)) K = K x0 x1 := rfl
def e_Made_Dice (x0 : Y.Made_Dice) : List D := x0.enc
def o_Made_Dice {α : Type} (x : Option (List D)) (K : Y.Made_Dice → Option α) : Option α := obind x fun r => Y.Made_Dice.take r fun x0 r => tE r (K x0)
@[simp] theorem o_Made_Dice_e {α : Type} (x0 : Y.Made_Dice) (K : Y.Made_Dice → Option α) : o_Made_Dice (some (e_Made_Dice x0)) K = K x0 := rfl
def e_N : List D := []
def o_N {α : Type} (x : Option (List D)) (K : Option α) : Option α := obind x fun r => tE r (K)
@[simp] theorem o_N_e {α : Type} (K : Option α) : o_N (some (e_N)) K = K := rfl
def e_Phase_I64 (x0 : Y.Phase) (x1 : Int) : List D := x0.enc ++ ([.int .i64 x1])
def o_Phase_I64 {α : Type} (x : Option (List D)) (K : Y.Phase → Int → Option α) : Option α := obind x fun r => Y.Phase.take r fun x0 r => tI .i64 r fun x1 r => tE r (K x0 x1)
@[simp] theorem o_Phase_I64_e {α : Type} (x0 : Y.Phase) (x1 : Int) (K : Y.Phase → Int → Option α) : o_Phase_I64 (some (e_Phase_I64 x0 x1)) K = K x0 x1 := rfl
def e_Ratio (x0 : Y.Ratio) : List D := x0.enc
def o_Ratio {α : Type} (x : Option (List D)) (K : Y.Ratio → Option α) : Option α := obind x fun r => Y.Ratio.take r fun x0 r => tE r (K x0)
@[simp] theorem o_Ratio_e {α : Type} (x0 : Y.Ratio) (K : Y.Ratio → Option α) : o_Ratio (some (e_Ratio x0)) K = K x0 := rfl
def e_Ratio_I64 (x0 : Y.Ratio) (x1 : Int) : List D := x0.enc ++ ([.int .i64 x1])
def o_Ratio_I64 {α : Type} (x : Option (List D)) (K : Y.Ratio → Int → Option α) : Option α := obind x fun r => Y.Ratio.take r fun x0 r => tI .i64 r fun x1 r => tE r (K x0 x1)
@[simp] theorem o_Ratio_I64_e {α : Type} (x0 : Y.Ratio) (x1 : Int) (K : Y.Ratio → Int → Option α) : o_Ratio_I64 (some (e_Ratio_I64 x0 x1)) K = K x0 x1 := rfl
def e_Ratio_Made_Dice (x0 : Y.Ratio) (x1 : Y.Made_Dice) : List D := x0.enc ++ (x1.enc)
def o_Ratio_Made_Dice {α : Type} (x : Option (List D)) (K : Y.Ratio → Y.Made_Dice → Option α) : Option α := obind x fun r => Y.Ratio.take r fun x0 r => Y.Made_Dice.take r fun x1 r => tE r (K x0 x1)
@[simp] theorem o_Ratio_Made_Dice_e {α : Type} (x0 : Y.Ratio) (x1 : Y.Made_Dice) (K : Y.Ratio → Y.Made_Dice → Option α) : o_Ratio_Made_Dice (some (e_Ratio_Made_Dice x0 x1)) K = K x0 x1 := rfl
def e_Ref18_wide (x0 : Y.Ref18_wide) : List D := x0.enc
def o_Ref18_wide {α : Type} (x : Option (List D)) (K : Y.Ref18_wide → Option α) : Option α := obind x fun r => Y.Ref18_wide.take r fun x0 r => tE r (K x0)
@[simp] theorem o_Ref18_wide_e {α : Type} (x0 : Y.Ref18_wide) (K : Y.Ref18_wide → Option α) : o_Ref18_wide (some (e_Ref18_wide x0)) K = K x0 := rfl
def e_Resampler_I64 (x0 : Y.Resampler) (x1 : Int) : List D := x0.enc ++ ([.int .i64 x1])
def o_Resampler_I64 {α : Type} (x : Option (List D)) (K : Y.Resampler → Int → Option α) : Option α := obind x fun r => Y.Resampler.take r fun x0 r => tI .i64 r fun x1 r => tE r (K x0 x1)
@[simp] theorem o_Resampler_I64_e {α : Type} (x0 : Y.Resampler) (x1 : Int) (K : Y.Resampler → Int → Option α) : o_Resampler_I64 (some (e_Resampler_I64 x0 x1)) K = K x0 x1 := rfl
def e_U64 (x0 : Int) : List D := [.int .u64 x0]
def o_U64 {α : Type} (x : Option (List D)) (K : Int → Option α) : Option α := obind x fun r => tI .u64 r fun x0 r => tE r (K x0)
@[simp] theorem o_U64_e {α : Type} (x0 : Int) (K : Int → Option α) : o_U64 (some (e_U64 x0)) K = K x0 := rfl
def e_U64_U64 (x0 : Int) (x1 : Int) : List D := .int .u64 x0 :: ([.int .u64 x1])
def o_U64_U64 {α : Type} (x : Option (List D)) (K : Int → Int → Option α) : Option α := obind x fun r => tI .u64 r fun x0 r => tI .u64 r fun x1 r => tE r (K x0 x1)
@[simp] theorem o_U64_U64_e {α : Type} (x0 : Int) (x1 : Int) (K : Int → Int → Option α) : o_U64_U64 (some (e_U64_U64 x0 x1)) K = K x0 x1 := rfl
end Go.Vm
/- Where a clock stands: the answer of clock.position, by hand: it ranges over a function. -/
set_option linter.unusedVariables false
set_option linter.unusedSimpArgs false
namespace Go.Vm

/-- A piece of a clock: From, Num, Den, until, begin. -/
structure Pce where
  f : Int
  nu : Int
  de : Int
  u : Int
  b : Int
def Pce.row (p : Pce) : List D := [.int .i64 p.f, .int .i64 p.nu, .int .i64 p.de, .int .i64 p.u, .int .i64 p.b]
def segI : List D → Option (Int × Int × Int)
  | [.int .i64 f, .int .i64 n, .int .i64 d] => some (f, n, d)
  | _ => none
def untilI : List (List D) → Option Int
  | [] => some 1099511627776
  | r :: _ => (segI r).map (·.1)
def intR : Option (List D) → Option Int
  | some [.int .i64 n] => some n
  | _ => none
section
variable (call : FuncId → List Arg → Option (List D)) (at_ : FuncId)
def callAt (p : Pce) (t : Int) : Option Int := intR (call at_ [.v p.row, .v [.int .i64 t]])
/-- The pieces of a list of segments. -/
def piecesI : List (List D) → Int → Option (List Pce)
  | [], _ => some []
  | r :: rs, b => match segI r, untilI rs with
    | some (f, n, d), some u => match callAt call at_ ⟨f, n, d, u, b⟩ u with
      | some b' => match piecesI rs b' with
        | some ps => some (⟨f, n, d, u, b⟩ :: ps)
        | none => none
      | none => none
    | _, _ => none
/-- What has been counted at a time within each piece that has begun by then. -/
def atsI (t : Int) : List Pce → Option (List Int)
  | [] => some []
  | p :: ps => match (if p.f > t then some 0 else callAt call at_ p (if p.u < t then p.u else t)), atsI t ps with
    | some v, some vs => some (v :: vs)
    | _, _ => none
def walkV (t : Int) : List Pce → List Int → Int → Int
  | p :: ps, v :: vs, n => if p.f > t then n else walkV t ps vs v
  | _, _, n => n
def posRun : List Arg → Option (List D)
  | [.v [.list 3 (r :: rows)], .v [.int .i64 t]] => if rows.length ≤ 1000000 then match piecesI call at_ (r :: rows) 0 with
    | some ps => match atsI call at_ t ps with
      | some vs => some [.int .i64 (walkV t ps vs 0)]
      | none => none
    | none => none
    else none
  | _ => none
end
section
variable {c : FuncId → List Arg → Option (List D)} {cs : Nat → FuncId → List Arg → Option (List D)} (hc : ∀ g as r, c g as = some r → Evt fun n => cs n g as = some r) {a : FuncId}
include hc
theorem callAt_lim {p : Pce} {t x : Int} (h : callAt c a p t = some x) : Evt fun n => callAt (cs n) a p t = some x := by
  unfold callAt at h
  cases hr : c a [.v p.row, .v [.int .i64 t]] with
  | none => rw [hr] at h; cases h
  | some r => exact (hc _ _ _ hr).mono fun n hn => by unfold callAt; rw [hn, ← hr]; exact h
theorem piecesI_lim : ∀ (rs : List (List D)) (b : Int) (ps : List Pce), piecesI c a rs b = some ps → Evt fun n => piecesI (cs n) a rs b = some ps
  | [], _, _, h => Evt.all fun n => h
  | r :: rs, b, ps, h => by
    simp only [piecesI] at h
    split at h
    · rename_i f nu d u h1 h2
      split at h
      · rename_i b' h3
        split at h
        · rename_i ps' h4
          refine ((callAt_lim hc h3).and (piecesI_lim rs b' ps' h4)).mono fun n ⟨k1, k2⟩ => ?_
          simp only [piecesI, h1, h2, k1, k2]
          exact h
        · cases h
      · cases h
    · cases h
theorem atsI_lim (t : Int) : ∀ (ps : List Pce) (vs : List Int), atsI c a t ps = some vs → Evt fun k => atsI (cs k) a t ps = some vs
  | [], _, h => Evt.all fun n => h
  | p :: ps, vs, h => by
    simp only [atsI] at h ⊢
    split at h
    · rename_i v vs' h1 h2
      by_cases hf : p.f > t
      · refine (atsI_lim t ps vs' h2).mono fun k k2 => ?_
        simp only [if_pos hf] at h1 ⊢
        injection h1 with h1
        subst h1
        simp only [k2]
        exact h
      · simp only [if_neg hf] at h1 ⊢
        refine ((callAt_lim hc h1).and (atsI_lim t ps vs' h2)).mono fun k ⟨k1, k2⟩ => ?_
        simp only [k1, k2]
        exact h
    · cases h
theorem posRun_lim (as : List Arg) (r : List D) (h : posRun c a as = some r) : Evt fun n => posRun (cs n) a as = some r := by
  unfold posRun at h
  split at h
  · rename_i r0 rows t
    split at h
    · rename_i h0
      split at h
      · rename_i ps h1
        split at h
        · rename_i x h2
          refine ((piecesI_lim hc _ 0 ps h1).and (atsI_lim hc t ps x h2)).mono fun n ⟨k1, k2⟩ => ?_
          simp only [posRun, if_pos h0, k1, k2]
          exact h
        · cases h
      · cases h
    · cases h
  · cases h
end
def posO (a : FuncId) : Orc := ⟨fun call as => posRun call a as, fun _ _ hc as r h => posRun_lim hc as r h⟩
end Go.Vm
