/- Code: what the evaluator says is what the machine does. -/
import Derived.Test.YtgjingnobdhdfaaVmDraw
import Derived.Scope
set_option linter.unusedVariables false
set_option linter.unusedSimpArgs false
namespace Go.Vm

variable {nt : Nat} {w0 : World} {S : Sp} {w : World} {A : As} {fr : Fr} {tmps : Array Value} {P : Program}

/-! ### Cuts -/
theorem zipL_map {β : Type} (d : β) (f : Nat → β) : ∀ (ks : List Nat) (j : Nat), zipL d ks (ks.map f) j = if j ∈ ks then f j else d := by
  intro ks
  induction ks with
  | nil => intro j; rfl
  | cons k ks ih =>
    intro j
    simp only [List.map_cons, zipL]
    by_cases hj : j = k
    · subst hj; simp [upd_same]
    · rw [upd_ne _ _ hj, ih]; simp [hj]
theorem live_mem {l : List Nat} {k : Nat} (h : liveAt l k = true) : k ∈ l := by
  obtain ⟨x, hx, hb⟩ := List.any_eq_true.1 h
  rw [Nat.eq_of_beq_eq_true hb]; exact hx

theorem look_mem' {β : Type} {k : Nat} {v : β} : ∀ {l : List (Nat × β)}, look k l = some v → (k, v) ∈ l
  | [], h => by cases h
  | (j, u) :: l, h => by
    simp only [look] at h
    cases hb : Nat.beq j k with
    | true =>
      rw [hb, cond_true] at h
      injection h with h
      rw [Nat.eq_of_beq_eq_true hb, h]
      exact List.mem_cons_self
    | false =>
      rw [hb, cond_false] at h
      exact List.mem_cons_of_mem _ (look_mem' h)
theorem look_map {f : Nat → Nat} : ∀ {l : List Nat}, distinct (l.map f) = true → ∀ {K : Nat}, K ∈ l → look (f K) (l.map fun K => (f K, K)) = some K
  | [], _, K, h => by cases h
  | a :: l, hd, K, h => by
    obtain ⟨h1, h2⟩ := distinct_cons hd
    simp only [List.map_cons, look]
    rcases List.mem_cons.1 h with rfl | h
    · rw [Nat.beq_refl]; rfl
    · have : Nat.beq (f a) (f K) = false := by
        cases hb : Nat.beq (f a) (f K) with
        | false => rfl
        | true => exact absurd (List.mem_map.2 ⟨K, h, (Nat.eq_of_beq_eq_true hb).symm⟩) h1
      rw [this, cond_false]
      exact look_map h2 h
theorem canon0_ok {X : Env} {h : Live} {l : Lv} (hc : canon0 X fr h = some l) (hst : St nt w0 S w A fr tmps) (hp : ∀ s a, S.pin s = some a → s ∈ pinsOf X) : ∃ A', St nt w0 S w A' (Fr.ofLv h l) tmps := by
  unfold canon0 at hc
  replace hc := bif_some hc; obtain ⟨hq, hc⟩ := hc
  simp only [Bool.and_eq_true, List.all_eq_true] at hq
  obtain ⟨⟨⟨hq1, hq2⟩, hq3⟩, hq4⟩ := hq
  simp only at hc
  injection hc with hc
  subst hc
  generalize hrn : (h.tk.map fun K => (srcT fr h K, K)) = rn
  have rn_src : ∀ {t K : Nat}, look t rn = some K → K ∈ h.tk ∧ srcT fr h K = t := fun {t K} hl => by
    have := look_mem' hl
    rw [← hrn] at this
    obtain ⟨K', hK, he⟩ := List.mem_map.1 this
    injection he with e1 e2
    subst e2
    exact ⟨hK, e1⟩
  have rn_look : ∀ {K : Nat}, K ∈ h.tk → look (srcT fr h K) rn = some K := fun {K} hK => by
    rw [← hrn]
    exact look_map (f := srcT fr h) hq4 hK
  have hbx : ∀ s, (Fr.ofLv h ⟨h.tm.map fun t => normV fr h rn (fr.tm t), h.bx.map fun s => ((fr.bx s).map fun b => b.cs.map (normC fr h rn)).getD [], h.tk.filterMap fun t => (fr.tk (srcT fr h t)).map fun k => { k with e := 0 }⟩).bx s = if s ∈ h.bx then some ⟨0, ((fr.bx s).map fun b => b.cs.map (normC fr h rn)).getD []⟩ else none := by
    intro s
    simp only [Fr.ofLv, List.map_map]
    exact zipL_map none (fun s => some (⟨0, ((fr.bx s).map fun b => b.cs.map (normC fr h rn)).getD []⟩ : Bx)) h.bx s
  have htk : ∀ t, (Fr.ofLv h ⟨h.tm.map fun t => normV fr h rn (fr.tm t), h.bx.map fun s => ((fr.bx s).map fun b => b.cs.map (normC fr h rn)).getD [], h.tk.filterMap fun t => (fr.tk (srcT fr h t)).map fun k => { k with e := 0 }⟩).tk t = if t ∈ h.tk then (fr.tk (srcT fr h t)).map (fun k => { k with e := 0 }) else none := by
    intro t
    simp only [Fr.ofLv]
    have e1 : ∀ ks : List Nat, (∀ t ∈ ks, (fr.tk (srcT fr h t)).isSome = true) → (ks.filterMap fun t => (fr.tk (srcT fr h t)).map fun k => ({ k with e := 0 } : Tk)).map some = ks.map fun t => (fr.tk (srcT fr h t)).map fun k => ({ k with e := 0 } : Tk) := by
      intro ks
      induction ks with
      | nil => intro _; rfl
      | cons k ks ih =>
        intro hk
        obtain ⟨y, hy⟩ := Option.isSome_iff_exists.1 (hk k List.mem_cons_self)
        simp [hy, ih fun t ht => hk t (List.mem_cons_of_mem _ ht)]
    rw [e1 h.tk hq3]
    exact zipL_map none (fun t => (fr.tk (srcT fr h t)).map fun k => ({ k with e := 0 } : Tk)) h.tk t
  have htm : ∀ t, (Fr.ofLv h ⟨h.tm.map fun t => normV fr h rn (fr.tm t), h.bx.map fun s => ((fr.bx s).map fun b => b.cs.map (normC fr h rn)).getD [], h.tk.filterMap fun t => (fr.tk (srcT fr h t)).map fun k => { k with e := 0 }⟩).tm t = if t ∈ h.tm then normV fr h rn (fr.tm t) else .any := by
    intro t
    simp only [Fr.ofLv]
    exact zipL_map _ (fun t => normV fr h rn (fr.tm t)) h.tm t
  generalize Fr.ofLv h ⟨h.tm.map fun t => normV fr h rn (fr.tm t), h.bx.map fun s => ((fr.bx s).map fun b => b.cs.map (normC fr h rn)).getD [], h.tk.filterMap fun t => (fr.tk (srcT fr h t)).map fun k => { k with e := 0 }⟩ = fr' at hbx htk htm
  let A' : As := { A with τ := fun K => A.τ (srcT fr h K), ω := fun K => A.ω (srcT fr h K), own := fun k o => match A.own k o with | .t t => (match look t rn with | some K => .t K | none => .none) | x => x }
  have own_b : ∀ {k o s : Nat}, A.own k o = .b s → A'.own k o = .b s := fun {k o s} hh => by simp only [A', hh]
  have rc : ∀ c v, RC fr w A c v → RC fr' w A' (normC fr h rn c) v := by
    rintro c v ⟨h1, h2⟩
    refine ⟨h1, ?_⟩
    cases c with
    | d x => exact h2
    | own t e =>
      obtain ⟨k, hk, he, hv⟩ := h2
      simp only [normC, hk]
      cases hc : Nat.beq k.e e with
      | false => trivial
      | true =>
        cases hl : look t rn with
        | none => trivial
        | some K =>
          obtain ⟨h3, h4⟩ := rn_src hl
          have he := Nat.eq_of_beq_eq_true hc
          refine ⟨{ k with e := 0 }, by rw [htk, if_pos h3, h4, hk]; rfl, Nat.le_refl _, fun _ => ?_⟩
          have := hv he.symm
          simp only [A', h4]
          exact this
    | sub t e off len =>
      obtain ⟨k, hk, he, hv⟩ := h2
      simp only [normC, hk]
      cases hc : Nat.beq k.e e with
      | false => trivial
      | true =>
        cases hl : look t rn with
        | none => trivial
        | some K =>
          obtain ⟨h3, h4⟩ := rn_src hl
          have he := Nat.eq_of_beq_eq_true hc
          refine ⟨{ k with e := 0 }, by rw [htk, if_pos h3, h4, hk]; rfl, Nat.le_refl _, fun _ => ?_⟩
          have := hv he.symm
          simp only [A', h4]
          exact this
    | nil0 => exact h2
    | ptr s e off =>
      obtain ⟨hp, b, hb, he, hv⟩ := h2
      simp only [normC, hb]
      cases hc : (Nat.beq b.e e && liveAt h.bx s) with
      | false => trivial
      | true =>
        simp only [Bool.and_eq_true] at hc
        have := live_mem hc.2
        have he := Nat.eq_of_beq_eq_true hc.1
        exact ⟨hp, _, by rw [hbx, if_pos this], Nat.le_refl _, fun _ => hv he.symm⟩
    | tptr t e i off =>
      obtain ⟨hp, k, hk, he, hv⟩ := h2
      simp only [normC, hk]
      cases hc : Nat.beq k.e e with
      | false => trivial
      | true =>
        cases hl : look t rn with
        | none => trivial
        | some K =>
          obtain ⟨h3, h4⟩ := rn_src hl
          have he := Nat.eq_of_beq_eq_true hc
          refine ⟨hp, { k with e := 0 }, by rw [htk, if_pos h3, h4, hk]; rfl, Nat.le_refl _, fun _ => ?_⟩
          have := hv he.symm
          simp only [A', h4]
          exact this
    | rptr esz row off => exact h2
    | fn f cs => exact h2.elim
    | undef => trivial
  refine ⟨A', hst.ntm, hst.keep, fun t => ?_, fun s b hb => ?_, fun t k hk => ?_, fun k o hi => ?_, hst.ime, hst.eim, fun s a ha => ?_⟩
  · rw [htm]
    split
    · have := hst.tm t
      generalize tmps.getD t Go.undef = u at this
      generalize fr.tm t = v at this
      cases this with
      | one c _ h => exact .one _ _ (rc _ _ h)
      | agg cs vs h =>
        refine .agg _ _ ⟨by simpa using h.1, fun j c v h1 h2 => ?_⟩
        rw [List.getElem?_map] at h1
        obtain ⟨c', h3, rfl⟩ := Option.map_eq_some_iff.1 h1
        exact rc _ _ (h.2 j c' v h3 h2)
      | tup xs vs hl h => exact .any _
      | skip => exact .any _
      | any v => exact .any _
    · exact .any _
  · rw [hbx] at hb
    split at hb
    · rename_i hs
      obtain ⟨b0, hb0⟩ := Option.isSome_iff_exists.1 (hq2 s hs)
      rw [hb0] at hb
      injection hb with hb
      subst hb
      have hh := hst.bx s b0 hb0
      refine ⟨fun j c hj => ?_, fun j hj => hh.free j (by simpa using hj), fun j hj => own_b (hh.own j (by simpa using hj)), fun j hj => hh.may j (by simpa using hj), fun hp => ⟨(hh.whole hp).1, (hh.whole hp).2.1, (hh.whole hp).2.2.1, fun o => own_b ((hh.whole hp).2.2.2 o)⟩⟩
      simp only [Option.map_some, Option.getD_some, List.getElem?_map] at hj
      obtain ⟨c', h3, rfl⟩ := Option.map_eq_some_iff.1 hj
      obtain ⟨v, h4, h5⟩ := hh.cell j c' h3
      exact ⟨v, h4, rc _ _ h5⟩
    · cases hb
  · rw [htk] at hk
    split at hk
    · rename_i hm
      obtain ⟨k0, hk0, rfl⟩ := Option.map_eq_some_iff.1 hk
      have hh := hst.tk _ k0 hk0
      refine ⟨?_, fun g hg o => ?_⟩
      · have := hh.rel
        show TokRel w A.Im w0.heap.size _ (A.τ (srcT fr h t)) (A.ω (srcT fr h t))
        cases hω : A.ω (srcT fr h t) with
        | none => rw [hω] at this; exact this
        | some g => rw [hω] at this; exact this
      · have := hh.own g hg o
        simp only [A', this, rn_look hm]
    · cases hk
  · have hh := hst.im k o hi
    refine ⟨hh.cell, fun s hs => ?_, fun t x h1 h2 h3 => ?_⟩
    · simp only [A'] at hs
      cases ho : A.own k o with
      | none => rw [ho] at hs; cases hs
      | b s' => rw [ho] at hs; exact hh.nob s' ho
      | t t =>
        rw [ho] at hs
        simp only at hs
        split at hs <;> cases hs
    · simp only [A'] at h1
      cases ho : A.own k o with
      | none => rw [ho] at h1; cases h1
      | b s' => rw [ho] at h1; cases h1
      | t t' =>
        rw [ho] at h1
        simp only at h1
        split at h1
        · rename_i K hl
          injection h1 with h1
          subst h1
          obtain ⟨q1, q2⟩ := rn_src hl
          rw [htk, if_pos q1, q2] at h2
          obtain ⟨k0, hk0, rfl⟩ := Option.map_eq_some_iff.1 h2
          have h3' : A.ω t' = some k := by have : A.ω (srcT fr h K) = some k := h3; rwa [q2] at this
          exact hh.tok t' k0 ho hk0 h3'
        · cases h1
  · obtain ⟨b, hb, he⟩ := hst.pin s a ha
    obtain ⟨hl, hz⟩ := hq1 s (hp s a ha)
    rw [hb] at hz
    exact ⟨_, by rw [hbx, if_pos (live_mem hl)], fun _ => he (Nat.eq_of_beq_eq_true hz)⟩

theorem canon_ok {X : Env} {h : Live} {l : Lv} (hc : canon X fr h = some l) (hst : St nt w0 S w A fr tmps) (hp : ∀ s a, S.pin s = some a → s ∈ pinsOf X) : ∃ A', St nt w0 S w A' (Fr.ofLv h l) tmps :=
  canon0_ok hc (hst.freeze h.fz _ rfl).2 hp

/-! ### Places -/
def place : List Bool → Code → List Item → Option (Code × List Item)
  | [], c, k => some (c, k)
  | false :: bs, .seq a b, k => place bs a (.code b :: k)
  | true :: bs, .seq _ b, k => place bs b k
  | false :: bs, .cond _ a _, k => place bs a k
  | true :: bs, .cond _ _ b, k => place bs b k
  | false :: bs, .block id a, k => place bs a (.inBlock id :: k)
  | false :: bs, .loop a, k => place bs a (.inLoop a :: k)
  | false :: bs, .scope a, k => place bs a (.inScope a :: k)
  | _, _, _ => none
def valB (p : Nat) : List Bool → Nat
  | [] => p
  | b :: bs => valB (2 * p + b.toNat) bs
theorem valB_snoc (b : Bool) : ∀ (bs : List Bool) (p : Nat), valB p (bs ++ [b]) = 2 * valB p bs + b.toNat
  | [], _ => rfl
  | _ :: bs, p => valB_snoc b bs _
theorem place_append (cs : List Bool) : ∀ (bs : List Bool) (c : Code) (k : List Item), place (bs ++ cs) c k = (place bs c k).bind fun q => place cs q.1 q.2
  | [], _, _ => rfl
  | b :: bs, c, k => by
    cases b <;> cases c <;> simp only [List.cons_append, place, Option.bind_none] <;> exact place_append cs bs _ _
theorem valB_ge (l : List Bool) : l.length < valB 1 l.reverse := by
  induction l with
  | nil => simp [valB]
  | cons b l ih => rw [List.reverse_cons, valB_snoc, List.length_cons]; omega
theorem bitsF_val : ∀ (l : List Bool) (n : Nat) (acc : List Bool), l.length ≤ n → bitsF n (valB 1 l.reverse) acc = l.reverse ++ acc := by
  intro l
  induction l with
  | nil => intro n acc _; cases n <;> rfl
  | cons b l ih =>
    intro n acc hn
    obtain ⟨m, rfl⟩ : ∃ m, n = m + 1 := ⟨n - 1, by simp at hn; omega⟩
    have hv := valB_ge l
    rw [List.reverse_cons, valB_snoc]
    have e1 : Nat.ble (2 * valB 1 l.reverse + b.toNat) 1 = false := by
      cases hb : Nat.ble (2 * valB 1 l.reverse + b.toNat) 1 with
      | false => rfl
      | true => have := Nat.le_of_ble_eq_true hb; omega
    have e2 : (2 * valB 1 l.reverse + b.toNat) / 2 = valB 1 l.reverse := by cases b <;> simp <;> omega
    have e3 : Nat.beq ((2 * valB 1 l.reverse + b.toNat) % 2) 1 = b := by
      cases b
      · rw [show (2 * valB 1 l.reverse + false.toNat) % 2 = 0 by simp]; rfl
      · rw [show (2 * valB 1 l.reverse + true.toNat) % 2 = 1 by simp]; rfl
    simp only [bitsF, e1, cond_false, e2, e3]
    rw [ih m _ (by simpa using hn)]
    simp
theorem bits_val (bs : List Bool) : bits (valB 1 bs) = bs := by
  have := bitsF_val bs.reverse (valB 1 bs) [] (by have := valB_ge bs.reverse; simp only [List.reverse_reverse] at this; omega)
  simpa [bits] using this

def At (root : Code) (p : Nat) (c : Code) (k : List Item) : Prop := ∃ bs, valB 1 bs = p ∧ place bs root [] = some (c, k)
theorem At.child {root c c' : Code} {p : Nat} {k k' : List Item} (h : At root p c k) (b : Bool) (hb : place [b] c k = some (c', k')) : At root (2 * p + b.toNat) c' k' := by
  obtain ⟨bs, rfl, hp⟩ := h
  exact ⟨bs ++ [b], valB_snoc b bs 1, by rw [place_append, hp]; exact hb⟩
theorem At.root (root : Code) : At root 1 root [] := ⟨[], rfl, rfl⟩
theorem At.bits {root c : Code} {p : Nat} {k : List Item} (h : At root p c k) : place (bits p) root [] = some (c, k) := by
  obtain ⟨bs, rfl, hp⟩ := h
  rw [bits_val]; exact hp

/-! ### Code -/
def Good (P : Program) (b : Frame) (cs : List Frame) (R : Act → World → Prop) (m : Machine) : Prop := ∃ a w todo, Steps P m (lone { b.at a todo with mode := .returning } cs w) ∧ a.defers = [] ∧ R a w
section code
variable {b : Frame} {cs : List Frame} {R : Act → World → Prop}
theorem Good.steps {m m' : Machine} (h : Steps P m m') (g : Good P b cs R m') : Good P b cs R m := by
  obtain ⟨a, w, todo, h1, h2⟩ := g
  exact ⟨a, w, todo, h.trans h1, h2⟩
theorem Good.head {m m' : Machine} (h : step P m = .next m') (g : Good P b cs R m') : Good P b cs R m := g.steps (.one h)

variable {X : Env} {r : List D}
structure KsOk (X : Env) (b : Frame) (cs : List Frame) (w0 : World) (S : Sp) (R : Act → World → Prop) (r : List D) (K : Ks) (k : List Item) : Prop where
  nx : ∀ fr w A a, K.nx fr = some r → St X.nt w0 S w A fr a.tmps → a.defers = [] → Good X.P b cs R (lone (b.at a k) cs w)
  ex : ∀ i fr w A a, K.ex i fr = some r → St X.nt w0 S w A fr a.tmps → a.defers = [] → ∃ k', exitTo i k = some k' ∧ Good X.P b cs R (lone (b.at a k') cs w)
  rt : ∀ fr w A a, K.rt fr = some r → St X.nt w0 S w A fr a.tmps → a.defers = [] → R a w

theorem region_ok (hN : NoNum X.P) (hC : ∀ g as r, X.call g as = some r → Con X.P X.H g as r) (hm : X.P.follows .mixedOrders = true) {id : Nat} {ops : Array Oper} {draw : Bool} {K : Fr → Option (List D)} (h : regionF X ops draw fr K = some r)
    {a : Act} (hst : St X.nt w0 S w A fr a.tmps) {N : Act → World → Prop} (hQ : ∀ fr' w' A' a', K fr' = some r → St X.nt w0 S w' A' fr' a'.tmps → a'.defers = a.defers → N a' w') :
    (Code.region id ops draw).wp X.P (fun e a' w' => e = .normal ∧ N a' w') a w := by
  have hb : ∀ o ∈ ops, ∀ d, o.dst = some d → d < X.nt := by
    unfold regionF at h
    replace h := bif_some h
    intro o ho d hd
    have := List.all_eq_true.1 h.1 o (Array.mem_def.1 ho)
    rw [hd] at this
    exact Nat.le_of_ble_eq_true this
  cases draw with
  | true =>
    refine wp_region_any hm (draw_ok hN hC hb h (A := A) ?_ fun fr' w' A' a' h1 h2 h3 => ⟨rfl, hQ fr' w' A' a' h1 h2 h3⟩)
    exact hst.drew
  | false =>
    refine wp_region ?_
    unfold regionF at h
    replace h := (bif_some h).2
    have := opsF_ok hN hC hb (Q := fun e a' w' => e = .normal ∧ N a' w') ops.toList 0 fr [] _ (fun j => by simp) h w A a hst fun fr' acc' w' A' a' h1 h2 h3 => ⟨rfl, hQ fr' w' A' a' h1 h2 h3⟩
    rw [List.range_eq_range']
    simpa using this

variable (hN : NoNum X.P) (hC : ∀ g as r, X.call g as = some r → Con X.P X.H g as r) (hm : X.P.follows .mixedOrders = true) {root : Code} (hp : ∀ s a, S.pin s = some a → s ∈ pinsOf X)
  (hk : ∀ p h l c k w A a, At root p c k → look p (X.H X.f).cuts = some h → X.kont p l = some r → St X.nt w0 S w A (Fr.ofLv h l) a.tmps → a.defers = [] → Good X.P b cs R (lone (b.at a (.code c :: k)) cs w))
include hN hC hm hp hk

omit hp hk in
theorem region_good {id : Nat} {ops : Array Oper} {draw : Bool} {K : Ks} {k : List Item} (h : regionF X ops draw fr K.nx = some r) {a : Act} (hst : St X.nt w0 S w A fr a.tmps) (hd : a.defers = []) (hK : KsOk X b cs w0 S R r K k) :
    Good X.P b cs R (lone (b.at a (.code (.region id ops draw) :: k)) cs w) := by
  obtain ⟨e, a', w', ⟨rfl, g⟩, harr⟩ := region_ok hN hC hm (id := id) h hst (N := fun a' w' => Good X.P b cs R (lone (b.at a' k) cs w')) (fun fr' w' A' a' h1 h2 h3 => hK.nx fr' w' A' a' h1 h2 (h3.trans hd)) b k cs
  exact g.steps harr

theorem ev_ok : ∀ (c : Code) (p : Nat) (fr : Fr) (K : Ks) (k : List Item) (w : World) (A : As) (a : Act), At root p c k → ev X p c fr K = some r → KsOk X b cs w0 S R r K k → St X.nt w0 S w A fr a.tmps → a.defers = [] →
    Good X.P b cs R (lone (b.at a (.code c :: k)) cs w) := by
  intro c
  induction c with
  | skip => intro p fr K k w A a hat h hK hst hd; exact (hK.nx fr w A a h hst hd).head step_skip
  | region id ops draw =>
    intro p fr K k w A a hat h hK hst hd
    simp only [ev] at h
    split at h
    · rename_i hh hl
      split at h
      · rename_i l hc
        obtain ⟨A', hst'⟩ := canon_ok hc hst hp
        exact hk p hh l _ k w A' a hat hl h hst' hd
      · cases h
    · exact region_good hN hC hm h hst hd hK
  | seq x y ihx ihy =>
    intro p fr K k w A a hat h hK hst hd
    simp only [ev] at h
    refine (ihx (2 * p) fr _ (.code y :: k) w A a (hat.child false rfl) h ⟨fun fr w A a h hst hd => ?_, fun i fr w A a h hst hd => ?_, hK.rt⟩ hst hd).head step_seq
    · exact ihy (2 * p + 1) fr K k w A a (hat.child true rfl) h hK hst hd
    · simp only [exitTo]; exact hK.ex i fr w A a h hst hd
  | cond c x y ihx ihy =>
    intro p fr K k w A a hat h hK hst hd
    simp only [ev, splitB] at h
    split at h
    · rename_i bb
      refine Good.head (step_cond (t := bb) rfl) ?_
      cases bb
      · exact ihy (2 * p + 1) fr K k w A a (hat.child true rfl) h hK hst hd
      · exact ihx (2 * p) fr K k w A a (hat.child false rfl) h hK hst hd
    · rename_i t
      split at h
      · rename_i x hx
        replace h := takeB_some h; obtain ⟨bb, rfl, h⟩ := h
        have hv := hst.tm t
        rw [hx] at hv
        have hst' : St X.nt w0 S w A { fr with tm := upd fr.tm t (.one (.d (.bool bb))) } a.tmps := hst.know t _ hv
        refine Good.head (step_cond (t := bb) hv.d_inv.bool_inv) ?_
        cases bb
        · exact ihy (2 * p + 1) _ K k w A a (hat.child true rfl) h hK hst' hd
        · exact ihx (2 * p) _ K k w A a (hat.child false rfl) h hK hst' hd
      · cases h
    · cases h
  | block id x ih =>
    intro p fr K k w A a hat h hK hst hd
    simp only [ev] at h
    refine (ih (2 * p) fr _ (.inBlock id :: k) w A a (hat.child false rfl) h ⟨fun fr w A a h hst hd => (hK.nx fr w A a h hst hd).head step_inBlock, fun i fr w A a h hst hd => ?_, hK.rt⟩ hst hd).head step_block
    simp only [exitTo]
    replace h : (bif Nat.beq i id then K.nx fr else K.ex i fr) = some r := h
    cases hb : Nat.beq i id with
    | true =>
      have := Nat.eq_of_beq_eq_true hb
      subst this
      rw [hb, cond_true] at h
      exact ⟨k, by simp, hK.nx fr w A a h hst hd⟩
    | false =>
      rw [hb, cond_false] at h
      rw [if_neg]
      · exact hK.ex i fr w A a h hst hd
      · intro e
        have : id = i := by simpa using e
        subst this
        rw [Nat.beq_refl] at hb; cases hb
  | loop x ih =>
    intro p fr K k w A a hat h hK hst hd
    simp only [ev] at h
    exact (ih (2 * p) fr _ (.inLoop x :: k) w A a (hat.child false rfl) h ⟨fun fr w A a h hst hd => (by cases h), fun i fr w A a h hst hd => (by simp only [exitTo]; exact hK.ex i fr w A a h hst hd), hK.rt⟩ hst hd).head step_loop
  | scope x ih =>
    intro p fr K k w A a hat h hK hst hd
    simp only [ev] at h
    exact (ih (2 * p) fr _ (.inScope x :: k) w A a (hat.child false rfl) h ⟨fun fr w A a h hst hd => (hK.nx fr w A a h hst hd).head step_inScope, fun i fr w A a h hst hd => (by simp only [exitTo]; exact hK.ex i fr w A a h hst hd), hK.rt⟩ hst hd).head step_scope
  | exit id =>
    intro p fr K k w A a hat h hK hst hd
    obtain ⟨k', h1, h2⟩ := hK.ex id fr w A a h hst hd
    exact h2.head (step_exit h1)
  | ret =>
    intro p fr K k w A a hat h hK hst hd
    exact ⟨a, w, _, .one step_ret, hd, hK.rt fr w A a h hst hd⟩
  | _ => intro p fr K k w A a hat h hK hst hd; cases h

theorem evAt_ok : ∀ (bs : List Bool) (c : Code) (p : Nat) (fr : Fr) (K : Ks) (k : List Item) (w : World) (A : As) (a : Act), At root p c k → evAt X bs p c fr K = some r → KsOk X b cs w0 S R r K k → St X.nt w0 S w A fr a.tmps → a.defers = [] →
    ∃ c' k', place bs c k = some (c', k') ∧ Good X.P b cs R (lone (b.at a (.code c' :: k')) cs w) := by
  intro bs
  induction bs with
  | nil =>
    intro c p fr K k w A a hat h hK hst hd
    cases c with
    | region id ops draw => exact ⟨_, _, rfl, region_good hN hC hm h hst hd hK⟩
    | _ => cases h
  | cons bb bs ih =>
    intro c p fr K k w A a hat h hK hst hd
    cases c with
    | seq x y =>
      cases bb with
      | false =>
        simp only [evAt] at h
        exact ih x (2 * p) fr _ (.code y :: k) w A a (hat.child false rfl) h ⟨fun fr w A a h hst hd => ev_ok hN hC hm hp hk y (2 * p + 1) fr K k w A a (hat.child true rfl) h hK hst hd, fun i fr w A a h hst hd => (by simp only [exitTo]; exact hK.ex i fr w A a h hst hd), hK.rt⟩ hst hd
      | true => simp only [evAt] at h; exact ih y (2 * p + 1) fr K k w A a (hat.child true rfl) h hK hst hd
    | cond c x y =>
      cases bb with
      | false => simp only [evAt] at h; exact ih x (2 * p) fr K k w A a (hat.child false rfl) h hK hst hd
      | true => simp only [evAt] at h; exact ih y (2 * p + 1) fr K k w A a (hat.child true rfl) h hK hst hd
    | block id x =>
      cases bb with
      | true => cases h
      | false =>
        simp only [evAt] at h
        refine ih x (2 * p) fr _ (.inBlock id :: k) w A a (hat.child false rfl) h ⟨fun fr w A a h hst hd => (hK.nx fr w A a h hst hd).head step_inBlock, fun i fr w A a h hst hd => ?_, hK.rt⟩ hst hd
        simp only [exitTo]
        replace h : (bif Nat.beq i id then K.nx fr else K.ex i fr) = some r := h
        cases hb : Nat.beq i id with
        | true =>
          have := Nat.eq_of_beq_eq_true hb
          subst this
          rw [hb, cond_true] at h
          exact ⟨k, by simp, hK.nx fr w A a h hst hd⟩
        | false =>
          rw [hb, cond_false] at h
          rw [if_neg]
          · exact hK.ex i fr w A a h hst hd
          · intro e
            have : id = i := by simpa using e
            subst this
            rw [Nat.beq_refl] at hb; cases hb
    | loop x =>
      cases bb with
      | true => cases h
      | false =>
        simp only [evAt] at h
        refine ih x (2 * p) fr _ (.inLoop x :: k) w A a (hat.child false rfl) h ⟨fun fr w A a h hst hd => ?_, fun i fr w A a h hst hd => (by simp only [exitTo]; exact hK.ex i fr w A a h hst hd), hK.rt⟩ hst hd
        exact (ev_ok hN hC hm hp hk x (2 * p) fr _ (.inLoop x :: k) w A a (hat.child false rfl) h ⟨fun fr w A a h hst hd => (by cases h), fun i fr w A a h hst hd => (by simp only [exitTo]; exact hK.ex i fr w A a h hst hd), hK.rt⟩ hst hd).head step_inLoop
    | scope x =>
      cases bb with
      | true => cases h
      | false =>
        simp only [evAt] at h
        exact ih x (2 * p) fr _ (.inScope x :: k) w A a (hat.child false rfl) h ⟨fun fr w A a h hst hd => (hK.nx fr w A a h hst hd).head step_inScope, fun i fr w A a h hst hd => (by simp only [exitTo]; exact hK.ex i fr w A a h hst hd), hK.rt⟩ hst hd
    | _ => cases bb <;> cases h
end code
end Go.Vm
