/-
  Freezing of values, and the elements of a slice as they stand in memory. Under no condition.
-/
import Derived.Test.YtachdfhodbdoiaaDoorVsD
namespace Go.Vs
open Go

section
variable {B0 : Nat} {lk lk' : Locks} {σ : Sig} {st : Store} {w w' : World}

/-- Two lists, value by value. -/
def RelL (lk : Locks) (σ : Sig) (cs : List PV) (us : List Value) : Prop := cs.length = us.length ∧ ∀ (j : Nat) c v, cs[j]? = some c → us[j]? = some v → Rel lk σ c v

theorem RelL.nil : RelL lk σ [] [] := ⟨rfl, fun j c v h _ => by simp at h⟩
theorem RelL.cons {c : PV} {v : Value} {cs : List PV} {us : List Value} (h : Rel lk σ c v) (hs : RelL lk σ cs us) : RelL lk σ (c :: cs) (v :: us) :=
  ⟨by simp [hs.1], fun j c' v' hc hv => by
    cases j with
    | zero => simp at hc hv; subst hc; subst hv; exact h
    | succ j => simp at hc hv; exact hs.2 j c' v' hc hv⟩
theorem RelL.uncons {c : PV} {cs : List PV} {us : List Value} (h : RelL lk σ (c :: cs) us) : ∃ v us', us = v :: us' ∧ Rel lk σ c v ∧ RelL lk σ cs us' := by
  cases us with
  | nil => have := h.1; simp at this
  | cons v us' => exact ⟨v, us', rfl, h.2 0 c v (by simp) (by simp), by have := h.1; simpa using this, fun j c' v' hc hv => h.2 (j + 1) c' v' (by simpa using hc) (by simpa using hv)⟩
theorem RelL.nil_inv {us : List Value} (h : RelL lk σ [] us) : us = [] := List.eq_nil_of_length_eq_zero (by have := h.1; simpa using this.symm)
theorem RelL.mono {cs : List PV} {us : List Value} (h : RelL lk σ cs us) {σ' : Sig} (hl : ∀ a u, lk a = some u → lk' a = some u) (hs : ∀ i g L, σ i g = some L → σ' i g = some L) : RelL lk' σ' cs us :=
  ⟨h.1, fun j c v hc hv => (h.2 j c v hc hv).mono hl hs⟩
theorem RelL.step {σ' : Sig} {st' : Store} {cs : List PV} {us : List Value} (h : RelL lk σ cs us) (hs : Step lk σ st w lk' σ' st' w') : RelL lk' σ' cs us := h.mono hs.lks hs.sig
theorem Rel.agg_iff {cs : List PV} {u : Value} (h : Rel lk σ (.agg cs) u) : ∃ vs : List Value, u = .agg vs.toArray ∧ RelL lk σ cs vs := by
  cases h with
  | @agg _ _ vs hl h => exact ⟨vs.toList, by simp, by simpa using hl, fun j c v hc hv => h j c v hc (by simpa using hv)⟩
theorem Rel.tup_iff {cs : List PV} {u : Value} (h : Rel lk σ (.tup cs) u) : ∃ vs : List Value, u = .tuple vs.toArray ∧ RelL lk σ cs vs := by
  cases h with
  | @tup _ _ vs hl h => exact ⟨vs.toList, by simp, by simpa using hl, fun j c v hc hv => h j c v hc (by simpa using hv)⟩
theorem Rel.mk_agg {cs : List PV} {vs : List Value} (h : RelL lk σ cs vs) : Rel lk σ (.agg cs) (.agg vs.toArray) :=
  .agg (by simpa using h.1) (fun j c v hc hv => h.2 j c v hc (by simpa using hv))
theorem Rel.mk_tup {cs : List PV} {vs : List Value} (h : RelL lk σ cs vs) : Rel lk σ (.tup cs) (.tuple vs.toArray) :=
  .tup (by simpa using h.1) (fun j c v hc hv => h.2 j c v hc (by simpa using hv))

theorem Sim.frz1 (hS : Sim B0 lk σ st w) {keep : Bool} {p p' : PV} {u : Value} {st' : Store} (hp : Rel lk σ p u) (h : frz1 keep st p = some (p', st')) :
    ∃ lk', Rel lk' σ p' u ∧ Sim B0 lk' σ st' w ∧ Step lk σ st w lk' σ st' w := by
  cases p with
  | row id g =>
    simp only [Vs.frz1] at h
    obtain ⟨B, hB, h⟩ := bind_some h
    by_cases hc : B.isRow = true ∧ B.es.length = g ∧ (B.es.all fun e => e.all (ref1 0)) = true
    · rw [if_pos hc] at h
      obtain ⟨h1, h2, h3⟩ := hc
      simp only [Option.some.injEq, Prod.mk.injEq] at h
      obtain ⟨rfl, rfl⟩ := h
      subst h2
      cases hp with
      | @row _ _ _ L hL hcap =>
        have hg : B.gen = B.es.length := by simp [Box.gen, h1]
        rw [← hg] at hL
        exact hS.frzRow hB hL h1 h3
    · rw [if_neg hc] at h; cases h
  | nilsl =>
    simp only [Vs.frz1, Option.some.injEq, Prod.mk.injEq] at h
    obtain ⟨rfl, rfl⟩ := h
    refine ⟨lk, ?_, hS, Step.refl⟩
    cases hp
    cases keep
    · exact .slnil
    · exact .nilsl
  | arr id off n => simp [Vs.frz1] at h
  | _ =>
    simp only [Vs.frz1, Option.some.injEq, Prod.mk.injEq] at h
    obtain ⟨rfl, rfl⟩ := h
    exact ⟨lk, hp, hS, Step.refl⟩

theorem Sim.frzL {keep : Bool} : ∀ {lk : Locks} {st : Store} (_ : Sim B0 lk σ st w) (ps : List PV) {ps' : List PV} {us : List Value} {st' : Store} (_ : RelL lk σ ps us) (_ : frzL keep st ps = some (ps', st')),
    ∃ lk', RelL lk' σ ps' us ∧ Sim B0 lk' σ st' w ∧ Step lk σ st w lk' σ st' w
  | lk, st, hS, [], ps', us, st', hp, h => by
    simp only [Vs.frzL, Option.some.injEq, Prod.mk.injEq] at h
    obtain ⟨rfl, rfl⟩ := h
    exact ⟨lk, hp, hS, Step.refl⟩
  | lk, st, hS, p :: r, ps', us, st', hp, h => by
    simp only [Vs.frzL] at h
    obtain ⟨⟨p1, st1⟩, h1, h⟩ := bind_some h
    obtain ⟨⟨r1, st2⟩, h2, h⟩ := bind_some h
    simp only [Option.some.injEq, Prod.mk.injEq] at h
    obtain ⟨rfl, rfl⟩ := h
    obtain ⟨v, us', rfl, hv, hr⟩ := hp.uncons
    obtain ⟨lk1, a1, a2, a3⟩ := hS.frz1 hv h1
    obtain ⟨lk2, b1, b2, b3⟩ := Sim.frzL a2 r (hr.step a3) h2
    exact ⟨lk2, .cons (a1.step b3) b1, b2, a3.trans b3⟩

theorem Sim.frz2 (hS : Sim B0 lk σ st w) {keep : Bool} {p p' : PV} {u : Value} {st' : Store} (hp : Rel lk σ p u) (h : frz2 keep st p = some (p', st')) :
    ∃ lk', Rel lk' σ p' u ∧ Sim B0 lk' σ st' w ∧ Step lk σ st w lk' σ st' w := by
  cases p with
  | agg cs =>
    simp only [Vs.frz2] at h
    obtain ⟨⟨cs1, st1⟩, h1, h⟩ := bind_some h
    simp only [Option.some.injEq, Prod.mk.injEq] at h
    obtain ⟨rfl, rfl⟩ := h
    obtain ⟨vs, rfl, hv⟩ := hp.agg_iff
    obtain ⟨lk1, a1, a2, a3⟩ := hS.frzL cs hv h1
    exact ⟨lk1, .mk_agg a1, a2, a3⟩
  | _ => exact hS.frz1 (keep := keep) hp h

theorem Sim.frzA {keep : Bool} : ∀ {lk : Locks} {st : Store} (_ : Sim B0 lk σ st w) (ps : List PV) {ps' : List PV} {us : List Value} {st' : Store} (_ : RelL lk σ ps us) (_ : frzA keep st ps = some (ps', st')),
    ∃ lk', RelL lk' σ ps' us ∧ Sim B0 lk' σ st' w ∧ Step lk σ st w lk' σ st' w
  | lk, st, hS, [], ps', us, st', hp, h => by
    simp only [Vs.frzA, Option.some.injEq, Prod.mk.injEq] at h
    obtain ⟨rfl, rfl⟩ := h
    exact ⟨lk, hp, hS, Step.refl⟩
  | lk, st, hS, p :: r, ps', us, st', hp, h => by
    simp only [Vs.frzA] at h
    obtain ⟨⟨p1, st1⟩, h1, h⟩ := bind_some h
    obtain ⟨⟨r1, st2⟩, h2, h⟩ := bind_some h
    simp only [Option.some.injEq, Prod.mk.injEq] at h
    obtain ⟨rfl, rfl⟩ := h
    obtain ⟨v, us', rfl, hv, hr⟩ := hp.uncons
    obtain ⟨lk1, a1, a2, a3⟩ := hS.frz2 hv h1
    obtain ⟨lk2, b1, b2, b3⟩ := Sim.frzA a2 r (hr.step a3) h2
    exact ⟨lk2, .cons (a1.step b3) b1, b2, a3.trans b3⟩

theorem Sim.frz3 (hS : Sim B0 lk σ st w) {keep : Bool} {p p' : PV} {u : Value} {st' : Store} (hp : Rel lk σ p u) (h : frz3 keep st p = some (p', st')) :
    ∃ lk', Rel lk' σ p' u ∧ Sim B0 lk' σ st' w ∧ Step lk σ st w lk' σ st' w := by
  cases p with
  | tup cs =>
    simp only [Vs.frz3] at h
    obtain ⟨⟨cs1, st1⟩, h1, h⟩ := bind_some h
    simp only [Option.some.injEq, Prod.mk.injEq] at h
    obtain ⟨rfl, rfl⟩ := h
    obtain ⟨vs, rfl, hv⟩ := hp.tup_iff
    obtain ⟨lk1, a1, a2, a3⟩ := hS.frzA cs hv h1
    exact ⟨lk1, .mk_tup a1, a2, a3⟩
  | _ => exact hS.frz2 (keep := keep) hp h

/-! ### the elements of a slice -/
theorem flat_get {α : Type _} {size : Nat} (hsz : 0 < size) : ∀ (es : List (List α)), (∀ e ∈ es, e.length = size) → ∀ k : Nat, es.flatten[k]? = (es[k / size]?).bind fun e => e[k % size]?
  | [], _, k => by simp
  | e :: r, h, k => by
    have he : e.length = size := h e (by simp)
    rw [List.flatten_cons]
    by_cases hk : k < size
    · rw [List.getElem?_append_left (by omega), Nat.div_eq_of_lt hk, Nat.mod_eq_of_lt hk]
      simp
    · rw [List.getElem?_append_right (by omega), flat_get hsz r (fun e he => h e (by simp [he])), he]
      have h1 : k / size = (k - size) / size + 1 := by
        rw [Nat.div_eq_sub_div hsz (by omega)]
      have h2 : k % size = (k - size) % size := by rw [Nat.mod_eq_sub_mod (by omega)]
      rw [h1, h2]
      simp
theorem flat_length {α : Type _} {size : Nat} : ∀ (es : List (List α)), (∀ e ∈ es, e.length = size) → es.flatten.length = es.length * size
  | [], _ => by simp
  | e :: r, h => by
    rw [List.flatten_cons, List.length_append, flat_length r (fun e he => h e (by simp [he])), h e (by simp)]
    simp [Nat.add_mul]; omega

/-- A slice's elements, as cells in memory. -/
structure Elems (lk : Locks) (σ : Sig) (w : World) (es : List (List PV)) (u : Value) (news : List Value) : Prop where
  rel : RelL lk σ es.flatten news
  at_ : (u = .slice none 0 0 ∧ es = []) ∨ ∃ a cap, u = .slice (some a) es.length cap ∧ es.length ≤ cap ∧ ∀ (j : Nat) v, news[j]? = some v → w.cell? (a.add j) = some v

theorem cells_of_fun {size : Nat} (hsz : 0 < size) {es : List (List PV)} (hes : ∀ e ∈ es, e.length = size) (f : Nat → Option Value)
    (h : ∀ i e, es[i]? = some e → ∀ (j : Nat) v, e[j]? = some v → ∃ u, f (i * size + j) = some u ∧ Rel lk σ v u) :
    ∃ news : List Value, RelL lk σ es.flatten news ∧ ∀ (j : Nat) v, news[j]? = some v → f j = some v := by
  have hlen := flat_length es hes
  have hget : ∀ k, k < es.length * size → ∃ c u, es.flatten[k]? = some c ∧ f k = some u ∧ Rel lk σ c u := by
    intro k hk
    have hi : k / size < es.length := Nat.div_lt_of_lt_mul (by rw [Nat.mul_comm]; exact hk)
    have hj : k % size < size := Nat.mod_lt _ hsz
    have he := List.getElem?_eq_getElem hi
    have hel : es[k / size].length = size := hes _ (List.getElem_mem hi)
    have hv := List.getElem?_eq_getElem (show k % size < es[k / size].length by omega)
    obtain ⟨u, hu, hr⟩ := h _ _ he _ _ hv
    refine ⟨_, u, ?_, ?_, hr⟩
    · rw [flat_get hsz es hes, he]; exact hv
    · rw [← hu]; congr 1; exact (Nat.div_add_mod' k size).symm
  refine ⟨(List.range (es.length * size)).map fun k => (f k).getD undef, ⟨by simp [hlen], fun j c v hc hv => ?_⟩, fun j v hv => ?_⟩
  · have hj : j < es.length * size := by have := (List.getElem?_eq_some_iff.1 hv).1; simpa using this
    obtain ⟨c', u, h1, h2, h3⟩ := hget j hj
    rw [h1] at hc
    obtain rfl := Option.some.inj hc
    simp [hj, h2] at hv
    subst hv; exact h3
  · have hj : j < es.length * size := by have := (List.getElem?_eq_some_iff.1 hv).1; simpa using this
    obtain ⟨c', u, h1, h2, h3⟩ := hget j hj
    simp [hj, h2] at hv
    subst hv; exact h2

theorem Sim.elems (hS : Sim B0 lk σ st w) {p : PV} {u : Value} {es : List (List PV)} {size : Nat} (hsz : 0 < size) (hp : Rel lk σ p u) (he : elemsOf st p = some es) (hes : ∀ e ∈ es, e.length = size) :
    ∃ news, Elems lk σ w es u news := by
  cases hp with
  | nilsl =>
    simp only [elemsOf, Option.some.injEq] at he
    subst he
    exact ⟨[], RelL.nil, .inl ⟨rfl, rfl⟩⟩
  | slnil =>
    simp only [elemsOf, Option.some.injEq] at he
    subst he
    exact ⟨[], RelL.nil, .inl ⟨rfl, rfl⟩⟩
  | @sle _ ad cap =>
    simp only [elemsOf, Option.some.injEq] at he
    subst he
    exact ⟨[], RelL.nil, .inr ⟨ad, cap, rfl, by simp, fun j v hj => by simp at hj⟩⟩
  | @sl _ es' b off sz cap u hs hc hu hr =>
    simp only [elemsOf, Option.some.injEq] at he
    subst he
    obtain ⟨news, h1, h2⟩ := cells_of_fun (lk := lk) (σ := σ) hsz hes (fun k => w.cell? ⟨b, off + k, none⟩) (fun i e hi j v hv => by
      have hsz' : sz = size := (hs i e hi).symm.trans (hes e (List.mem_of_getElem? hi))
      subst hsz'
      refine ⟨u i j, ?_, (hr i e hi j v hv).mono (fun _ _ h => h) (fun _ _ _ h => by simp [sig0] at h)⟩
      have := (hS.locked _ _ (hu i e hi j v hv)).2
      rw [← this, Nat.add_assoc])
    exact ⟨news, h1, .inr ⟨_, cap, rfl, hc, fun j v hv => by rw [Addr.add_mid]; exact h2 j v hv⟩⟩
  | @row _ id g L hL hcap =>
    simp only [elemsOf] at he
    obtain ⟨B, hB, he⟩ := bind_some he
    by_cases hc : B.isRow = true ∧ B.es.length = g
    · rw [if_pos hc] at he
      obtain rfl := Option.some.inj he
      obtain ⟨hrow, rfl⟩ := hc
      have hg : B.gen = B.es.length := by simp [Box.gen, hrow]
      rw [← hg] at hL
      have hbox := (hS.boxes id B L hB hL).1
      obtain ⟨cur, fr, h1, h2, h3, h4, h5⟩ := hbox.cells
      obtain ⟨news, h6, h7⟩ := cells_of_fun (lk := lk) (σ := σ) hsz hes (fun k => w.cell? ⟨L.b, k, none⟩) (fun i e hi j v hv => by
        have hsz' : L.size = size := (hbox.size hrow).1.trans ((hbox.each hrow i e hi).symm.trans (hes e (List.mem_of_getElem? hi)))
        obtain ⟨u, hu, hr⟩ := h5 i e hi j v hv
        exact ⟨u, by show w.cell? _ = _; rw [cell_of_row w L.b _ cur B.e fr h1, ← hsz']; exact hu, hr⟩)
      exact ⟨news, h6, .inr ⟨_, L.cap, rfl, hcap, fun j v hv => by rw [Addr.add_mid, Nat.zero_add]; exact h7 j v hv⟩⟩
    · rw [if_neg hc] at he; cases he
  | @arr _ id off n cap L hL hcap =>
    simp only [elemsOf] at he
    obtain ⟨B, hB, he⟩ := bind_some he
    by_cases hc : B.isRow = false
    · rw [if_pos hc] at he
      obtain ⟨cs, hcs, he⟩ := bind_some he
      by_cases hn : off + n ≤ cs.length
      · rw [if_pos hn] at he
        obtain rfl := Option.some.inj he
        have hg : B.gen = 0 := by simp [Box.gen, hc]
        rw [← hg] at hL
        have hbox := (hS.boxes id B L hB hL).1
        obtain ⟨cur, fr, h1, h2, h3, h4, h5⟩ := hbox.cells
        have hlen : (((cs.drop off).take n).map fun c => [c]).length = n := by simp; omega
        by_cases hn0 : n = 0
        · subst hn0
          refine ⟨[], by simpa using RelL.nil, .inr ⟨_, cap, by simp; rfl, by simp, fun j v hv => by simp at hv⟩⟩
        · have h1z : size = 1 := by
            have : ([cs[off]'(by omega)] : List PV) ∈ (((cs.drop off).take n).map fun c => [c]) := by
              refine List.mem_map.2 ⟨_, List.mem_iff_getElem?.2 ⟨0, ?_⟩, rfl⟩
              rw [List.getElem?_take_of_lt (by omega), List.getElem?_drop]
              exact List.getElem?_eq_getElem (by omega)
            have := hes _ this
            simpa using this.symm
          subst h1z
          obtain ⟨news, h6, h7⟩ := cells_of_fun (lk := lk) (σ := σ) hsz hes (fun k => w.cell? ⟨L.b, off + k, none⟩) (fun i e hi j v hv => by
            have hi' : i < n := by have := (List.getElem?_eq_some_iff.1 hi).1; omega
            rw [List.getElem?_map, List.getElem?_take_of_lt hi', List.getElem?_drop] at hi
            cases hx : cs[off + i]? with
            | none => rw [hx] at hi; cases hi
            | some c =>
              rw [hx] at hi
              simp at hi
              subst hi
              have hj : j = 0 := by have := (List.getElem?_eq_some_iff.1 hv).1; simp at this; omega
              subst hj
              simp at hv
              subst hv
              obtain ⟨u, hu, hr⟩ := h5 0 cs hcs (off + i) c hx
              refine ⟨u, ?_, hr⟩
              show w.cell? _ = _
              rw [cell_of_row w L.b _ cur B.e fr h1]
              simpa using hu)
          refine ⟨news, h6, .inr ⟨_, cap, by rw [hlen], by rw [hlen]; exact hcap, fun j v hv => by rw [Addr.add_mid]; exact h7 j v hv⟩⟩
      · rw [if_neg hn] at he; cases he
    · rw [if_neg hc] at he; cases he
  | @arr0 _ id off cap L a hL =>
    simp only [elemsOf] at he
    obtain ⟨B, hB, he⟩ := bind_some he
    by_cases hc : B.isRow = false
    · rw [if_pos hc] at he
      obtain ⟨cs, hcs, he⟩ := bind_some he
      by_cases hn : off + 0 ≤ cs.length
      · rw [if_pos hn] at he
        obtain rfl := Option.some.inj he
        refine ⟨[], by simpa using RelL.nil, .inr ⟨a, cap, by simp, by simp, fun j v hv => by simp at hv⟩⟩
      · rw [if_neg hn] at he; cases he
    · rw [if_neg hc] at he; cases he
  | _ => simp [elemsOf] at he
end
end Go.Vs
