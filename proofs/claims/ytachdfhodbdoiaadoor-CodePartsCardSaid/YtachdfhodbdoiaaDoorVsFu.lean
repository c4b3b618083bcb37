/-
  The evaluator does the same wherever the boxes lie: code, calls; a call that was run in a store of its own may be run in any. Under no condition.
-/
import Derived.Test.YtachdfhodbdoiaaDoorVsFt
namespace Go.Vs
open Go
section
variable {ρ ρ' ρ'' : List Nat} {st st' big big' big'' : Store} {s s' : Slots} {v w : PV} {E : Req → Option Res} {gl : Nat → List PV}

theorem wantedE_sh (hs : SlotR ρ s s') {g : Option (Nat × Bool)} {b : Bool} (h : wantedE s g = some b) : wantedE s' g = some b := by
  cases g with
  | none => exact h
  | some p =>
    obtain ⟨t, c⟩ := p
    simp only [wantedE] at h ⊢
    have ht := hs t
    cases hv : s t <;> rw [hv] at h ht <;> (try simp only [] at h) <;> (try (cases h; done))
    · rw [ht.bool_inv]; exact h
    · obtain ⟨ds, h1, _⟩ := ht.tup_inv
      rw [h1]; exact h

theorem ops_sh (hE : RE E) (hgl : ∀ g, ∀ c ∈ gl g, Free c) : ∀ {ops : List CInstr} {s s' : Slots} {st big : Store} {ρ : List Nat} {x : Slots × Store} (_ : (ops.all fun i => okOp i.op) = true) (_ : evalOps E gl ops s st = some x) (_ : SlotR ρ s s') (_ : SR ρ st big),
    ∃ ρ' y, evalOps E gl ops s' big = some y ∧ SlotR ρ' x.1 y.1 ∧ SR ρ' x.2 y.2 ∧ Grow ρ big ρ' y.2
  | [], s, s', st, big, ρ, x, _, h, hs, hS => by
    cases h
    exact ⟨ρ, _, rfl, hs, hS, Grow.refl⟩
  | o :: r, s, s', st, big, ρ, x, hok, h, hs, hS => by
    simp only [List.all_cons, Bool.and_eq_true] at hok
    simp only [evalOps] at h ⊢
    obtain ⟨b, h1, h⟩ := bind_some h
    rw [wantedE_sh hs h1]; simp only [Option.bind_some]
    cases b with
    | true =>
      simp only [if_true] at h ⊢
      obtain ⟨⟨v, st1⟩, h2, h⟩ := bind_some h
      obtain ⟨ρ1, w, big1, h3, h4, h5, h6⟩ := op_sh hE hgl hok.1 h2 hs hS
      obtain ⟨ρ2, y, h7, h8, h9, h10⟩ := ops_sh hE hgl hok.2 h ((hs.mono h6).upd h4) h5
      rw [h3]
      exact ⟨ρ2, y, h7, h8, h9, h6.trans h10⟩
    | false => exact ops_sh hE hgl hok.2 h (hs.upd (.free (.tup (fun c hc => by simp at hc)))) hS

theorem keeps_sh (hS : SR ρ st big) (hS' : SR ρ' st' big') (hg : Grow ρ big ρ' big') (hk : keepsE st st') : keepsE big big' := by
  intro x B hB
  have hx : x < big.length := (List.getElem?_eq_some_iff.1 hB).1
  by_cases hn : ∃ i : Nat, ρ[i]? = some x
  · obtain ⟨i, hi⟩ := hn
    obtain ⟨C, C', c1, c2, c3⟩ := hS.box i x hi
    rw [hB] at c2; cases c2
    obtain ⟨D, d1, d2, d3, d4, d5⟩ := hk i C c1
    obtain ⟨D', e1, e2⟩ := hS'.at (hg.pre i x hi) d1
    refine ⟨D', e1, ?_, by rw [e2.isRow, d3, c3.isRow], by rw [e2.size, d4, c3.size], by rw [e2.e, d5, c3.e]⟩
    have h1 := e2.es
    rw [d2] at h1
    exact h1.func (c3.es.mono hg.pre)
  · have h1 := hg.frame x hx (fun i hi => hn ⟨i, hi⟩)
    exact ⟨B, by rw [h1]; exact hB, rfl, rfl, rfl, rfl⟩

theorem opsD_sh (hE : RE E) (hgl : ∀ g, ∀ c ∈ gl g, Free c) : ∀ {ops : List (Bool × CInstr)} {s s' : Slots} {st big : Store} {ρ : List Nat} {x : Slots × Store} (_ : (ops.all fun i => okOp i.2.op) = true) (_ : evalD E gl ops s st = some x) (_ : SlotR ρ s s') (_ : SR ρ st big),
    ∃ ρ' y, evalD E gl ops s' big = some y ∧ SlotR ρ' x.1 y.1 ∧ SR ρ' x.2 y.2 ∧ Grow ρ big ρ' y.2
  | [], s, s', st, big, ρ, x, _, h, hs, hS => by
    cases h
    exact ⟨ρ, _, rfl, hs, hS, Grow.refl⟩
  | o :: r, s, s', st, big, ρ, x, hok, h, hs, hS => by
    simp only [List.all_cons, Bool.and_eq_true] at hok
    simp only [evalD, outD] at h ⊢
    obtain ⟨⟨v, st1⟩, h0, h⟩ := bind_some h
    obtain ⟨b, h1, h0⟩ := bind_some h0
    rw [wantedE_sh hs h1]; simp only [Option.bind_some]
    cases b with
    | true =>
      simp only [if_true] at h0 ⊢
      obtain ⟨⟨v', st1'⟩, h2, h0⟩ := bind_some h0
      simp only [] at h0
      split at h0
      · rename_i hk
        cases h0
        obtain ⟨ρ1, w, big1, h3, h4, h5, h6⟩ := op_sh hE hgl hok.1 h2 hs hS
        obtain ⟨ρ2, y, h7, h8, h9, h10⟩ := opsD_sh hE hgl hok.2 h ((hs.mono h6).upd h4) h5
        rw [h3]; simp only [Option.bind_some]
        rw [if_pos (fun ho => keeps_sh hS h5 h6 (hk ho))]
        exact ⟨ρ2, y, h7, h8, h9, h6.trans h10⟩
      · cases h0
    | false =>
      cases h0
      exact opsD_sh hE hgl hok.2 h (hs.upd (.free (.tup (fun c hc => by simp at hc)))) hS

def ResR (ρ : List Nat) (r r' : Res) : Prop := r'.ex = r.ex ∧ SlotR ρ r.s r'.s ∧ SR ρ r.st r'.st
theorem code_sh (hE : RE E) (hgl : ∀ g, ∀ c ∈ gl g, Free c) : ∀ {c : C} {s s' : Slots} {st big : Store} {ρ : List Nat} {r : Res} (_ : okC c = true) (_ : evalC E gl c s st = some r) (_ : SlotR ρ s s') (_ : SR ρ st big),
    ∃ ρ' r', evalC E gl c s' big = some r' ∧ ResR ρ' r r' ∧ Grow ρ big ρ' r'.st
  | .skip, s, s', st, big, ρ, r, _, h, hs, hS => by cases h; exact ⟨ρ, _, rfl, ⟨rfl, hs, hS⟩, Grow.refl⟩
  | .exit _, s, s', st, big, ρ, r, _, h, hs, hS => by cases h; exact ⟨ρ, _, rfl, ⟨rfl, hs, hS⟩, Grow.refl⟩
  | .ret, s, s', st, big, ρ, r, _, h, hs, hS => by cases h; exact ⟨ρ, _, rfl, ⟨rfl, hs, hS⟩, Grow.refl⟩
  | .stuck, s, s', st, big, ρ, r, _, h, hs, hS => by cases h
  | .region ops, s, s', st, big, ρ, r, hok, h, hs, hS => by
    simp only [evalC] at h ⊢
    obtain ⟨x, h1, h⟩ := bind_some h
    cases h
    obtain ⟨ρ', y, h2, h3, h4, h5⟩ := ops_sh hE hgl hok h1 hs hS
    rw [h2]
    exact ⟨ρ', _, rfl, ⟨rfl, h3, h4⟩, h5⟩
  | .draw ops, s, s', st, big, ρ, r, hok, h, hs, hS => by
    simp only [evalC] at h ⊢
    obtain ⟨x, h1, h⟩ := bind_some h
    cases h
    obtain ⟨ρ', y, h2, h3, h4, h5⟩ := opsD_sh hE hgl hok h1 hs hS
    rw [h2]
    exact ⟨ρ', _, rfl, ⟨rfl, h3, h4⟩, h5⟩
  | .seq a b, s, s', st, big, ρ, r, hok, h, hs, hS => by
    simp only [okC, Bool.and_eq_true] at hok
    simp only [evalC] at h ⊢
    obtain ⟨r1, h1, h⟩ := bind_some h
    obtain ⟨ρ1, r1', h2, h3, h4⟩ := code_sh hE hgl hok.1 h1 hs hS
    rw [h2]; simp only [Option.bind_some]
    rw [h3.1]
    cases hx : r1.ex with
    | normal =>
      rw [hx] at h
      simp only [] at h ⊢
      obtain ⟨ρ2, r2', h5, h6, h7⟩ := code_sh hE hgl hok.2 h h3.2.1 h3.2.2
      exact ⟨ρ2, r2', h5, h6, h4.trans h7⟩
    | exit i => rw [hx] at h; simp only [] at h ⊢; cases h; exact ⟨ρ1, r1', rfl, h3, h4⟩
    | ret => rw [hx] at h; simp only [] at h ⊢; cases h; exact ⟨ρ1, r1', rfl, h3, h4⟩
  | .cond c a b, s, s', st, big, ρ, r, hok, h, hs, hS => by
    simp only [okC, Bool.and_eq_true] at hok
    obtain ⟨t, h1, h⟩ := evalC_cond.1 h
    have h2 := opd_sh hgl hs hok.1
    rw [h1] at h2
    have : okC (if t then a else b) = true := by cases t; exact hok.2.2; exact hok.2.1
    cases t with
    | true =>
      obtain ⟨ρ1, r1', h3, h4, h5⟩ := code_sh (c := a) hE hgl hok.2.1 (by simpa using h) hs hS
      exact ⟨ρ1, r1', evalC_cond.2 ⟨true, h2.bool_inv, by simpa using h3⟩, h4, h5⟩
    | false =>
      obtain ⟨ρ1, r1', h3, h4, h5⟩ := code_sh (c := b) hE hgl hok.2.2 (by simpa using h) hs hS
      exact ⟨ρ1, r1', evalC_cond.2 ⟨false, h2.bool_inv, by simpa using h3⟩, h4, h5⟩
  | .block id c, s, s', st, big, ρ, r, hok, h, hs, hS => by
    simp only [evalC] at h ⊢
    obtain ⟨r1, h1, h⟩ := bind_some h
    obtain ⟨ρ1, r1', h2, h3, h4⟩ := code_sh (c := c) hE hgl hok h1 hs hS
    rw [h2]; simp only [Option.bind_some]
    rw [h3.1]
    cases hx : r1.ex with
    | normal => rw [hx] at h; simp only [] at h ⊢; cases h; exact ⟨ρ1, r1', rfl, h3, h4⟩
    | ret => rw [hx] at h; simp only [] at h ⊢; cases h; exact ⟨ρ1, r1', rfl, h3, h4⟩
    | exit i =>
      rw [hx] at h
      simp only [] at h ⊢
      split at h
      · rename_i hi
        cases h
        rw [if_pos hi]
        exact ⟨ρ1, _, rfl, ⟨rfl, h3.2.1, h3.2.2⟩, h4⟩
      · rename_i hi
        cases h
        rw [if_neg hi]
        exact ⟨ρ1, r1', rfl, h3, h4⟩
  | .loop c, s, s', st, big, ρ, r, hok, h, hs, hS => by
    obtain ⟨ρ', r', h1, h2, h3, h4, h5⟩ := hE.loop c s st r hok h ρ s' big hs hS
    exact ⟨ρ', r', h1, ⟨h2, h3, h4⟩, h5⟩

/-! ### what a function leaves -/
theorem resE_sh (hs : SlotR ρ s s') (hS : SR ρ st big) {c : CRes} (h : resE s st c = some v) : ∃ w, resE s' big c = some w ∧ Sh ρ v w := by
  cases c with
  | tmp t => cases h; exact ⟨_, rfl, hs t⟩
  | cell t n =>
    cases n with
    | none =>
      simp only [resE] at h ⊢
      obtain ⟨l, h1, h⟩ := bind_some h
      obtain ⟨l', h2, h3⟩ := readP_sh hS h1 (hs t)
      match l, h3, h with
      | [x], h3, h =>
        cases h
        obtain ⟨y, ys, rfl, h4, h5⟩ := h3.uncons
        rw [h5.nil_inv] at h2
        rw [h2]
        exact ⟨y, rfl, h4⟩
    | some n =>
      simp only [resE] at h ⊢
      obtain ⟨l, h1, h⟩ := bind_some h
      obtain ⟨l', h2, h3⟩ := readP_sh hS h1 (hs t)
      cases h
      rw [h2]
      exact ⟨_, rfl, Sh.mk_agg h3⟩
theorem resL_sh (hs : SlotR ρ s s') (hS : SR ρ st big) : ∀ {cs : List CRes} {vs : List PV} (_ : resL s st cs = some vs), ∃ ws, resL s' big cs = some ws ∧ ShL ρ vs ws
  | [], vs, h => by cases h; exact ⟨_, rfl, .nil⟩
  | c :: r, vs, h => by
    simp only [resL] at h ⊢
    obtain ⟨v, h1, h⟩ := bind_some h
    obtain ⟨us, h2, h⟩ := bind_some h
    cases h
    obtain ⟨w, h3, h4⟩ := resE_sh hs hS h1
    obtain ⟨ws, h5, h6⟩ := resL_sh hs hS h2
    rw [h3]; simp only [Option.bind_some]; rw [h5]
    exact ⟨_, rfl, .cons h4 h6⟩
theorem one_sh {vs ws : List PV} (h : ShL ρ vs ws) : Sh ρ (one vs) (one ws) := by
  match vs, h with
  | [], h => rw [h.nil_inv]; exact Sh.mk_tup .nil
  | [v], h =>
    obtain ⟨w, ws', rfl, h1, h2⟩ := h.uncons
    rw [h2.nil_inv]
    exact h1
  | v :: v2 :: r, h =>
    obtain ⟨w, ws', rfl, h1, h2⟩ := h.uncons
    obtain ⟨w2, ws2, rfl, h3, h4⟩ := h2.uncons
    exact Sh.mk_tup h

theorem low_of (hS : SR ρ st big) (hg : Grow ρ big ρ' big') : Low ρ' st.length big.length := by
  intro i x hx
  constructor
  · intro hi
    have h1 : ρ[i]? = some (ρ[i]'(by rw [hS.len]; exact hi)) := List.getElem?_eq_getElem _
    have h2 := hg.pre i _ h1
    rw [h2] at hx; cases hx
    exact hS.lt h1
  · intro hx'
    apply Classical.byContradiction
    intro hi
    have := hg.new i x hx (by rw [hS.len]; omega)
    omega
theorem gc_sh (hS : SR ρ st big) (hS' : SR ρ' st' big') (hg : Grow ρ big ρ' big') : gcOk st st' ↔ gcOk big big' := by
  have hlow := low_of hS hg
  have hlen : st.length ≤ st'.length := by
    rw [← hS.len, ← hS'.len]
    apply Classical.byContradiction
    intro hl
    have h1 : ρ[ρ'.length]? = some (ρ[ρ'.length]'(by omega)) := List.getElem?_eq_getElem _
    have h2 := (List.getElem?_eq_some_iff.1 (hg.pre _ _ h1)).1
    omega
  constructor
  · rintro ⟨_, h⟩
    refine ⟨hg.len, fun x hx => ?_⟩
    by_cases hn : ∃ i : Nat, ρ[i]? = some x
    · obtain ⟨i, hi⟩ := hn
      have hil : i < st.length := by rw [← hS.len]; exact (List.getElem?_eq_some_iff.1 hi).1
      obtain ⟨C, C', c1, c2, c3⟩ := hS.box i x hi
      obtain ⟨D, D', d1, d2, d3⟩ := hS'.box i x (hg.pre i x hi)
      rcases h i hil with h | h
      · left
        rw [d2, c2]
        rw [d1, c1] at h; cases h
        have h1 : D'.es = C'.es := d3.es.func (c3.es.mono hg.pre)
        have h2 : D'.isRow = C'.isRow := by rw [d3.isRow, c3.isRow]
        have h3 : D'.size = C'.size := by rw [d3.size, c3.size]
        have h4 : D'.e = C'.e := by rw [d3.e, c3.e]
        have h5 : D'.lk = C'.lk := by rw [d3.lk, c3.lk]
        have h6 : D'.fz = C'.fz := by rw [d3.fz, c3.fz]
        cases D'; cases C'
        simp only [] at h1 h2 h3 h4 h5 h6
        subst h1; subst h2; subst h3; subst h4; subst h5; subst h6; rfl
      · right
        intro B hB e he c hc
        rw [d2] at hB; cases hB
        obtain ⟨j, hj⟩ := List.getElem?_of_mem he
        have hj' : j < D.es.length := by rw [d3.es.1]; exact (List.getElem?_eq_some_iff.1 hj).1
        have h1 := d3.es.2 j _ e (List.getElem?_eq_getElem hj') hj
        obtain ⟨k, hk⟩ := List.getElem?_of_mem hc
        have hk' : k < (D.es[j]).length := by rw [h1.1]; exact (List.getElem?_eq_some_iff.1 hk).1
        have h2 := h1.2 k _ c (List.getElem?_eq_getElem hk') hk
        rw [h2.ref1 hlow]
        exact h D d1 _ (List.getElem_mem hj') _ (List.getElem_mem hk')
    · exact .inl (hg.frame x hx (fun i hi => hn ⟨i, hi⟩))
  · rintro ⟨_, h⟩
    refine ⟨hlen, fun i hi => ?_⟩
    have hi' : i < ρ.length := by rw [hS.len]; exact hi
    have hx : ρ[i]? = some ρ[i] := List.getElem?_eq_getElem hi'
    obtain ⟨C, C', c1, c2, c3⟩ := hS.box i _ hx
    obtain ⟨D, D', d1, d2, d3⟩ := hS'.box i _ (hg.pre i _ hx)
    rcases h ρ[i] (hS.lt hx) with h | h
    · left
      rw [d1, c1]
      rw [d2, c2] at h; cases h
      have h1 : D.es = C.es := d3.es.inj hS'.inj (c3.es.mono hg.pre)
      have h2 : D.isRow = C.isRow := by rw [← d3.isRow, ← c3.isRow]
      have h3 : D.size = C.size := by rw [← d3.size, ← c3.size]
      have h4 : D.e = C.e := by rw [← d3.e, ← c3.e]
      have h5 : D.lk = C.lk := by rw [← d3.lk, ← c3.lk]
      have h6 : D.fz = C.fz := by rw [← d3.fz, ← c3.fz]
      cases D; cases C
      simp only [] at h1 h2 h3 h4 h5 h6
      subst h1; subst h2; subst h3; subst h4; subst h5; subst h6; rfl
    · right
      intro B hB e he c hc
      rw [d1] at hB; cases hB
      obtain ⟨j, hj⟩ := List.getElem?_of_mem he
      obtain ⟨f, hf, h1⟩ := d3.es.get hj
      obtain ⟨k, hk⟩ := List.getElem?_of_mem hc
      obtain ⟨d, hd, h2⟩ := h1.get hk
      rw [← h2.ref1 hlow]
      exact h D' d2 f (List.mem_of_getElem? hf) d (List.mem_of_getElem? hd)
theorem Sh.low0 {n : Nat} (hl : ∀ (i x : Nat), i < n → ρ'[i]? = some x → ρ[i]? = some x) (h : Sh ρ' v w) (hr : Vs.ref0 n v = true) : Sh ρ v w := by
  cases h with
  | free h => exact .free h
  | ptr h => exact .ptr (hl _ _ (by simpa [Vs.ref0] using hr) h)
  | row h => exact .row (hl _ _ (by simpa [Vs.ref0] using hr) h)
  | arr h => exact .arr (hl _ _ (by simpa [Vs.ref0] using hr) h)
  | fn hl' h =>
    simp only [Vs.ref0, List.isEmpty_iff] at hr
    subst hr
    exact Sh.mk_fn ⟨hl', fun j c d hc => by simp at hc⟩
  | iface h => simp [Vs.ref0] at hr
  | agg _ h => simp [Vs.ref0] at hr
  | tup _ h => simp [Vs.ref0] at hr
theorem ShL.low {cs ds : List PV} {p : PV → Bool} (h : ShL ρ' cs ds) (hr : cs.all p = true) (hp : ∀ c d, Sh ρ' c d → p c = true → Sh ρ c d) : ShL ρ cs ds :=
  ⟨h.1, fun j c d hc hd => hp c d (h.2 j c d hc hd) (List.all_eq_true.1 hr c (List.mem_of_getElem? hc))⟩
theorem Sh.low1 {n : Nat} (hl : ∀ (i x : Nat), i < n → ρ'[i]? = some x → ρ[i]? = some x) (h : Sh ρ' v w) (hr : Vs.ref1 n v = true) : Sh ρ v w := by
  cases v with
  | fn f cs => obtain ⟨ds, rfl, h1⟩ := h.fn_inv; exact Sh.mk_fn (h1.low hr (fun c d hs hp => hs.low0 hl hp))
  | iface t p => obtain ⟨q, rfl, h1⟩ := h.iface_inv; exact .iface (h1.low0 hl hr)
  | _ => exact h.low0 hl hr
theorem Sh.low2 {n : Nat} (hl : ∀ (i x : Nat), i < n → ρ'[i]? = some x → ρ[i]? = some x) (h : Sh ρ' v w) (hr : Vs.ref2 n v = true) : Sh ρ v w := by
  cases v with
  | agg cs => obtain ⟨ds, rfl, h1⟩ := h.agg_inv; exact Sh.mk_agg (h1.low hr (fun c d hs hp => hs.low1 hl hp))
  | _ => exact h.low1 hl hr
theorem Sh.low3 {n : Nat} (hl : ∀ (i x : Nat), i < n → ρ'[i]? = some x → ρ[i]? = some x) (h : Sh ρ' v w) (hr : Vs.ref3 n v = true) : Sh ρ v w := by
  cases v with
  | tup cs => obtain ⟨ds, rfl, h1⟩ := h.tup_inv; exact Sh.mk_tup (h1.low hr (fun c d hs hp => hs.low2 hl hp))
  | _ => exact h.low2 hl hr
/-- The own boxes taken away. -/
theorem take_sh (hS : SR ρ st big) (hS' : SR ρ' st' big') (hg : Grow ρ big ρ' big') (hgc : gcOk st st') : SR ρ (st'.take st.length) (big'.take big.length) ∧ Grow ρ big ρ (big'.take big.length) := by
  have hpre : ∀ i, i < st.length → ∃ x, ρ[i]? = some x ∧ ρ'[i]? = some x := fun i hi => by
    have hx : ρ[i]? = some (ρ[i]'(by rw [hS.len]; exact hi)) := List.getElem?_eq_getElem _
    exact ⟨_, hx, hg.pre i _ hx⟩
  have hlen : st.length ≤ st'.length := by
    rw [← hS'.len]
    cases hn : st.length with
    | zero => exact Nat.zero_le _
    | succ n =>
      obtain ⟨x, _, hx⟩ := hpre n (by omega)
      exact (List.getElem?_eq_some_iff.1 hx).1
  refine ⟨⟨by rw [hS.len]; simp [hlen], hS.inj, fun i x hx => ?_⟩, ⟨fun _ _ h => h, by simp [hg.len], fun i x hx hi => by have := (List.getElem?_eq_some_iff.1 hx).1; omega, fun x hx hn => by rw [List.getElem?_take, if_pos hx]; exact hg.frame x hx hn, 0, by simp, by simp [hg.len]⟩⟩
  have hi : i < st.length := by rw [← hS.len]; exact (List.getElem?_eq_some_iff.1 hx).1
  obtain ⟨D, D', d1, d2, d3⟩ := hS'.box i x (hg.pre i x hx)
  refine ⟨D, D', by rw [List.getElem?_take, if_pos hi]; exact d1, by rw [List.getElem?_take, if_pos (hS.lt hx)]; exact d2, ?_⟩
  obtain ⟨C, C', c1, c2, c3⟩ := hS.box i x hx
  rcases hgc.2 i hi with h | h
  · rw [d1, c1] at h; cases h
    have h1 : D'.es = C'.es := d3.es.func (c3.es.mono hg.pre)
    exact ⟨by rw [h1]; exact c3.es, d3.isRow, d3.size, d3.e, d3.lk, d3.fz⟩
  · refine ⟨⟨d3.es.1, fun j e f he hf => (d3.es.2 j e f he hf).low (List.all_eq_true.2 (h D d1 e (List.mem_of_getElem? he))) (fun c d hs hr => hs.low1 (n := st.length) (fun k y hk hy => ?_) hr)⟩, d3.isRow, d3.size, d3.e, d3.lk, d3.fz⟩
    obtain ⟨z, z1, z2⟩ := hpre k hk
    rw [z2] at hy; cases hy
    exact z1

theorem leave_sh (hS : SR ρ st big) {keep : Bool} {cs : List CRes} {r r' x : Res} (h : leave keep cs st r = some x) (hr : ResR ρ' r r') (hg : Grow ρ big ρ' r'.st) :
    ∃ ρ2 y, leave keep cs big r' = some y ∧ y.ex = x.ex ∧ Sh ρ2 x.val y.val ∧ SR ρ2 x.st y.st ∧ Grow ρ big ρ2 y.st := by
  unfold leave at h ⊢
  obtain ⟨vs, h1, h⟩ := bind_some h
  obtain ⟨⟨v, st1⟩, h2, h⟩ := bind_some h
  obtain ⟨ws, h3, h4⟩ := resL_sh hr.2.1 hr.2.2 h1
  obtain ⟨⟨w, big1⟩, h5, h6, h7, h8⟩ := frz3_sh hr.2.2 h2 (one_sh h4)
  simp only [] at h6 h7 h8 h
  have hg1 := hg.trans h8
  rw [h3]; simp only [Option.bind_some]; rw [h5]; simp only [Option.bind_some]
  have hz : ref3 0 w = ref3 0 v := h6.ref3 (fun i x _ => by omega)
  split at h
  · rename_i hc
    cases h
    rw [if_pos ⟨by rw [hz]; exact hc.1, (gc_sh hS h7 hg1).1 hc.2⟩]
    obtain ⟨t1, t2⟩ := take_sh hS h7 hg1 hc.2
    exact ⟨ρ, _, rfl, rfl, h6.low3 (n := 0) (fun i x hi => by omega) hc.1, t1, t2⟩
  · rename_i hc
    cases h
    rw [if_neg (fun hn => hc ⟨by rw [← hz]; exact hn.1, (gc_sh hS h7 hg1).2 hn.2⟩)]
    exact ⟨ρ', _, rfl, rfl, h6, h7, hg1⟩

/-! ### calls -/
variable {prog : FuncId → Option CFunc}
theorem extE_sh {x : Ext} {as bs : List PV} {u : PV} (h : extE x as = some u) (ha : ShL ρ as bs) : ∃ w, extE x bs = some w ∧ Sh ρ u w := by
  cases x with
  | same =>
    match as, ha, h with
    | [.ptr id 0 0 0], ha, h =>
      obtain ⟨b, bs', rfl, h1, h2⟩ := ha.uncons
      cases h2.nil_inv
      obtain ⟨id', rfl, h3⟩ := h1.ptr_inv
      cases h
      exact ⟨_, rfl, .ptr h3⟩
  | indexByte =>
    match as, ha, h with
    | [.str l, .int k b], ha, h =>
      obtain ⟨b1, bs', rfl, h1, h2⟩ := ha.uncons
      obtain ⟨b2, bs2, rfl, h3, h4⟩ := h2.uncons
      cases h4.nil_inv
      cases h1.str_inv
      cases h3.int_inv
      refine ⟨u, h, ?_⟩
      cases h
      exact .free (.int _ _)
theorem argS_sh {as bs : List PV} (h : ShL ρ as bs) : SlotR ρ (fun k => (as[k]?).getD .undef) (fun k => (bs[k]?).getD .undef) := by
  intro k
  simp only []
  cases ha : as[k]? with
  | none =>
    have hk : as.length ≤ k := List.getElem?_eq_none_iff.1 ha
    rw [List.getElem?_eq_none (by rw [← h.1]; exact hk)]
    exact .free .undef
  | some a =>
    obtain ⟨b, hb, hs⟩ := h.get ha
    rw [hb]
    exact hs
def OkProg (prog : FuncId → Option CFunc) : Prop := ∀ f cf, prog f = some cf → okC cf.code = true
theorem step_sh (hE : RE E) (hgl : ∀ g, ∀ c ∈ gl g, Free c) (hp : OkProg prog) : RE (stepE prog gl E) := by
  refine ⟨fun f as st r h ρ bs big ha hS => ?_, fun c s st r hok h ρ s' big hs hS => ?_⟩
  · simp only [stepE] at h ⊢
    obtain ⟨cf, h1, h⟩ := bind_some h
    rw [h1]; simp only [Option.bind_some]
    split at h
    · rename_i hn
      rw [if_pos (by rw [← ha.1]; exact hn)]
      cases hx : cf.ext with
      | some x =>
        rw [hx] at h
        simp only [] at h ⊢
        obtain ⟨u, h2, h⟩ := bind_some h
        cases h
        obtain ⟨w, h3, h4⟩ := extE_sh h2 ha
        rw [h3]
        exact ⟨ρ, _, rfl, rfl, h4, hS, Grow.refl⟩
      | none =>
        rw [hx] at h
        simp only [] at h ⊢
        obtain ⟨r1, h2, h⟩ := bind_some h
        obtain ⟨ρ1, r1', h3, h4, h5⟩ := code_sh hE hgl (hp f cf h1) h2 (argS_sh ha) hS
        rw [h3]; simp only [Option.bind_some]
        rw [h4.1]
        cases hr : r1.ex with
        | exit i => rw [hr] at h; cases h
        | normal => rw [hr] at h; exact leave_sh hS h h4 h5
        | ret => rw [hr] at h; exact leave_sh hS h h4 h5
    · cases h
  · simp only [stepE] at h ⊢
    obtain ⟨r1, h1, h⟩ := bind_some h
    obtain ⟨ρ1, r1', h2, h3, h4⟩ := code_sh hE hgl hok h1 hs hS
    rw [h2]; simp only [Option.bind_some]
    rw [h3.1]
    cases hr : r1.ex with
    | normal =>
      rw [hr] at h
      simp only [] at h ⊢
      obtain ⟨ρ2, r2, h5, h6, h7, h8, h9⟩ := hE.loop c _ _ _ hok h _ _ _ h3.2.1 h3.2.2
      exact ⟨ρ2, r2, h5, h6, h7, h8, h4.trans h9⟩
    | exit i => rw [hr] at h; simp only [] at h ⊢; cases h; exact ⟨ρ1, r1', rfl, h3.1, h3.2.1, h3.2.2, h4⟩
    | ret => rw [hr] at h; simp only [] at h ⊢; cases h; exact ⟨ρ1, r1', rfl, h3.1, h3.2.1, h3.2.2, h4⟩
theorem En_sh (hgl : ∀ g, ∀ c ∈ gl g, Free c) (hp : OkProg prog) : ∀ n, RE (En prog gl n)
  | 0 => ⟨fun _ _ _ _ h => by simp [En] at h, fun _ _ _ _ _ h => by simp [En] at h⟩
  | n + 1 => step_sh (En_sh hgl hp n) hgl hp
/-- WHAT A CALL DOES IT DOES WHEREVER THE BOXES LIE. -/
theorem EE_sh (hgl : ∀ g, ∀ c ∈ gl g, Free c) (hp : OkProg prog) {f : FuncId} {as bs : List PV} {r : Res} (h : EE prog gl (.call f as st) = some r) (ha : ShL ρ as bs) (hS : SR ρ st big) :
    ∃ ρ' r', EE prog gl (.call f bs big) = some r' ∧ r'.ex = r.ex ∧ Sh ρ' r.val r'.val ∧ SR ρ' r.st r'.st ∧ Grow ρ big ρ' r'.st := by
  obtain ⟨n, hn⟩ := EE_some h
  obtain ⟨ρ', r', h1, h2⟩ := (En_sh hgl hp n).call _ _ _ _ hn _ _ _ ha hS
  exact ⟨ρ', r', EE_of h1, h2⟩

/-! ### what it means for a call in some store -/
theorem SR.nil {big : Store} : SR [] [] big := ⟨rfl, fun i j x h => by simp at h, fun i x h => by simp at h⟩
theorem store_eq (h : SR ρ' st' big') (hg : Grow ρ big ρ' big') {big2 : Store} (h2 : SR ρ' st' big2) (hg2 : Grow ρ big ρ' big2) : big' = big2 := by
  obtain ⟨m, h3, h4⟩ := hg.seq
  obtain ⟨m', h5, h6⟩ := hg2.seq
  have hm : m = m' := by have := congrArg List.length (h3.symm.trans h5); simp at this; exact this
  subst hm
  apply List.ext_getElem? 
  intro x
  by_cases hx : x < big.length + m
  · by_cases hn : ∃ i : Nat, ρ'[i]? = some x
    · obtain ⟨i, hi⟩ := hn
      obtain ⟨C, C', c1, c2, c3⟩ := h.box i x hi
      obtain ⟨D', d1, d2⟩ := h2.at hi c1
      rw [c2, d1]
      have e1 : C'.es = D'.es := c3.es.func d2.es
      have e2 : C'.isRow = D'.isRow := by rw [c3.isRow, d2.isRow]
      have e3 : C'.size = D'.size := by rw [c3.size, d2.size]
      have e4 : C'.e = D'.e := by rw [c3.e, d2.e]
      have e5 : C'.lk = D'.lk := by rw [c3.lk, d2.lk]
      have e6 : C'.fz = D'.fz := by rw [c3.fz, d2.fz]
      cases D'; cases C'
      simp only [] at e1 e2 e3 e4 e5 e6
      subst e1; subst e2; subst e3; subst e4; subst e5; subst e6; rfl
    · have hn' : ∀ i : Nat, ρ[i]? ≠ some x := fun i hi => hn ⟨i, hg.pre i x hi⟩
      have hxb : x < big.length := by
        apply Classical.byContradiction
        intro hge
        apply hn
        refine ⟨ρ.length + (x - big.length), ?_⟩
        rw [h3, List.getElem?_append_right (by omega), List.getElem?_range' (by omega)]
        simp; omega
      rw [hg.frame x hxb hn', hg2.frame x hxb hn']
  · rw [List.getElem?_eq_none (by omega), List.getElem?_eq_none (by omega)]
theorem Sh.nil {σ : List Nat} (hσ : σ = []) (h : Sh σ v w) : w = v ∧ Free v := by
  have get : ∀ {cs ds : List PV}, cs.length = ds.length → (∀ (j : Nat) c d, cs[j]? = some c → ds[j]? = some d → d = c ∧ Free c) → ds = cs ∧ ∀ c ∈ cs, Free c := fun {cs ds} hl ih =>
    ⟨list_ext2 hl rfl (fun j c d d' hc hd hd' => by rw [hc] at hd'; cases hd'; exact (ih j c d hc hd).1), fun c hc => by
      obtain ⟨j, hj⟩ := List.getElem?_of_mem hc
      exact (ih j c _ hj (List.getElem?_eq_getElem (by rw [← hl]; exact (List.getElem?_eq_some_iff.1 hj).1))).2⟩
  induction h with
  | free h => exact ⟨rfl, h⟩
  | ptr h => subst hσ; simp at h
  | row h => subst hσ; simp at h
  | arr h => subst hσ; simp at h
  | fn hl _ ih => obtain ⟨h1, h2⟩ := get hl ih; subst h1; exact ⟨rfl, .fn h2⟩
  | iface _ ih => obtain ⟨rfl, h2⟩ := ih; exact ⟨rfl, .iface h2⟩
  | agg hl _ ih => obtain ⟨h1, h2⟩ := get hl ih; subst h1; exact ⟨rfl, .agg h2⟩
  | tup hl _ ih => obtain ⟨h1, h2⟩ := get hl ih; subst h1; exact ⟨rfl, .tup h2⟩
theorem EE_form {f : FuncId} {as : List PV} {r : Res} (h : EE prog gl (.call f as st) = some r) : r = Res.mk .ret r.val (fun _ => .undef) r.st := by
  rw [EE_eq] at h
  simp only [stepE] at h
  obtain ⟨cf, _, h⟩ := bind_some h
  have lv : ∀ {keep cs r1}, leave keep cs st r1 = some r → r = Res.mk .ret r.val (fun _ => .undef) r.st := by
    intro keep cs r1 h
    unfold leave at h
    obtain ⟨_, _, h⟩ := bind_some h
    obtain ⟨_, _, h⟩ := bind_some h
    simp only [] at h
    split at h <;> (cases h; rfl)
  split at h
  · split at h
    · obtain ⟨_, _, h⟩ := bind_some h
      cases h; rfl
    · obtain ⟨r1, _, h⟩ := bind_some h
      split at h
      · cases h
      · exact lv h
  · cases h
/-- A call that names no box may be made in any store. -/
theorem Ans.any (hgl : ∀ g, ∀ c ∈ gl g, Free c) (hp : OkProg prog) {f : FuncId} {as : List PV} (h : Ans prog gl f as [] v []) (ha : ∀ a ∈ as, Free a) (st : Store) : Ans prog gl f as st v st := by
  obtain ⟨ρ', r', h1, h2, h3, h4, h5⟩ := EE_sh hgl hp h (ShL.free ha) (SR.nil (big := st))
  have hl : ρ' = [] := List.eq_nil_of_length_eq_zero h4.len
  subst hl
  have h6 := EE_form h1
  unfold Ans
  rw [h1, h6, (h3.nil rfl).1]
  have h7 : r'.st = st := by
    obtain ⟨m, h8, h9⟩ := h5.seq
    have hm : m = 0 := by have := congrArg List.length h8; simp at this; omega
    apply List.ext_getElem?
    intro x
    by_cases hx : x < st.length
    · exact h5.frame x hx (fun i hi => by simp at hi)
    · rw [List.getElem?_eq_none (by omega), List.getElem?_eq_none (by omega)]
  rw [h7]
/-- A call may be made in any store that holds its boxes. -/
theorem Ans.at (hgl : ∀ g, ∀ c ∈ gl g, Free c) (hp : OkProg prog) {f : FuncId} {as bs : List PV} {big2 : Store} (h : Ans prog gl f as st v st') (ha : ShL ρ as bs) (hS : SR ρ st big)
    (hv : Sh (ρ ++ List.range' big.length (big2.length - big.length)) v w) (hS2 : SR (ρ ++ List.range' big.length (big2.length - big.length)) st' big2) (hlen : big.length ≤ big2.length)
    (hf : ∀ x, x < big.length → (∀ i : Nat, ρ[i]? ≠ some x) → big2[x]? = big[x]?) : Ans prog gl f bs big w big2 := by
  obtain ⟨ρ', r', h1, h2, h3, h4, h5⟩ := EE_sh hgl hp h ha hS
  obtain ⟨m, h6, h7⟩ := h5.seq
  have hm : m = big2.length - big.length := by
    have e1 := h4.len
    have e2 := hS2.len
    simp only [] at e1
    rw [h6] at e1
    simp at e1 e2
    omega
  rw [hm] at h6
  subst h6
  have hg2 : Grow ρ big (ρ ++ List.range' big.length (big2.length - big.length)) big2 := by
    refine ⟨h5.pre, hlen, h5.new, hf, m, by rw [hm], by omega⟩
  unfold Ans
  rw [h1, EE_form h1, store_eq h4 h5 hS2 hg2, h3.func hv]

/-! ### one box that is handed over -/
theorem SR.one {id : Nat} {B : Box} (hB : big[id]? = some B) (hfree : ∀ e ∈ B.es, ∀ c ∈ e, Free c) : SR [id] [B] big := by
  refine ⟨rfl, fun i j x hi hj => ?_, fun i x hx => ?_⟩
  · have h1 := (List.getElem?_eq_some_iff.1 hi).1
    have h2 := (List.getElem?_eq_some_iff.1 hj).1
    simp at h1 h2; omega
  · have h1 := (List.getElem?_eq_some_iff.1 hx).1
    simp at h1
    subst h1
    simp at hx
    subst hx
    exact ⟨B, B, rfl, hB, EsR.free hfree, rfl, rfl, rfl, rfl, rfl⟩
/-- A call that is handed a pointer to a box. -/
theorem Ans.at1 (hgl : ∀ g, ∀ c ∈ gl g, Free c) (hp : OkProg prog) {f : FuncId} {as : List PV} {B B' : Box} {g i off : Nat} (h : Ans prog gl f (.ptr 0 g i off :: as) [B] v [B']) (ha : ∀ a ∈ as, Free a) (hv : Free v) (hb : ∀ e ∈ B.es, ∀ c ∈ e, Free c) (hb' : ∀ e ∈ B'.es, ∀ c ∈ e, Free c)
    {id : Nat} (hid : big[id]? = some B) : Ans prog gl f (.ptr id g i off :: as) big v (big.set id B') := by
  have hlt := (List.getElem?_eq_some_iff.1 hid).1
  refine Ans.at (ρ := [id]) hgl hp h (.cons (.ptr rfl) (ShL.free ha)) (SR.one hid hb) (.free hv) ?_ (by simp) (fun x hx hn => by rw [List.getElem?_set_ne (fun e => hn 0 (by simp [e]))])
  have : [id] ++ List.range' big.length ((big.set id B').length - big.length) = [id] := by simp
  rw [this]
  exact SR.one (List.getElem?_set_self hlt) hb'
/-- As above, where the pointer comes last: a closure's. -/
theorem Ans.at1r (hgl : ∀ g, ∀ c ∈ gl g, Free c) (hp : OkProg prog) {f : FuncId} {as : List PV} {B B' : Box} {g i off : Nat} (h : Ans prog gl f (as ++ [.ptr 0 g i off]) [B] v [B']) (ha : ∀ a ∈ as, Free a) (hv : Free v) (hb : ∀ e ∈ B.es, ∀ c ∈ e, Free c) (hb' : ∀ e ∈ B'.es, ∀ c ∈ e, Free c)
    {id : Nat} (hid : big[id]? = some B) : Ans prog gl f (as ++ [.ptr id g i off]) big v (big.set id B') := by
  have hlt := (List.getElem?_eq_some_iff.1 hid).1
  refine Ans.at (ρ := [id]) hgl hp h ((ShL.free ha).append (.cons (.ptr rfl) .nil)) (SR.one hid hb) (.free hv) ?_ (by simp) (fun x hx hn => by rw [List.getElem?_set_ne (fun e => hn 0 (by simp [e]))])
  have : [id] ++ List.range' big.length ((big.set id B').length - big.length) = [id] := by simp
  rw [this]
  exact SR.one (List.getElem?_set_self hlt) hb'
/-- What the kernel's run answers, in any store. -/
theorem Ans.run {n : Nat} {f : FuncId} {as : List PV} (h : EnB prog gl n (.call f as []) = some (Res.mk .ret v (fun _ => .undef) [])) : Ans prog gl f as [] v [] := EE_of (EnB_ok h)
theorem Ans.runB {n : Nat} {f : FuncId} {as : List PV} (h : runB prog gl n f as = true) : Ans prog gl f as [] (.bool true) [] := by
  unfold Vs.runB at h
  cases hr : EnB prog gl n (.call f as []) with
  | none => rw [hr] at h; cases h
  | some r =>
    rw [hr] at h
    have h1 := EE_of (EnB_ok hr)
    unfold Ans
    rw [h1, EE_form h1]
    simp only [] at h
    split at h
    · rename_i hv
      split at h
      · rename_i hst; rw [hv, hst]
      · cases h
    · cases h
end
end Go.Vs
