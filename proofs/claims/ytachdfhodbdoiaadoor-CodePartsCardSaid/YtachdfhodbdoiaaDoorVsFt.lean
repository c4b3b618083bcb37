/-
  One operation of the evaluator does the same wherever the boxes lie. Under no condition.
-/
import Derived.Test.YtachdfhodbdoiaaDoorVsFs
namespace Go.Vs
open Go

/-! ### literals that name no box -/
def free0 : PV → Bool
  | .undef | .bool _ | .int _ _ | .str _ | .nilp | .nilsl | .nilif => true
  | .fn _ caps => caps.isEmpty
  | _ => false
def free1 : PV → Bool
  | .agg cs => cs.all free0
  | v => free0 v
theorem free0_ok {v : PV} (h : free0 v = true) : Free v := by
  cases v with
  | fn f cs => simp only [free0, List.isEmpty_iff] at h; subst h; exact .fn (fun c hc => by simp at hc)
  | undef => exact .undef
  | bool b => exact .bool b
  | int k n => exact .int k n
  | str s => exact .str s
  | nilp => exact .nilp
  | nilsl => exact .nilsl
  | nilif => exact .nilif
  | _ => simp [free0] at h
theorem free0_all {cs : List PV} (h : cs.all free0 = true) : ∀ c ∈ cs, Free c := fun c hc => free0_ok (List.all_eq_true.1 h c hc)
theorem free1_ok {v : PV} (h : free1 v = true) : Free v := by
  cases v with
  | agg cs => exact .agg (free0_all h)
  | _ => exact free0_ok h
def okOpd : Opd → Bool
  | .const v => free1 v
  | _ => true
def COp.opds : COp → List Opd
  | .mov x | .box _ x | .ldc x | .lda _ x | .nilck x | .eqnil _ _ x | .un _ x | .cvi _ x | .cvid x | .cvp _ x | .cvbs x | .fa _ x | .fld _ _ x | .ext _ x | .len _ x | .usd x => [x]
  | .pick c a b => [c, a, b]
  | .alloc _ _ | .stuck => []
  | .build _ ps => ps.map fun p => p.2.2
  | .bslice _ _ _ _ ps | .bsl _ _ _ _ ps => ps.map fun p => p.2
  | .st _ a x => [a, x]
  | .bin _ x y | .eqb _ x y | .eqp _ x y | .eqs _ _ x y | .app _ _ _ _ x y | .maxmin _ x y | .ixa _ x y | .ixaa _ _ x y | .ixs x y | .ixg _ _ _ x y | .ustr _ x y => [x, y]
  | .mkfn _ cs => cs
  | .sls x lo hi | .slv _ x lo hi | .slp _ x lo hi | .sla _ x lo hi => x :: (lo.toList ++ hi.toList)
  | .callf _ as => as
  | .callv x as => x :: as
def COp.zs : COp → List PV
  | .alloc _ z | .build z _ | .bslice _ _ _ z _ | .bsl _ _ _ z _ => z
  | _ => []
def okOp (o : COp) : Bool := o.opds.all okOpd && o.zs.all free0
def okC : C → Bool
  | .region ops => ops.all fun i => okOp i.op
  | .draw ops => ops.all fun i => okOp i.2.op
  | .seq a b => okC a && okC b
  | .cond c a b => okOpd c && (okC a && okC b)
  | .block _ c => okC c
  | .loop c => okC c
  | _ => true

structure RE (E : Req → Option Res) : Prop where
  call : ∀ f as st r, E (.call f as st) = some r → ∀ ρ bs big, ShL ρ as bs → SR ρ st big → ∃ ρ' r', E (.call f bs big) = some r' ∧ r'.ex = r.ex ∧ Sh ρ' r.val r'.val ∧ SR ρ' r.st r'.st ∧ Grow ρ big ρ' r'.st
  loop : ∀ c s st r, okC c = true → E (.loop c s st) = some r → ∀ ρ s' big, SlotR ρ s s' → SR ρ st big → ∃ ρ' r', E (.loop c s' big) = some r' ∧ r'.ex = r.ex ∧ SlotR ρ' r.s r'.s ∧ SR ρ' r.st r'.st ∧ Grow ρ big ρ' r'.st

section
variable {ρ ρ' ρ'' : List Nat} {st st' big big' big'' : Store} {s s' : Slots} {v w : PV} {E : Req → Option Res} {gl : Nat → List PV}

theorem opd_sh (hgl : ∀ g, ∀ c ∈ gl g, Free c) (hs : SlotR ρ s s') {x : Opd} (h : okOpd x = true) : Sh ρ (x.ev gl s) (x.ev gl s') := by
  cases x with
  | tmp t => exact hs t
  | const v => exact .free (free1_ok h)
  | glob g => exact .free (.pf (hgl g))
theorem opds_sh (hgl : ∀ g, ∀ c ∈ gl g, Free c) (hs : SlotR ρ s s') : ∀ {xs : List Opd} (_ : xs.all okOpd = true), ShL ρ (xs.map (·.ev gl s)) (xs.map (·.ev gl s'))
  | [], _ => .nil
  | x :: r, h => by
    simp only [List.all_cons, Bool.and_eq_true] at h
    exact .cons (opd_sh hgl hs h.1) (opds_sh hgl hs h.2)
theorem opdO_sh (hgl : ∀ g, ∀ c ∈ gl g, Free c) (hs : SlotR ρ s s') {x : Option Opd} (h : x.toList.all okOpd = true) : (x.map (·.ev gl s) = none ∧ x.map (·.ev gl s') = none) ∨ ∃ a b, x.map (·.ev gl s) = some a ∧ x.map (·.ev gl s') = some b ∧ Sh ρ a b := by
  cases x with
  | none => exact .inl ⟨rfl, rfl⟩
  | some x => exact .inr ⟨_, _, rfl, rfl, opd_sh hgl hs (by simpa using h)⟩
theorem bnds_sh (hgl : ∀ g, ∀ c ∈ gl g, Free c) (hs : SlotR ρ s s') {lo hi : Option Opd} (h : (lo.toList ++ hi.toList).all okOpd = true) {n : Nat} {α : Type} {f : Nat → Nat → Option α} {y : α} (he : ((bnd n n (hi.map (·.ev gl s))).bind fun h => (bnd h 0 (lo.map (·.ev gl s))).bind fun b => f h b) = some y) :
    ∃ h b, (∀ g : Nat → Nat → Option α, ((bnd n n (hi.map (·.ev gl s'))).bind fun h => (bnd h 0 (lo.map (·.ev gl s'))).bind fun b => g h b) = g h b) ∧ f h b = some y := by
  rw [List.all_append, Bool.and_eq_true] at h
  obtain ⟨p, h1, he⟩ := bind_some he
  obtain ⟨q, h2, he⟩ := bind_some he
  refine ⟨p, q, fun g => ?_, he⟩
  rw [bnd_sh h1 (opdO_sh hgl hs h.2)]; simp only [Option.bind_some]
  rw [bnd_sh h2 (opdO_sh hgl hs h.1)]; rfl

def Done (ρ : List Nat) (big : Store) (E : Req → Option Res) (gl : Nat → List PV) (s' : Slots) (o : COp) (v : PV) (st' : Store) : Prop :=
  ∃ ρ' w big', evalOp E gl s' big o = some (w, big') ∧ Sh ρ' v w ∧ SR ρ' st' big' ∧ Grow ρ big ρ' big'
theorem Done.same {o : COp} (h : evalOp E gl s' big o = some (w, big)) (hv : Sh ρ v w) (hS : SR ρ st big) : Done ρ big E gl s' o v st := ⟨ρ, w, big, h, hv, hS, Grow.refl⟩

theorem parts_get {ps : List (Nat × Nat × Opd)} (hgl : ∀ g, ∀ c ∈ gl g, Free c) (hs : SlotR ρ s s') (h : (ps.map fun p => p.2.2).all okOpd = true) (j : Nat) (p q : Nat × Nat × PV) (hp : (ps.map fun (o, n, x) => (o, n, x.ev gl s))[j]? = some p) (hq : (ps.map fun (o, n, x) => (o, n, x.ev gl s'))[j]? = some q) : p.1 = q.1 ∧ p.2.1 = q.2.1 ∧ Sh ρ p.2.2 q.2.2 := by
  simp only [List.getElem?_map, Option.map_eq_some_iff] at hp hq
  obtain ⟨x, hx, rfl⟩ := hp
  obtain ⟨y, hy, rfl⟩ := hq
  rw [hx] at hy; cases hy
  exact ⟨rfl, rfl, opd_sh hgl hs (List.all_eq_true.1 h _ (List.mem_map.2 ⟨x, List.mem_of_getElem? hx, rfl⟩))⟩
theorem parts_get2 {ps : List (Nat × Opd)} (hgl : ∀ g, ∀ c ∈ gl g, Free c) (hs : SlotR ρ s s') (h : (ps.map fun p => p.2).all okOpd = true) (j : Nat) (p q : Nat × PV) (hp : (ps.map fun (i, x) => (i, x.ev gl s))[j]? = some p) (hq : (ps.map fun (i, x) => (i, x.ev gl s'))[j]? = some q) : p.1 = q.1 ∧ Sh ρ p.2 q.2 := by
  simp only [List.getElem?_map, Option.map_eq_some_iff] at hp hq
  obtain ⟨x, hx, rfl⟩ := hp
  obtain ⟨y, hy, rfl⟩ := hq
  rw [hx] at hy; cases hy
  exact ⟨rfl, opd_sh hgl hs (List.all_eq_true.1 h _ (List.mem_map.2 ⟨x, List.mem_of_getElem? hx, rfl⟩))⟩

theorem op_sh (hE : RE E) (hgl : ∀ g, ∀ c ∈ gl g, Free c) {o : COp} (ho : okOp o = true) (h : evalOp E gl s st o = some (v, st')) (hs : SlotR ρ s s') (hS : SR ρ st big) : Done ρ big E gl s' o v st' := by
  unfold okOp at ho
  rw [Bool.and_eq_true] at ho
  obtain ⟨ho, hz⟩ := ho
  have arg : ∀ x, x ∈ o.opds → Sh ρ (x.ev gl s) (x.ev gl s') := fun x hx => opd_sh hgl hs (List.all_eq_true.1 ho x hx)
  cases o with
  | mov x => cases h; exact .same rfl (arg x (by simp [COp.opds])) hS
  | pick c a b =>
    have hc := arg c (by simp [COp.opds])
    have ha := arg a (by simp [COp.opds])
    have hb := arg b (by simp [COp.opds])
    simp only [evalOp] at h
    cases hx : c.ev gl s <;> rw [hx] at h hc <;> (try simp only [] at h) <;> (try cases h)
    rename_i t
    refine .same (by simp only [evalOp]; rw [hc.bool_inv]) ?_ hS
    cases t
    · exact hb
    · exact ha
  | alloc e zs =>
    cases h
    obtain ⟨h1, h2, h3⟩ := hS.alloc (B := Box.mk [zs] false 0 e 0 false) (B' := Box.mk [zs] false 0 e 0 false) ⟨.cons (ShL.free (free0_all hz)) .nil, rfl, rfl, rfl, rfl, rfl⟩
    exact ⟨_, _, _, rfl, .ptr h3, h1, h2⟩
  | box e x =>
    have hx := (arg x (by simp [COp.opds])).cellsOf
    simp only [evalOp] at h
    split at h
    · rename_i hc
      cases h
      obtain ⟨h1, h2, h3⟩ := hS.alloc (B := Box.mk [cellsOf (x.ev gl s)] false 0 e 0 false) (B' := Box.mk [cellsOf (x.ev gl s')] false 0 e 0 false) ⟨.cons hx .nil, rfl, rfl, rfl, rfl, rfl⟩
      exact ⟨_, _, _, by simp only [evalOp]; rw [if_pos (by rw [hx.all (fun c d hs => hs.oneP)]; exact hc)], .ptr h3, h1, h2⟩
    · cases h
  | build zs ps =>
    simp only [evalOp] at h
    obtain ⟨cs, h1, h⟩ := bind_some h
    cases h
    obtain ⟨y, h2, h3⟩ := fillE_sh h1 (ShL.free (ρ := ρ) (free0_all hz)) (by simp) (parts_get hgl hs ho)
    exact .same (by simp only [evalOp]; rw [h2]; rfl) (Sh.mk_agg h3) hS
  | bslice e size len zs ps =>
    simp only [evalOp] at h
    obtain ⟨es, h1, h⟩ := bind_some h
    cases h
    obtain ⟨y, h2, h3⟩ := fillR_sh h1 (EsR.free (ρ := ρ) (fun e he => by have := List.eq_of_mem_replicate he; subst this; exact free0_all hz)) (by simp) (parts_get2 hgl hs ho)
    obtain ⟨h4, h5, h6⟩ := hS.alloc (B := Box.mk es true size e 0 false) (B' := Box.mk y true size e 0 false) ⟨h3, rfl, rfl, rfl, rfl, rfl⟩
    exact ⟨_, _, _, by simp only [evalOp]; rw [h2]; rfl, .row h6, h4, h5⟩
  | ldc a =>
    simp only [evalOp] at h
    obtain ⟨l, h1, h⟩ := bind_some h
    obtain ⟨l', h2, h3⟩ := readP_sh hS h1 (arg a (by simp [COp.opds]))
    match l, h3, h with
    | [x], h3, h =>
      cases h
      obtain ⟨y, ys, rfl, h4, h5⟩ := h3.uncons
      rw [h5.nil_inv] at h2
      exact .same (by simp only [evalOp]; rw [h2]; rfl) h4 hS
  | lda n a =>
    simp only [evalOp] at h
    obtain ⟨l, h1, h⟩ := bind_some h
    cases h
    obtain ⟨l', h2, h3⟩ := readP_sh hS h1 (arg a (by simp [COp.opds]))
    exact .same (by simp only [evalOp]; rw [h2]; rfl) (Sh.mk_agg h3) hS
  | st n a x =>
    have hx := (arg x (by simp [COp.opds])).cellsOf
    simp only [evalOp] at h
    split at h
    · rename_i hc
      obtain ⟨st1, h1, h⟩ := bind_some h
      cases h
      obtain ⟨big', h2, h3, h4⟩ := writeP_sh hS h1 (arg a (by simp [COp.opds])) hx
      exact ⟨ρ, _, _, by simp only [evalOp]; rw [if_pos ⟨by rw [← hx.1]; exact hc.1, by rw [hx.all (fun c d hs => hs.oneP)]; exact hc.2⟩, h2]; rfl, .free .undef, h3, h4⟩
    · cases h
  | nilck x =>
    have hx := arg x (by simp [COp.opds])
    simp only [evalOp] at h
    cases hv : x.ev gl s <;> rw [hv] at h hx <;> (try simp only [] at h) <;> (try cases h)
    · obtain ⟨i, h1, h2⟩ := hx.ptr_inv
      exact .same (by simp only [evalOp]; rw [h1]) (.ptr h2) hS
    · obtain ⟨h1, h2⟩ := hx.pf_inv
      exact .same (by simp only [evalOp]; rw [h1]) (.free (.pf h2)) hS
  | bin op x y =>
    simp only [evalOp] at h
    obtain ⟨u, h1, h⟩ := bind_some h
    cases h
    obtain ⟨h2, h3⟩ := binE_sh h1 (arg x (by simp [COp.opds])) (arg y (by simp [COp.opds]))
    exact .same (by simp only [evalOp]; rw [h2]; rfl) (.free h3) hS
  | eqb neg x y =>
    simp only [evalOp] at h
    obtain ⟨u, h1, h⟩ := bind_some h
    cases h
    obtain ⟨h2, h3⟩ := eqbE_sh h1 (arg x (by simp [COp.opds])) (arg y (by simp [COp.opds]))
    exact .same (by simp only [evalOp]; rw [h2]; rfl) (.free h3) hS
  | eqnil sl neg x =>
    simp only [evalOp] at h
    obtain ⟨u, h1, h⟩ := bind_some h
    cases h
    obtain ⟨h2, h3⟩ := eqnilE_sh h1 (arg x (by simp [COp.opds]))
    exact .same (by simp only [evalOp]; rw [h2]; rfl) (.free h3) hS
  | eqp neg x y =>
    simp only [evalOp] at h
    obtain ⟨u, h1, h⟩ := bind_some h
    cases h
    obtain ⟨h2, h3⟩ := eqpE_sh h1 (arg x (by simp [COp.opds])) (arg y (by simp [COp.opds]))
    exact .same (by simp only [evalOp]; rw [h2]; rfl) (.free h3) hS
  | eqs ks neg x y =>
    simp only [evalOp] at h
    obtain ⟨u, h1, h⟩ := bind_some h
    cases h
    obtain ⟨h2, h3⟩ := eqsE_sh h1 (arg x (by simp [COp.opds])) (arg y (by simp [COp.opds]))
    exact .same (by simp only [evalOp]; rw [h2]; rfl) (.free h3) hS
  | un op x =>
    simp only [evalOp] at h
    obtain ⟨u, h1, h⟩ := bind_some h
    cases h
    obtain ⟨h2, h3⟩ := unE_sh h1 (arg x (by simp [COp.opds]))
    exact .same (by simp only [evalOp]; rw [h2]; rfl) (.free h3) hS
  | cvi k x =>
    have hx := arg x (by simp [COp.opds])
    simp only [evalOp] at h
    cases hv : x.ev gl s <;> rw [hv] at h hx <;> (try simp only [] at h) <;> (try cases h)
    exact .same (by simp only [evalOp]; rw [hx.int_inv]) (.free (.int _ _)) hS
  | cvid x =>
    have hx := arg x (by simp [COp.opds])
    simp only [evalOp] at h
    cases hv : x.ev gl s <;> rw [hv] at h hx <;> (try simp only [] at h) <;> (try cases h)
    exact .same (by simp only [evalOp]; rw [hx.str_inv]) (.free (.str _)) hS
  | cvp u x =>
    have hx := arg x (by simp [COp.opds])
    simp only [evalOp] at h
    cases hv : x.ev gl s <;> rw [hv] at h hx <;> (try simp only [] at h) <;> (try cases h)
    rename_i id g i off
    obtain ⟨id', h1, h2⟩ := hx.ptr_inv
    match g, i, off, h, h1 with
    | 0, 0, 0, h, h1 =>
      simp only [] at h
      obtain ⟨B, hB, h⟩ := bind_some h
      obtain ⟨B', hB', hb⟩ := hS.at h2 hB
      split at h
      · rename_i hc
        cases h
        refine .same ?_ (.ptr h2) hS
        have hlen : (B'.es[0]?).map List.length = (B.es[0]?).map List.length := by
          cases h0 : B.es[0]? with
          | none => rw [h0] at hc; simp at hc
          | some c => obtain ⟨d, hd, hcd⟩ := hb.es.get h0; rw [hd]; simp [hcd.1]
        simp only [evalOp]; rw [h1]; simp only []
        rw [hB']; simp only [Option.bind_some]
        rw [if_pos]
        refine ⟨by rw [hb.isRow]; exact hc.1, ?_, ?_⟩
        · have h3 := hc.2.1
          cases h0 : B.es[0]? with
          | none => rw [h0] at h3; simp at h3
          | some c =>
            obtain ⟨d, hd, hcd⟩ := hb.es.get h0
            rw [h0] at h3
            rw [hd]
            simp only [Option.any_some, Bool.not_eq_true', List.isEmpty_eq_false_iff] at h3 ⊢
            intro e
            apply h3
            apply List.eq_nil_of_length_eq_zero
            rw [hcd.1, e]; rfl
        · have h3 := hc.2.2
          unfold cvpOk at h3 ⊢
          cases u with
          | none => rfl
          | some p => simp only [hb.e, hlen]; exact h3
      · cases h
    | _ + 1, _, _, h, _ => simp at h
    | 0, _ + 1, _, h, _ => simp at h
    | 0, 0, _ + 1, h, _ => simp at h
  | cvbs x =>
    simp only [evalOp] at h
    obtain ⟨es, h1, h⟩ := bind_some h
    obtain ⟨l, h2, h⟩ := bind_some h
    cases h
    obtain ⟨fs, h3, h4⟩ := elemsOf_sh hS h1 (arg x (by simp [COp.opds]))
    exact .same (by simp only [evalOp]; rw [h3]; simp only [Option.bind_some]; rw [bytesOf_sh h4 h2]; rfl) (.free (.str _)) hS
  | mkfn f caps => cases h; exact .same rfl (Sh.mk_fn (opds_sh hgl hs ho)) hS
  | sls x lo hi =>
    have hx := arg x (by simp [COp.opds])
    simp only [evalOp] at h
    cases hv : x.ev gl s <;> rw [hv] at h hx <;> (try simp only [] at h) <;> (try cases h)
    have ho' : (lo.toList ++ hi.toList).all okOpd = true := by simp only [COp.opds, List.all_cons, Bool.and_eq_true] at ho; exact ho.2
    obtain ⟨p, q, h1, h2⟩ := bnds_sh hgl hs ho' h
    cases h2
    exact .same (by simp only [evalOp]; rw [hx.str_inv]; exact h1 _) (.free (.str _)) hS
  | slv size x lo hi =>
    have hx := arg x (by simp [COp.opds])
    have ho' : (lo.toList ++ hi.toList).all okOpd = true := by simp only [COp.opds, List.all_cons, Bool.and_eq_true] at ho; exact ho.2
    simp only [evalOp] at h
    cases hf : frz1 false st (x.ev gl s) with
    | none => rw [hf] at h; simp at h
    | some y =>
      obtain ⟨a, st1⟩ := y
      rw [hf] at h
      obtain ⟨⟨b, g1⟩, h1, h2, h3, h4⟩ := frz1_sh hS hf hx
      cases a <;> (try simp only [] at h) <;> (try cases h)
      rename_i es
      obtain ⟨h5, h6⟩ := h2.sl_inv
      simp only [] at h5
      subst h5
      split at h
      · cases h
      · rename_i hz'
        obtain ⟨p, q, h7, h8⟩ := bnds_sh hgl hs ho' h
        cases h8
        exact ⟨ρ, _, _, by simp only [evalOp]; rw [h1]; simp only []; rw [if_neg hz']; exact h7 _, .free (.sl (fun e he c hc => h6 e (List.mem_of_mem_take (List.mem_of_mem_drop he)) c hc)), h3, h4⟩
  | slp size x lo hi =>
    have hx := arg x (by simp [COp.opds])
    have ho' : (lo.toList ++ hi.toList).all okOpd = true := by simp only [COp.opds, List.all_cons, Bool.and_eq_true] at ho; exact ho.2
    simp only [evalOp] at h
    cases hv : x.ev gl s <;> rw [hv] at h hx <;> (try simp only [] at h) <;> (try cases h)
    obtain ⟨h5, h6⟩ := hx.sl_inv
    split at h
    · cases h
    · rename_i hz'
      obtain ⟨p, q, h7, h8⟩ := bnds_sh hgl hs ho' h
      cases h8
      exact .same (by simp only [evalOp]; rw [h5]; simp only []; rw [if_neg hz']; exact h7 _) (.free (.sl (fun e he c hc => h6 e (List.mem_of_mem_take (List.mem_of_mem_drop he)) c hc))) hS
  | bsl e size len zs ps =>
    simp only [evalOp] at h
    obtain ⟨es, h1, h⟩ := bind_some h
    split at h
    · rename_i hc
      cases h
      obtain ⟨y, h2, h3⟩ := fillR_sh h1 (EsR.free (ρ := ρ) (fun e he => by have := List.eq_of_mem_replicate he; subst this; exact free0_all hz)) (by simp) (parts_get2 hgl hs ho)
      have hfree := h3.ref1_free hc.2
      have := h3.same hfree
      subst this
      exact .same (by simp only [evalOp]; rw [h2]; simp only [Option.bind_some]; rw [if_pos hc]) (.free (.sl hfree)) hS
    · cases h
  | sla n x lo hi =>
    have hx := arg x (by simp [COp.opds])
    have ho' : (lo.toList ++ hi.toList).all okOpd = true := by simp only [COp.opds, List.all_cons, Bool.and_eq_true] at ho; exact ho.2
    simp only [evalOp] at h
    cases hv : x.ev gl s <;> rw [hv] at h hx <;> (try simp only [] at h) <;> (try cases h)
    rename_i id g i off
    obtain ⟨id', h1, h2⟩ := hx.ptr_inv
    match g, i, h, h1 with
    | 0, 0, h, h1 =>
      simp only [] at h
      obtain ⟨p, q, h7, h8⟩ := bnds_sh hgl hs ho' h
      cases h8
      exact .same (by simp only [evalOp]; rw [h1]; exact h7 _) (.arr h2) hS
    | _ + 1, _, h, _ => simp at h
    | 0, _ + 1, h, _ => simp at h
  | fa off x =>
    have hx := arg x (by simp [COp.opds])
    simp only [evalOp] at h
    cases hv : x.ev gl s <;> rw [hv] at h hx <;> (try simp only [] at h) <;> (try cases h)
    · obtain ⟨i, h1, h2⟩ := hx.ptr_inv
      exact .same (by simp only [evalOp]; rw [h1]) (.ptr h2) hS
    · obtain ⟨h1, h2⟩ := hx.pf_inv
      exact .same (by simp only [evalOp]; rw [h1]) (.free (.pf (fun c hc => h2 c (List.mem_of_mem_drop hc)))) hS
  | fld off n x =>
    have hx := arg x (by simp [COp.opds])
    simp only [evalOp] at h
    cases hv : x.ev gl s <;> rw [hv] at h hx <;> (try simp only [] at h) <;> (try cases h)
    obtain ⟨ds, h1, h2⟩ := hx.agg_inv
    cases n with
    | none =>
      simp only [] at h
      obtain ⟨u, h3, h⟩ := bind_some h
      cases h
      obtain ⟨d, h4, h5⟩ := h2.get h3
      exact .same (by simp only [evalOp]; rw [h1]; simp only []; rw [h4]; rfl) h5 hS
    | some n =>
      simp only [] at h
      split at h
      · rename_i hc
        cases h
        exact .same (by simp only [evalOp]; rw [h1]; simp only []; rw [if_pos (by rw [← h2.1]; exact hc)]) (Sh.mk_agg ((h2.drop off).take n)) hS
      · cases h
  | ixa size x i =>
    have hx := arg x (by simp [COp.opds])
    have hi := arg i (by simp [COp.opds])
    simp only [evalOp] at h
    cases hv : x.ev gl s <;> rw [hv] at h hx <;> (try simp only [] at h) <;> (try cases h)
    · obtain ⟨h1, h2⟩ := hx.sl_inv
      obtain ⟨j, h3, h⟩ := bind_some h
      obtain ⟨e, h4, h⟩ := bind_some h
      split at h
      · rename_i hc
        cases h
        exact .same (by simp only [evalOp]; rw [h1]; simp only []; rw [idx_sh h3 hi]; simp only [Option.bind_some]; rw [h4]; simp only [Option.bind_some]; rw [if_pos hc]) (.free (.pf (h2 e (List.mem_of_getElem? h4)))) hS
      · cases h
    · obtain ⟨id', h1, h2⟩ := hx.row_inv
      obtain ⟨j, h3, h⟩ := bind_some h
      obtain ⟨B, hB, h⟩ := bind_some h
      obtain ⟨B', hB', hb⟩ := hS.at h2 hB
      split at h
      · rename_i hc
        cases h
        exact .same (by simp only [evalOp]; rw [h1]; simp only []; rw [idx_sh h3 hi]; simp only [Option.bind_some]; rw [hB']; simp only [Option.bind_some]; rw [if_pos ⟨by rw [hb.isRow]; exact hc.1, by rw [← hb.es.1]; exact hc.2.1, by rw [hb.size]; exact hc.2.2⟩]) (.ptr h2) hS
      · cases h
    · obtain ⟨id', h1, h2⟩ := hx.arr_inv
      split at h
      · rename_i hc
        obtain ⟨j, h3, h⟩ := bind_some h
        cases h
        exact .same (by simp only [evalOp]; rw [h1]; simp only []; rw [if_pos hc, idx_sh h3 hi]; rfl) (.ptr h2) hS
      · cases h
  | ixaa n size x i =>
    have hx := arg x (by simp [COp.opds])
    have hi := arg i (by simp [COp.opds])
    simp only [evalOp] at h
    cases hv : x.ev gl s <;> rw [hv] at h hx <;> (try simp only [] at h) <;> (try cases h)
    · obtain ⟨id', h1, h2⟩ := hx.ptr_inv
      obtain ⟨j, h3, h⟩ := bind_some h
      cases h
      exact .same (by simp only [evalOp]; rw [h1]; simp only []; rw [idx_sh h3 hi]; rfl) (.ptr h2) hS
    · obtain ⟨h1, h2⟩ := hx.pf_inv
      obtain ⟨j, h3, h⟩ := bind_some h
      cases h
      exact .same (by simp only [evalOp]; rw [h1]; simp only []; rw [idx_sh h3 hi]; rfl) (.free (.pf (fun c hc => h2 c (List.mem_of_mem_drop hc)))) hS
  | ixs x i =>
    have hx := arg x (by simp [COp.opds])
    have hi := arg i (by simp [COp.opds])
    simp only [evalOp] at h
    cases hv : x.ev gl s <;> rw [hv] at h hx <;> (try simp only [] at h) <;> (try cases h)
    obtain ⟨j, h3, h⟩ := bind_some h
    obtain ⟨e, h4, h⟩ := bind_some h
    cases h
    exact .same (by simp only [evalOp]; rw [hx.str_inv]; simp only []; rw [idx_sh h3 hi]; simp only [Option.bind_some]; rw [h4]; rfl) (.free (.int _ _)) hS
  | ixg len size one x i =>
    have hx := arg x (by simp [COp.opds])
    have hi := arg i (by simp [COp.opds])
    simp only [evalOp] at h
    cases hv : x.ev gl s <;> rw [hv] at h hx <;> (try simp only [] at h) <;> (try cases h)
    obtain ⟨ds, h1, h2⟩ := hx.agg_inv
    obtain ⟨j, h3, h⟩ := bind_some h
    cases one with
    | true =>
      simp only [if_true] at h
      obtain ⟨u, h4, h⟩ := bind_some h
      cases h
      obtain ⟨d, h5, h6⟩ := h2.get h4
      exact .same (by simp only [evalOp]; rw [h1]; simp only []; rw [idx_sh h3 hi]; simp only [Option.bind_some, if_true]; rw [h5]; rfl) h6 hS
    | false =>
      simp only [Bool.false_eq_true, if_false] at h
      split at h
      · rename_i hc
        cases h
        exact .same (by simp only [evalOp]; rw [h1]; simp only []; rw [idx_sh h3 hi]; simp only [Option.bind_some, Bool.false_eq_true, if_false]; rw [if_pos (by rw [← h2.1]; exact hc)]) (Sh.mk_agg ((h2.drop _).take _)) hS
      · cases h
  | ext j x =>
    have hx := arg x (by simp [COp.opds])
    simp only [evalOp] at h
    cases hv : x.ev gl s <;> rw [hv] at h hx <;> (try simp only [] at h) <;> (try cases h)
    obtain ⟨ds, h1, h2⟩ := hx.tup_inv
    obtain ⟨u, h3, h⟩ := bind_some h
    cases h
    obtain ⟨d, h4, h5⟩ := h2.get h3
    exact .same (by simp only [evalOp]; rw [h1]; simp only []; rw [h4]; rfl) h5 hS
  | callf f args =>
    simp only [evalOp] at h
    obtain ⟨⟨as, st1⟩, h1, h⟩ := bind_some h
    obtain ⟨r, h2, h⟩ := bind_some h
    cases h
    obtain ⟨⟨bs, g1⟩, h3, h4, h5, h6⟩ := frzA_sh hS h1 (opds_sh hgl hs ho)
    obtain ⟨ρ', r', h7, _, h8, h9, h10⟩ := hE.call _ _ _ _ h2 _ _ _ h4 h5
    exact ⟨ρ', _, _, by simp only [evalOp]; rw [h3]; simp only [Option.bind_some]; rw [h7]; rfl, h8, h9, h6.trans h10⟩
  | callv x args =>
    have hx := arg x (by simp [COp.opds])
    have ho' : args.all okOpd = true := by simp only [COp.opds, List.all_cons, Bool.and_eq_true] at ho; exact ho.2
    simp only [evalOp] at h
    cases hv : x.ev gl s <;> rw [hv] at h hx <;> (try simp only [] at h) <;> (try cases h)
    obtain ⟨ds, q1, q2⟩ := hx.fn_inv
    obtain ⟨⟨as, st1⟩, h1, h⟩ := bind_some h
    obtain ⟨r, h2, h⟩ := bind_some h
    cases h
    obtain ⟨⟨bs, g1⟩, h3, h4, h5, h6⟩ := frzA_sh hS h1 (opds_sh hgl hs ho')
    obtain ⟨ρ', r', h7, _, h8, h9, h10⟩ := hE.call _ _ _ _ h2 _ _ _ (h4.append q2) h5
    exact ⟨ρ', _, _, by simp only [evalOp]; rw [q1]; simp only []; rw [h3]; simp only [Option.bind_some]; rw [h7]; rfl, h8, h9, h6.trans h10⟩
  | len isStr x =>
    have hx := arg x (by simp [COp.opds])
    simp only [evalOp] at h
    cases isStr with
    | true =>
      simp only [if_true] at h
      cases hv : x.ev gl s <;> rw [hv] at h hx <;> (try simp only [] at h) <;> (try cases h)
      exact .same (by simp only [evalOp, if_true]; rw [hx.str_inv]) (.free (.int _ _)) hS
    | false =>
      simp only [Bool.false_eq_true, if_false] at h
      cases hv : x.ev gl s <;> rw [hv] at h hx <;> (try simp only [] at h) <;> (try cases h)
      · exact .same (by simp only [evalOp, Bool.false_eq_true, if_false]; rw [hx.nilsl_inv]) (.free (.int _ _)) hS
      · exact .same (by simp only [evalOp, Bool.false_eq_true, if_false]; rw [hx.sl_inv.1]) (.free (.int _ _)) hS
      · obtain ⟨i, h1, _⟩ := hx.row_inv
        exact .same (by simp only [evalOp, Bool.false_eq_true, if_false]; rw [h1]) (.free (.int _ _)) hS
      · obtain ⟨i, h1, _⟩ := hx.arr_inv
        exact .same (by simp only [evalOp, Bool.false_eq_true, if_false]; rw [h1]) (.free (.int _ _)) hS
  | app isStr e size bytes x y =>
    simp only [evalOp] at h
    obtain ⟨new, h1, h⟩ := bind_some h
    obtain ⟨fs, h2, h3⟩ := srcE_sh hS h1 (arg y (by simp [COp.opds]))
    split at h
    · rename_i hc
      obtain ⟨ρ', y', h4, h5, h6, h7⟩ := appE_sh hS h (arg x (by simp [COp.opds])) h3
      refine ⟨ρ', y'.1, y'.2, ?_, h5, h6, h7⟩
      simp only [evalOp]; rw [h2]; simp only [Option.bind_some]
      rw [if_pos]
      · exact h4
      · refine ⟨?_, hc.2⟩
        rw [h3.all (q := fun e => decide (e.length = size) && e.all (ref1 0)) (p := fun e => decide (e.length = size) && e.all (ref1 0)) (fun c d hcd => by rw [hcd.1, hcd.all (fun a b hs => hs.ref1 (m := 0) (m' := 0) (fun i x _ => by omega))])]
        exact hc.1
    · cases h
  | maxmin mx x y =>
    have hx := arg x (by simp [COp.opds])
    have hy := arg y (by simp [COp.opds])
    simp only [evalOp] at h
    cases hv : x.ev gl s <;> rw [hv] at h hx <;> (try simp only [] at h) <;> (try cases h)
    cases hw : y.ev gl s <;> rw [hw] at h hy <;> (try simp only [] at h) <;> (try cases h)
    split at h
    · rename_i hc
      cases h
      exact .same (by simp only [evalOp]; rw [hx.int_inv, hy.int_inv]; simp only []; rw [if_pos hc]) (.free (.int _ _)) hS
    · cases h
  | usd x =>
    have hx := arg x (by simp [COp.opds])
    simp only [evalOp] at h
    cases hv : x.ev gl s <;> rw [hv] at h hx <;> (try simp only [] at h) <;> (try cases h)
    · exact .same (by simp only [evalOp]; rw [hx.nilsl_inv]) (.free .nilp) hS
    · rename_i id g
      obtain ⟨i, h1, h2⟩ := hx.row_inv
      cases g with
      | zero => simp at h
      | succ g => cases h; exact .same (by simp only [evalOp]; rw [h1]) (.ptr h2) hS
  | ustr e p n =>
    have hp := arg p (by simp [COp.opds])
    have hn := arg n (by simp [COp.opds])
    simp only [evalOp] at h
    cases hv : p.ev gl s <;> rw [hv] at h hp <;> (try simp only [] at h) <;> (try cases h)
    · cases hw : n.ev gl s <;> rw [hw] at h hn <;> (try simp only [] at h) <;> (try cases h)
      rename_i k m
      cases k <;> (try simp only [] at h) <;> (try cases h)
      split at h
      · rename_i hc
        cases h
        exact .same (by simp only [evalOp]; rw [hp.nilp_inv, hn.int_inv]; simp only []; rw [if_pos hc]) (.free (.str _)) hS
      · cases h
    · rename_i id g i off
      cases hw : n.ev gl s <;> rw [hw] at h hn <;> (try simp only [] at h) <;> (try (cases i <;> cases off <;> cases h; done))
      rename_i k m
      obtain ⟨id', h1, h2⟩ := hp.ptr_inv
      match i, off, k, h, h1, hn with
      | 0, 0, .i64, h, h1, hn =>
        simp only [] at h
        obtain ⟨B, hB, h⟩ := bind_some h
        obtain ⟨B', hB', hb⟩ := hS.at h2 hB
        split at h
        · rename_i hc
          obtain ⟨l, h3, h⟩ := bind_some h
          split at h
          · rename_i hes
            cases h
            have hfree : ∀ e ∈ B.es, ∀ c ∈ e, Free c := by rw [hes]; exact ofBytes_free l
            have hsame := hb.es.same hfree
            obtain ⟨h4, h5⟩ := hS.set (B := { B with lk := g, fz := true }) (B' := { B' with lk := g, fz := true }) h2 ⟨hb.es, hb.isRow, hb.size, hb.e, rfl, rfl⟩
            refine ⟨ρ, _, _, ?_, .free (.str _), h4, h5⟩
            simp only [evalOp]; rw [h1, hn.int_inv]; simp only []
            rw [hB']; simp only [Option.bind_some]
            rw [if_pos ⟨by rw [hb.isRow]; exact hc.1, by rw [hsame]; exact hc.2.1, by rw [hb.size]; exact hc.2.2.1, by rw [hb.e]; exact hc.2.2.2.1, hc.2.2.2.2⟩, hsame, h3]
            simp only [Option.bind_some]
            rw [if_pos hes]
          · cases h
        · cases h
      | _ + 1, _, _, h, _, _ => simp at h
      | 0, _ + 1, _, h, _, _ => simp at h
      | 0, 0, .i8, h, _, _ => simp at h
      | 0, 0, .i16, h, _, _ => simp at h
      | 0, 0, .i32, h, _, _ => simp at h
      | 0, 0, .u8, h, _, _ => simp at h
      | 0, 0, .u16, h, _, _ => simp at h
      | 0, 0, .u32, h, _, _ => simp at h
      | 0, 0, .u64, h, _, _ => simp at h
  | stuck => cases h
end
end Go.Vs
