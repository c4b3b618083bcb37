/-
  Regions whose order is drawn do what the evaluator says. Under no condition.
-/
import Derived.Test.YtachdfhodbdoiaaDoorVsQ
namespace Go.Vs
open Go
section
variable {B0 : Nat} {P : Program} {lk lk' : Locks} {σ σ' : Sig} {st st' : Store} {w w' : World} {o : Oper} {a : Act} {v : PV} {u : Value}
variable {gl : Nat → List PV} {N : Nat} {s s' : Slots} {E : Req → Option Res}

/-! ### what nobody can reach any more falls away -/
theorem Sim.gc (hS0 : Sim B0 lk σ st w) (hS : Sim B0 lk' σ' st' w') (hst : Step lk σ st w lk' σ' st' w') (hgc : gcOk st st') :
    Sim B0 lk' (σ'.upto st.length) (st'.take st.length) w' ∧ Step lk σ st w lk' (σ'.upto st.length) (st'.take st.length) w' := by
  obtain ⟨hlen, hbox⟩ := hgc
  have hget : ∀ id B, (st'.take st.length)[id]? = some B → id < st.length ∧ st'[id]? = some B := fun id B h => by
    have hi : id < st.length := by have := (List.getElem?_eq_some_iff.1 h).1; simp at this; omega
    rw [List.getElem?_take_of_lt hi] at h; exact ⟨hi, h⟩
  have hup : ∀ id g L, σ'.upto st.length id g = some L → id < st.length ∧ σ' id g = some L := fun id g L h => by
    unfold Sig.upto at h
    by_cases hi : id < st.length
    · rw [if_pos hi] at h; exact ⟨hi, h⟩
    · rw [if_neg hi] at h; cases h
  have hdom : ∀ id g L, σ id g = some L → id < st.length := hS0.dom
  refine ⟨⟨?_, ?_, ?_, ?_, ?_, hS.locked, hS.base⟩, ⟨hst.lks, ?_, ?_, hst.frame, ?_, by simp; omega, hst.os, hst.tape, hst.output, hst.size⟩⟩
  · intro id g L h
    obtain ⟨h1, _⟩ := hup id g L h
    simp; omega
  · intro id g L B h hB
    obtain ⟨_, h2⟩ := hup id g L h
    exact hS.top id g L B h2 (hget id B hB).2
  · intro id g L B h hB
    obtain ⟨h1, h2⟩ := hup id g L h
    obtain ⟨L', hL'⟩ := hS.cur id g L B h2 (hget id B hB).2
    exact ⟨L', by simp [Sig.upto, h1, hL']⟩
  · intro id B L hB h
    obtain ⟨h1, h2⟩ := hup id B.gen L h
    obtain ⟨h3, h4⟩ := hget id B hB
    obtain ⟨hok, hb0⟩ := hS.boxes id B L h4 h2
    refine ⟨?_, hb0⟩
    obtain ⟨cur, fr, q1, q2, q3, q4, q5⟩ := hok.cells
    refine ⟨⟨cur, fr, q1, q2, q3, q4, fun i e he j v hv => ?_⟩, hok.size, hok.each, hok.zero, hok.lkle, hok.free⟩
    obtain ⟨u, hu, hr⟩ := q5 i e he j v hv
    refine ⟨u, hu, ?_⟩
    rcases hbox id h1 with hsame | hnew
    · have hB0 : st[id]? = some B := by rw [← hsame]; exact h4
      have : ∃ g0 L0, σ id g0 = some L0 := by
        rcases Classical.em (∃ g0 L0, σ id g0 = some L0) with h | h
        · exact h
        · have hn : ∀ g, σ id g = none := fun g => by
            cases hx : σ id g with
            | none => rfl
            | some L0 => exact absurd ⟨g, L0, hx⟩ h
          rw [hst.ghost id h1 hn] at h2; cases h2
      obtain ⟨g0, L0, hg0⟩ := this
      obtain ⟨L1, hL1⟩ := hS0.cur id g0 L0 B hg0 hB0
      obtain ⟨cur0, fr0, _, _, _, _, p5⟩ := (hS0.boxes id B L1 hB0 hL1).1.cells
      obtain ⟨u0, _, hr0⟩ := p5 i e he j v hv
      exact hr.bound hr0 hdom
    · exact hr.ref1 (hnew B h4 e (List.mem_of_getElem? he) v (List.mem_of_getElem? hv))
  · intro id id2 B B2 L L2 hB hB2 h h2 he
    obtain ⟨_, h4⟩ := hup _ _ _ h
    obtain ⟨_, h5⟩ := hup _ _ _ h2
    exact hS.apart id id2 B B2 L L2 (hget id B hB).2 (hget id2 B2 hB2).2 h4 h5 he
  · intro id g L h
    have := hst.sig id g L h
    simp [Sig.upto, hdom id g L h, this]
  · intro k hk
    obtain ⟨id, B, L, hB, h, rfl⟩ := hk
    exact hst.own _ ⟨id, B, L, (hget id B hB).2, (hup _ _ _ h).2, rfl⟩
  · intro id hi hn g
    have := hst.ghost id hi hn g
    simp [Sig.upto, this]

/-! ### a slice that is built and never written -/
def fz : COp → COp
  | .slv a b c d => .slp a b c d
  | .bslice a b c d e => .bsl a b c d e
  | c => c

theorem fz_sound (hE : SoundCalls B0 P gl E) (hS : Sim B0 lk σ st w) (hs : SlotRel lk σ N s a) (hg : GlobOk lk gl) {co : COp} (hc : opC P o.op = some co) (he : evalOp E gl s st (fz co) = some (v, st')) : OpOk B0 P lk σ st w o a v st' := by
  cases co with
  | slv size x lo hi =>
    refine op_sound hE hS hs hg hc ?_
    simp only [fz, evalOp] at he
    simp only [evalOp]
    cases hx : x.ev gl s <;> rw [hx] at he <;> (try (cases he; done))
    simp only [frz1]
    exact he
  | bslice e size len zs ps =>
    simp only [fz, evalOp] at he
    obtain ⟨es, h1, he⟩ := bind_some he
    split at he
    · rename_i hcs
      simp only [Option.some.injEq, Prod.mk.injEq] at he
      obtain ⟨rfl, rfl⟩ := he
      intro next Q hK
      refine op_sound hE hS hs hg hc (by simp only [evalOp, h1]; rfl) next Q (fun lk1 σ1 u w1 a1 a2 a3 => ?_)
      have hf : frz1 false (st ++ [Box.mk es true size e 0 false]) (.row st.length len) = some (.sl es, (st ++ [Box.mk es true size e 0 false]).set st.length (Box.mk es true size e len false)) := by
        simp only [frz1, List.getElem?_concat_length, Option.bind_some]
        rw [if_pos ⟨trivial, hcs.1, hcs.2⟩]
      obtain ⟨lk2, b1, b2, b3⟩ := a2.frz1 a1 hf
      have hgc : gcOk st ((st ++ [Box.mk es true size e 0 false]).set st.length (Box.mk es true size e len false)) := by
        refine ⟨by simp, fun id hid => .inl ?_⟩
        rw [List.getElem?_set_ne (by omega), List.getElem?_append_left hid]
      obtain ⟨c1, c2⟩ := hS.gc b2 (a3.trans b3) hgc
      have ht : ((st ++ [Box.mk es true size e 0 false]).set st.length (Box.mk es true size e len false)).take st.length = st := by simp
      rw [ht] at c1 c2
      refine hK lk2 _ u w1 ?_ c1 c2
      have := b1.ref3 (n := 0) rfl
      rw [Sig.upto_zero] at this
      exact this.mono (fun _ _ h => h) (fun _ _ _ h => by simp [sig0] at h)
    · cases he
  | _ => exact op_sound hE hS hs hg hc he

/-! ### the turning -/
abbrev Item := Nat × Oper × Bool × CInstr
def instrD (P : Program) (N : Nat) (ops : Array Oper) (o : Oper) : Option CInstr :=
  (guardC ops o.guard).bind fun g => if dstOk N o.dst = true then some ⟨o.dst, g, fz (opS P o.op)⟩ else none
def bnds (e : Edge) : Bool := Region.binds .any e
def maskOf (acc : List Nat) (o : Oper) : Nat := o.after.toList.foldl (fun m e => if bnds e = true then m ||| ((1 <<< e.on) ||| (acc[e.on]?).getD 0) else m) 0
def masks (ops : Array Oper) : List Nat := ops.toList.foldl (fun acc o => acc ++ [maskOf acc o]) []
def msk (ms : List Nat) (j : Nat) : Nat := (ms[j]?).getD 0
def itemsC (P : Program) (N : Nat) (ops : Array Oper) : List Nat → Option (List (Nat × Oper × CInstr))
  | [] => some []
  | j :: r => (ops[j]?).bind fun o => (instrD P N ops o).bind fun i => (itemsC P N ops r).bind fun is => some ((j, o, i) :: is)
def hoist (ms : List Nat) : Nat → Nat → List (Nat × Oper × CInstr) → List (Nat × Oper × CInstr)
  | 0, _, rem => rem
  | n + 1, listed, rem =>
    match rem.find? fun x => !x.2.2.op.big && (msk ms x.1 ||| listed) == listed with
    | some x => x :: hoist ms n (listed ||| (1 <<< x.1)) (rem.filter fun y => y.1 != x.1)
    | none => match rem.find? fun x => (msk ms x.1 ||| listed) == listed with
      | some x => x :: hoist ms n (listed ||| (1 <<< x.1)) (rem.filter fun y => y.1 != x.1)
      | none => rem
def flags (ms : List Nat) (l : List (Nat × Oper × CInstr)) : List Item :=
  l.map fun x => (x.1, x.2.1, x.2.2.op.big && l.any (fun y => y.2.2.op.sees && !(msk ms y.1).testBit x.1 && !(msk ms x.1).testBit y.1), x.2.2)
def okPair (ms : List Nat) (x y : Item) : Bool :=
  x.1 != y.1 && x.2.1.after.all (fun e => !bnds e || e.on != y.1) && ((msk ms y.1).testBit x.1 || comm x.2.2 y.2.2)
def okOne (ms : List Nat) (n : Nat) (x : Item) : Bool :=
  x.2.1.after.all (fun e => !bnds e || (decide (e.on < n) && e.on != x.1)) &&
  (List.range n).all fun k => !(msk ms x.1).testBit k || x.2.1.after.any fun e => bnds e && (e.on == k || (msk ms e.on).testBit k)
def okPairs (ms : List Nat) : List Item → Bool
  | [] => true
  | x :: r => r.all (okPair ms x) && okPairs ms r
def itemOk (P : Program) (N : Nat) (ops : Array Oper) (x : Item) : Prop := ops[x.1]? = some x.2.1 ∧ instrD P N ops x.2.1 = some x.2.2.2
def drawC (P : Program) (N : Nat) (ops : Array Oper) : Option (List (Bool × CInstr)) :=
  (itemsC P N ops (List.range ops.size)).bind fun is =>
    let ms := masks ops
    let l := flags ms (hoist ms ops.size 0 is)
    if (decide (l.length ≤ ops.size) && okPairs ms l && l.all (okOne ms ops.size) && (List.range ops.size).all (fun j => l.any fun x => x.1 == j)) = true then some (l.map (·.2.2)) else none

theorem itemsC_ok {ops : Array Oper} : ∀ {l : List Nat} {is : List (Nat × Oper × CInstr)}, itemsC P N ops l = some is → ∀ x ∈ is, ops[x.1]? = some x.2.1 ∧ instrD P N ops x.2.1 = some x.2.2
  | [], is, h, x, hx => by simp only [itemsC, Option.some.injEq] at h; subst h; cases hx
  | j :: r, is, h, x, hx => by
    simp only [itemsC] at h
    obtain ⟨o, h1, h⟩ := bind_some h
    obtain ⟨i, h2, h⟩ := bind_some h
    obtain ⟨is', h3, h⟩ := bind_some h
    obtain rfl := Option.some.inj h
    rcases List.mem_cons.1 hx with rfl | hx
    · exact ⟨h1, h2⟩
    · exact itemsC_ok h3 x hx
theorem hoist_mem {ms : List Nat} : ∀ {n listed : Nat} {l : List (Nat × Oper × CInstr)} {x : Nat × Oper × CInstr}, x ∈ hoist ms n listed l → x ∈ l
  | 0, _, l, x, h => h
  | n + 1, listed, l, x, h => by
    unfold hoist at h
    split at h
    · rename_i y hy
      rcases List.mem_cons.1 h with rfl | h
      · exact List.mem_of_find?_eq_some hy
      · exact (List.mem_filter.1 (hoist_mem h)).1
    · split at h
      · rename_i y hy
        rcases List.mem_cons.1 h with rfl | h
        · exact List.mem_of_find?_eq_some hy
        · exact (List.mem_filter.1 (hoist_mem h)).1
      · exact h
theorem okPairs_iff {ms : List Nat} : ∀ {l : List Item}, okPairs ms l = true ↔ l.Pairwise (fun x y => okPair ms x y = true)
  | [] => by simp [okPairs]
  | x :: r => by simp [okPairs, okPairs_iff (l := r)]

theorem wanted_relD {ops : Array Oper} (hs : SlotRel lk σ N s a) {g : Option (Nat × Bool)} (hg : guardC ops o.guard = some g) {b : Bool} (hw : wantedE s g = some b) : Region.wanted o (yielded ops a.tmps) = b := wanted_rel hs hg hw

structure Inv (P : Program) (N : Nat) (ops : Array Oper) (ms : List Nat) (L : List Item) (listed : Array Bool) : Prop where
  size : listed.size = ops.size
  items : ∀ x ∈ L, ops[x.1]? = some x.2.1 ∧ instrD P N ops x.2.1 = some x.2.2.2
  fresh : ∀ x ∈ L, listed.getD x.1 true = false
  all : ∀ j, listed.getD j true = false → ∃ x ∈ L, x.1 = j
  pairs : L.Pairwise (fun x y => okPair ms x y = true)
  ones : ∀ x ∈ L, okOne ms ops.size x = true
  closed : ∀ j, listed.getD j false = true → ∀ k, k < ops.size → (msk ms j).testBit k = true → listed.getD k false = true

theorem getD_tf {l : Array Bool} {j : Nat} (hj : j < l.size) : l.getD j true = l.getD j false := by simp [hj]

theorem Inv.bound {ops : Array Oper} {ms : List Nat} {L : List Item} {listed : Array Bool} (I : Inv P N ops ms L listed) {x : Item} (hx : x ∈ L) : x.1 < ops.size := (Array.getElem?_eq_some_iff.1 (I.items x hx).1).1

theorem Inv.ready_nil {ops : Array Oper} {ms : List Nat} {L : List Item} {listed : Array Bool} (I : Inv P N ops ms L listed) (h : Region.ready .any ops listed = []) : L = [] := by
  cases L with
  | nil => rfl
  | cons x r =>
    have hx : x ∈ x :: r := List.mem_cons_self
    have : x.1 ∈ Region.ready .any ops listed := by
      rw [mem_ready]
      refine ⟨I.fresh x hx, x.2.1, (I.items x hx).1, fun e he hb => ?_⟩
      have h1 := I.ones x hx
      simp only [okOne, Bool.and_eq_true, Array.all_eq_true_iff_forall_mem, Bool.or_eq_true, Bool.not_eq_true', decide_eq_true_eq, bne_iff_ne, ne_eq] at h1
      rcases h1.1 e he with h1 | h1
      · rw [bnds, hb] at h1; cases h1
      · cases hl : listed.getD e.on false with
        | true => rfl
        | false =>
          have hlt : e.on < listed.size := by rw [I.size]; exact h1.1
          obtain ⟨y, hy, hye⟩ := I.all e.on (by rw [getD_tf hlt]; exact hl)
          rcases List.mem_cons.1 hy with rfl | hy
          · exact absurd hye.symm h1.2
          · have h2 := (List.pairwise_cons.1 I.pairs).1 y hy
            simp only [okPair, Bool.and_eq_true, Array.all_eq_true_iff_forall_mem, Bool.or_eq_true, Bool.not_eq_true', bne_iff_ne, ne_eq] at h2
            rcases h2.1.2 e he with h3 | h3
            · rw [bnds, hb] at h3; cases h3
            · exact absurd hye.symm h3
    rw [h] at this
    cases this

theorem Inv.nil_ready {ops : Array Oper} {ms : List Nat} {listed : Array Bool} (I : Inv P N ops ms [] listed) : Region.ready .any ops listed = [] := by
  cases h : Region.ready .any ops listed with
  | nil => rfl
  | cons i r =>
    have : i ∈ Region.ready .any ops listed := by rw [h]; exact List.mem_cons_self
    obtain ⟨y, hy, _⟩ := I.all i (mem_ready.1 this).1
    cases hy

theorem Inv.next {ops : Array Oper} {ms : List Nat} {A B : List Item} {x : Item} {listed : Array Bool} (I : Inv P N ops ms (A ++ x :: B) listed) (hr : x.1 ∈ Region.ready .any ops listed) :
    (∀ y ∈ A, comm y.2.2 x.2.2 = true) ∧ Inv P N ops ms (A ++ B) (listed.setIfInBounds x.1 true) := by
  have hx : x ∈ A ++ x :: B := List.mem_append_right _ List.mem_cons_self
  have hxn := I.bound hx
  have hAB : ∀ y ∈ A ++ B, y ∈ A ++ x :: B := fun y hy => (List.mem_append.1 hy).elim (fun h => List.mem_append_left _ h) (fun h => List.mem_append_right _ (List.mem_cons_of_mem _ h))
  have hp := List.pairwise_append.1 I.pairs
  have hne : ∀ y ∈ A ++ B, x.1 ≠ y.1 := fun y hy => by
    rcases List.mem_append.1 hy with h | h
    · have := hp.2.2 y h x List.mem_cons_self
      simp only [okPair, Bool.and_eq_true, bne_iff_ne, ne_eq] at this
      exact fun e => this.1.1 e.symm
    · have := (List.pairwise_cons.1 hp.2.1).1 y h
      simp only [okPair, Bool.and_eq_true, bne_iff_ne, ne_eq] at this
      exact this.1.1
  obtain ⟨h0, ox, hox, hall⟩ := mem_ready.1 hr
  rw [(I.items x hx).1] at hox
  obtain rfl := Option.some.inj hox
  have hmask : ∀ k, k < ops.size → (msk ms x.1).testBit k = true → listed.getD k false = true := fun k hk hb => by
    have h1 := I.ones x hx
    simp only [okOne, Bool.and_eq_true, List.all_eq_true, List.mem_range, Bool.or_eq_true, Bool.not_eq_true'] at h1
    rcases h1.2 k hk with h2 | h2
    · rw [hb] at h2; cases h2
    · obtain ⟨e, he, h3⟩ := Array.any_eq_true'.1 h2
      simp only [Bool.and_eq_true, Bool.or_eq_true, beq_iff_eq] at h3
      have h4 := hall e he h3.1
      rcases h3.2 with h5 | h5
      · rw [← h5]; exact h4
      · exact I.closed e.on h4 k hk h5
  refine ⟨fun y hy => ?_, ⟨by simp [I.size], fun y hy => I.items y (hAB y hy), fun y hy => ?_, fun j hj => ?_, ?_, fun y hy => I.ones y (hAB y hy), fun j hj k hk hb => ?_⟩⟩
  · have h1 := hp.2.2 y hy x List.mem_cons_self
    simp only [okPair, Bool.and_eq_true, Bool.or_eq_true] at h1
    rcases h1.2 with h2 | h2
    · have hyn := I.bound (List.mem_append_left _ hy)
      have h3 := hmask y.1 hyn h2
      have h4 := I.fresh y (List.mem_append_left _ hy)
      rw [getD_tf (by rw [I.size]; exact hyn), h3] at h4
      cases h4
    · exact h2
  · rw [getD_set_ne true (hne y hy)]; exact I.fresh y (hAB y hy)
  · by_cases hjx : x.1 = j
    · subst hjx
      simp [I.size, hxn] at hj
    · rw [getD_set_ne true hjx] at hj
      obtain ⟨y, hy, hyj⟩ := I.all j hj
      refine ⟨y, ?_, hyj⟩
      rcases List.mem_append.1 hy with h | h
      · exact List.mem_append_left _ h
      · rcases List.mem_cons.1 h with rfl | h
        · exact absurd hyj hjx
        · exact List.mem_append_right _ h
  · exact I.pairs.sublist (List.Sublist.append_left (List.sublist_cons_self x B) A)
  · by_cases hjx : x.1 = j
    · subst hjx
      exact getD_set_true (hmask k hk hb)
    · rw [getD_set_ne false hjx] at hj
      exact getD_set_true (I.closed j hj k hk hb)

theorem draw_any (hE : SoundCalls B0 P gl E) {ops : Array Oper} {ms : List Nat} {Q : Exit → Act → World → Prop} : ∀ (fuel : Nat) (L : List Item) (listed : Array Bool) {s s' : Slots} {st st' : Store} {lk : Locks} {σ : Sig} {a : Act} {w : World}
    (_ : Inv P N ops ms L listed) (_ : L.length ≤ fuel) (_ : evalD E gl (L.map (·.2.2)) s st = some (s', st')) (_ : SlotRel lk σ N s a) (_ : Sim B0 lk σ st w) (_ : GlobOk lk gl)
    (_ : ∀ lk' σ' a' w', SlotRel lk' σ' N s' a' → Sim B0 lk' σ' st' w' → Step lk σ st w lk' σ' st' w' → Q .normal a' w'), wpAny P .any ops Q fuel listed a w
  | fuel, [], listed, s, s', st, st', lk, σ, a, w, I, hf, he, hs, hS, hg, hQ => by
    simp only [List.map_nil, evalD, Option.some.injEq, Prod.mk.injEq] at he
    obtain ⟨rfl, rfl⟩ := he
    exact wpAny_done I.nil_ready (hQ lk σ a w hs hS Step.refl) fuel
  | 0, x :: r, listed, s, s', st, st', lk, σ, a, w, I, hf, he, hs, hS, hg, hQ => by simp at hf
  | fuel + 1, x0 :: r0, listed, s, s', st, st', lk, σ, a, w, I, hf, he, hs, hS, hg, hQ => by
    refine ⟨fun h => absurd (I.ready_nil h) (by simp), fun i hi => ?_⟩
    obtain ⟨x, hx, hxi⟩ := I.all i (mem_ready.1 hi).1
    subst hxi
    obtain ⟨A, B, hAB⟩ := List.append_of_mem hx
    rw [hAB] at I he hf
    obtain ⟨hcomm, I'⟩ := I.next hi
    rw [List.map_append, List.map_cons] at he
    have he' := evalD_front (fun y hy => by obtain ⟨z, hz, rfl⟩ := List.mem_map.1 hy; exact hcomm z hz) he
    simp only [evalD] at he'
    obtain ⟨⟨v, st1⟩, h1, h2⟩ := bind_some he'
    simp only [] at h2
    rw [← List.map_append] at h2
    obtain ⟨ho, hins⟩ := I.items x (List.mem_append_right _ List.mem_cons_self)
    have hlen : (A ++ B).length ≤ fuel := by simp at hf ⊢; omega
    unfold wpOp
    simp only [ho]
    generalize hci : x.2.2.2 = ci at *
    obtain ⟨xj, xo, xk, xc⟩ := x
    simp only [] at hci hins h1 h2 ho I' hi
    subst hci
    unfold instrD at hins
    obtain ⟨g, hgd, hins⟩ := bind_some hins
    split at hins
    · rename_i hd
      obtain rfl := Option.some.inj hins
      have hdd : ∀ k, xo.dst = some k → k < N := fun k hk => by rw [hk] at hd; simpa [dstOk] using hd
      unfold outD at h1
      obtain ⟨b, hb, h1⟩ := bind_some h1
      have hw := wanted_rel hs hgd hb
      rw [hw]
      cases b with
      | true =>
        simp only [if_true] at h1 ⊢
        obtain ⟨⟨v', st2⟩, h3, h1⟩ := bind_some h1
        have hvs : (v', st2) = (v, st1) := by
          simp only [] at h1
          split at h1
          · exact Option.some.inj h1
          · cases h1
        obtain ⟨rfl, rfl⟩ := Prod.mk.inj hvs
        left
        simp only [opS] at h3
        cases hco : opC P xo.op with
        | none => rw [hco] at h3; cases h3
        | some co =>
        rw [hco] at h3
        refine fz_sound hE hS hs hg hco h3 _ _ (fun lk' σ' u w' q1 q2 q3 => ?_)
        exact draw_any hE fuel (A ++ B) _ I' hlen h2 ((hs.step q3).put q1 hdd) q2 (hg.mono q3.lks) (fun lk2 σ2 a2 w2 p1 p2 p3 => hQ lk2 σ2 a2 w2 p1 p2 (q3.trans p3))
      | false =>
        simp only [Bool.false_eq_true, if_false, Option.some.injEq, Prod.mk.injEq] at h1 ⊢
        obtain ⟨rfl, rfl⟩ := h1
        exact draw_any hE fuel (A ++ B) _ I' hlen h2 (hs.put (Rel.mk_tup RelL.nil) hdd) hS hg hQ
    · cases hins

theorem draw_sound (hE : SoundCalls B0 P gl E) {ops : Array Oper} {id : Nat} {Q : Exit → Act → World → Prop} {is : List (Bool × CInstr)} (hm : P.follows .mixedOrders = true) (hc : drawC P N ops = some is)
    (he : evalD E gl is s st = some (s', st')) (hs : SlotRel lk σ N s a) (hS : Sim B0 lk σ st w) (hg : GlobOk lk gl)
    (hQ : ∀ lk' σ' a' w', SlotRel lk' σ' N s' a' → Sim B0 lk' σ' st' w' → Step lk σ st w lk' σ' st' w' → Q .normal a' w') : (Code.region id ops true).wp P Q a w := by
  unfold drawC at hc
  obtain ⟨is0, h1, hc⟩ := bind_some hc
  simp only [] at hc
  split at hc
  · rename_i hk
    obtain rfl := Option.some.inj hc
    simp only [Bool.and_eq_true] at hk
    obtain ⟨⟨⟨k0, k1⟩, k2⟩, k3⟩ := hk
    generalize hL : flags (masks ops) (hoist (masks ops) ops.size 0 is0) = L at *
    refine wp_region_any hm ?_
    have I : Inv P N ops (masks ops) L (Array.replicate ops.size false) := by
      refine ⟨by simp, fun x hx => ?_, fun x hx => ?_, fun j hj => ?_, okPairs_iff.1 k1, List.all_eq_true.1 k2, fun j hj => ?_⟩
      · rw [← hL] at hx
        obtain ⟨y, hy, rfl⟩ := List.mem_map.1 hx
        exact itemsC_ok h1 y (hoist_mem hy)
      · have hlt : x.1 < ops.size := by
          rw [← hL] at hx
          obtain ⟨y, hy, rfl⟩ := List.mem_map.1 hx
          exact (Array.getElem?_eq_some_iff.1 (itemsC_ok h1 y (hoist_mem hy)).1).1
        simp [hlt]
      · have hlt : j < ops.size := by
          rcases Nat.lt_or_ge j ops.size with h | h
          · exact h
          · simp [h] at hj
        have := List.all_eq_true.1 k3 j (List.mem_range.2 hlt)
        obtain ⟨x, hx, hxj⟩ := List.any_eq_true.1 this
        exact ⟨x, hx, by simpa using hxj⟩
      · rcases Nat.lt_or_ge j ops.size with h | h
        · simp [h] at hj
        · simp [h] at hj
    have hS1 : Sim B0 lk σ st { w with drawn := w.drawn + 1 } :=
      ⟨hS.dom, hS.top, hS.cur, fun id B L h1 h2 => ⟨⟨(hS.boxes id B L h1 h2).1.cells, (hS.boxes id B L h1 h2).1.size, (hS.boxes id B L h1 h2).1.each, (hS.boxes id B L h1 h2).1.zero, (hS.boxes id B L h1 h2).1.lkle, (hS.boxes id B L h1 h2).1.free⟩, (hS.boxes id B L h1 h2).2⟩, hS.apart, hS.locked, hS.base⟩
    refine draw_any hE ops.size L _ I (of_decide_eq_true k0) he hs hS1 hg (fun lk' σ' a' w' p1 p2 p3 => hQ lk' σ' a' w' p1 p2 ⟨p3.lks, p3.sig, p3.own, p3.frame, p3.ghost, p3.len, p3.os, p3.tape, p3.output, p3.size⟩)
  · cases hc
end
end Go.Vs
