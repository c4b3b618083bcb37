/-
  Steps of the evaluator in a store of which not all is known: a slice that grows in a loop. Under no condition.
-/
import Derived.Test.YtachdfhodbdoiaaDoorVsSu
namespace Go.Vs
open Go
section
variable {gl : Nat → List PV} {E : Req → Option Res} {prog : FuncId → Option CFunc} {s : Slots} {st st' : Store} {v w : PV} {x y a : Opd}

theorem op_movG (h : x.ev gl s = v) : evalOp E gl s st (.mov x) = some (v, st) := by rw [← h]; rfl
theorem op_allocG {e : TypeId} {zs : List PV} : evalOp E gl s st (.alloc e zs) = some (.ptr st.length 0 0 0, st ++ [Box.mk [zs] false 0 e 0 false]) := rfl
theorem op_stG {id nn off z e lk : Nat} {cs ds : List PV} (ha : a.ev gl s = .ptr id 0 0 off) (hx : x.ev gl s = .agg ds) (ho : ds.all oneP = true) (hn : ds.length = nn) (hB : st[id]? = some (Box.mk [cs] false z e lk false)) (hl : off + nn ≤ cs.length) : evalOp E gl s st (.st nn a x) = some (.undef, st.set id (Box.mk [putCells cs off ds] false z e lk false)) := by
  simp only [evalOp, ha, hx, cellsOf, hn, ho, and_self, if_true, writeP, hB, Option.bind_some, Box.gen, Bool.false_eq_true, if_false, false_implies, List.getElem?_cons_zero]
  rw [if_pos hl]
  simp only [Option.bind_some, List.set_cons_zero]
theorem op_ldaG {id nn off z e lk : Nat} {fz : Bool} {cs : List PV} (ha : a.ev gl s = .ptr id 0 0 off) (hB : st[id]? = some (Box.mk [cs] false z e lk fz)) (hl : off + nn ≤ cs.length) : evalOp E gl s st (.lda nn a) = some (.agg ((cs.drop off).take nn), st) := by
  simp only [evalOp, ha, readP, hB, Option.bind_some, Box.gen, Bool.false_eq_true, if_false, List.getElem?_cons_zero, if_true]
  rw [if_pos hl]; rfl

/-- A slice that grows: what its variable holds, its elements. -/
def OutIs (st : Store) (v : PV) (es : List (List PV)) (size : Nat) (e : TypeId) : Prop := (es = [] ∧ v = .nilsl) ∨ (es ≠ [] ∧ ∃ id lk, v = .row id es.length ∧ st[id]? = some (Box.mk es true size e lk false))
theorem OutIs.nil {size : Nat} {e : TypeId} : OutIs st .nilsl [] size e := .inl ⟨rfl, rfl⟩
theorem OutIs.more {es : List (List PV)} {size : Nat} {e : TypeId} (h : OutIs st v es size e) (l : List Box) : OutIs (st ++ l) v es size e := by
  rcases h with h | ⟨h1, id, lk, h2, h3⟩
  · exact .inl h
  · exact .inr ⟨h1, id, lk, h2, by rw [List.getElem?_append_left (List.getElem?_eq_some_iff.1 h3).1]; exact h3⟩
/-- Another box written: it stays. -/
theorem OutIs.set {es : List (List PV)} {size : Nat} {e : TypeId} (h : OutIs st v es size e) {j : Nat} {B B' : Box} (hB : st[j]? = some B) (hr : B.isRow = false) : OutIs (st.set j B') v es size e := by
  rcases h with h | ⟨h1, id, lk, h2, h3⟩
  · exact .inl h
  · refine .inr ⟨h1, id, lk, h2, ?_⟩
    have hne : j ≠ id := by rintro rfl; rw [hB] at h3; cases h3; cases hr
    rw [List.getElem?_set_ne hne]; exact h3
theorem OutIs.lt {es : List (List PV)} {size : Nat} {e : TypeId} {id n : Nat} (h : OutIs st (.row id n) es size e) : id < st.length := by
  rcases h with ⟨_, h⟩ | ⟨_, id', lk, h2, h3⟩
  · cases h
  · cases h2; exact (List.getElem?_eq_some_iff.1 h3).1
/-- Elements appended: the slice is longer; what is no row stays, and nothing goes. -/
theorem app_out {b : Bool} {e : TypeId} {size bytes : Nat} {es new : List (List PV)} (hx : x.ev gl s = v) (ho : OutIs st v es size e) (hy : srcE b st (y.ev gl s) = some new) (hn : okNew size new = true) (hs : 0 < size) (hb : (es.length + new.length) * bytes ≤ 140737488355328) (hc : es.length + new.length ≤ 281474976710656) :
    ∃ v' st', evalOp E gl s st (.app b e size bytes x y) = some (v', st') ∧ OutIs st' v' (es ++ new) size e ∧ st.length ≤ st'.length ∧ ∀ (j : Nat) (B : Box), st[j]? = some B → B.isRow = false → st'[j]? = some B := by
  have hn' : (new.all fun e => decide (e.length = size) && e.all (ref1 0)) = true := hn
  rcases ho with ⟨h1, h2⟩ | ⟨h1, id, lk, h2, h3⟩
  · subst h1; subst h2
    by_cases h0 : new.length = 0
    · have : new = [] := List.eq_nil_of_length_eq_zero h0
      subst this
      refine ⟨.nilsl, st, ?_, .inl ⟨rfl, rfl⟩, Nat.le_refl _, fun j B hB _ => hB⟩
      simp only [evalOp, hy, Option.bind_some, hx]
      rw [if_pos ⟨hn', hs⟩]
      simp [appE]
    · have hne : new ≠ [] := by rintro rfl; exact h0 rfl
      refine ⟨.row st.length new.length, st ++ [Box.mk new true size e 0 false], ?_, .inr ⟨by simpa using hne, st.length, 0, by simp, by simp⟩, by simp, fun j B hB _ => by rw [List.getElem?_append_left (List.getElem?_eq_some_iff.1 hB).1]; exact hB⟩
      simp only [evalOp, hy, Option.bind_some, hx]
      rw [if_pos ⟨hn', hs⟩]
      simp only [appE]
      rw [if_pos ⟨by simpa using hb, by simpa using hc⟩, if_neg h0]
  · subst h2
    refine ⟨.row id (es.length + new.length), st.set id (Box.mk (es ++ new) true size e lk false), ?_, .inr ⟨by simp [h1], id, lk, by simp, List.getElem?_set_self (List.getElem?_eq_some_iff.1 h3).1⟩, by simp, fun j B hB hr => ?_⟩
    · simp only [evalOp, hy, Option.bind_some, hx]
      rw [if_pos ⟨hn', hs⟩]
      simp only [appE, h3, Option.bind_some]
      rw [if_pos ⟨trivial, trivial, trivial, trivial, trivial, hb, hc⟩]
    · have hne' : id ≠ j := by rintro rfl; rw [hB] at h3; cases h3; cases hr
      rw [List.getElem?_set_ne hne']; exact hB
theorem opt_app {b : Bool} {e : TypeId} {size bytes d : Nat} {es new : List (List PV)} {r : List CInstr} {Q : Slots × Store → Prop} (hx : x.ev gl s = v) (ho : OutIs st v es size e) (hy : srcE b st (y.ev gl s) = some new) (hn : okNew size new = true) (hs : 0 < size) (hb : (es.length + new.length) * bytes ≤ 140737488355328) (hc : es.length + new.length ≤ 281474976710656)
    (k : ∀ v' st', OutIs st' v' (es ++ new) size e → st.length ≤ st'.length → (∀ (j : Nat) (B : Box), st[j]? = some B → B.isRow = false → st'[j]? = some B) → Ev (evalOps E gl r (upd s d v') st') Q) : Ev (evalOps E gl (⟨some d, none, .app b e size bytes x y⟩ :: r) s st) Q := by
  obtain ⟨v', st', h1, h2, h3, h4⟩ := app_out (E := E) (gl := gl) (s := s) (x := x) (y := y) hx ho hy hn hs hb hc
  exact e_step (si_op h1) (k v' st' h2 h3 h4)
theorem src_last {e : TypeId} {g sz lk : Nat} {es : List (List PV)} {fz : Bool} (hl : es.length = g) : srcE false (st ++ [Box.mk es true sz e lk fz]) (.row st.length g) = some es := by
  simp only [srcE, Bool.false_eq_true, if_false, elemsOf, List.getElem?_append_right (Nat.le_refl _), Nat.sub_self, List.getElem?_cons_zero, Option.bind_some]
  rw [if_pos ⟨trivial, hl⟩]
theorem set_last {B B' : Box} : (st ++ [B]).set st.length B' = st ++ [B'] := by
  rw [List.set_append_right _ _ (Nat.le_refl _)]; simp
theorem get_last {B : Box} : (st ++ [B])[st.length]? = some B := by simp
/-- Frozen: what a call hands back. -/
theorem OutIs.frz {es : List (List PV)} {size : Nat} {e : TypeId} (h : OutIs st v es size e) (hf : (es.all fun e => e.all (ref1 0)) = true) : ∃ st', frz1 false st v = some (.sl es, st') ∧ st'.length = st.length := by
  rcases h with ⟨h1, h2⟩ | ⟨h1, id, lk, h2, h3⟩
  · subst h1; subst h2; exact ⟨st, rfl, rfl⟩
  · subst h2
    refine ⟨st.set id { Box.mk es true size e lk false with lk := es.length }, ?_, by simp⟩
    simp only [frz1, h3, Option.bind_some]
    rw [if_pos ⟨trivial, trivial, hf⟩]
theorem OutIs.args {es : List (List PV)} {size : Nat} {e : TypeId} (h : OutIs st v es size e) (hf : (es.all fun e => e.all (ref1 0)) = true) : ∃ st', frzA false st [v] = some ([.sl es], st') ∧ st'.length = st.length := by
  obtain ⟨st', h1, h2⟩ := h.frz hf
  have h3 : frz2 false st v = some (.sl es, st') := by
    rcases h with ⟨_, h⟩ | ⟨_, id, lk, h, _⟩ <;> (subst h; exact h1)
  exact ⟨st', by simp only [frzA, h3, Option.bind_some], h2⟩
theorem OutIs.len {es : List (List PV)} {size : Nat} {e : TypeId} (h : OutIs st v es size e) (hx : x.ev gl s = v) : evalOp E gl s st (.len false x) = some (.int .i64 es.length, st) := by
  rcases h with ⟨h1, h2⟩ | ⟨h1, id, lk, h2, h3⟩
  · subst h1; subst h2; exact op_lenn hx
  · subst h2; exact op_lenr hx
/-- A call's end: a slice that was made is handed back. -/
theorem left_out {i : Nat} {es : List (List PV)} {size : Nat} {e : TypeId} (hi : s i = v) (h : OutIs st v es size e) (hf : (es.all fun e => e.all (ref1 0)) = true) : Left2 false [.tmp i] [] (.sl es) [] ⟨.ret, w, s, st⟩ := by
  obtain ⟨st', h1, h2⟩ := h.frz hf
  refine ⟨.inr rfl, ?_⟩
  have h3 : frz3 false st v = some (.sl es, st') := by
    rcases h with ⟨_, h⟩ | ⟨_, id, lk, h, _⟩ <;> (subst h; exact h1)
  simp only [leaveB, resL, resE, hi, Option.bind_some, one, h3]
  rfl
theorem left_out2 {i j : Nat} {u : PV} {es : List (List PV)} {size : Nat} {e : TypeId} (hi : s i = v) (hj : s j = u) (h : OutIs st v es size e) (hf : (es.all fun e => e.all (ref1 0)) = true) (hu : ∀ st, frz2 false st u = some (u, st)) (hr : ref2 0 u = true) : Left2 false [.tmp i, .tmp j] [] (.tup [.sl es, u]) [] ⟨.ret, w, s, st⟩ := by
  obtain ⟨st', h1, h2⟩ := h.frz hf
  refine ⟨.inr rfl, ?_⟩
  have h3 : frz2 false st v = some (.sl es, st') := by
    rcases h with ⟨_, h⟩ | ⟨_, id, lk, h, _⟩ <;> (subst h; exact h1)
  have h4 : frz3 false st (.tup [v, u]) = some (.tup [.sl es, u], st') := by
    simp only [frz3, frzA, h3, Option.bind_some, hu]
  simp only [leaveB, resL, resE, hi, hj, Option.bind_some, one, h4]
  have h5 : ref3 0 (.tup [.sl es, u]) = true := by simp [ref3, ref2, ref1, ref0] at hr ⊢; exact hr
  rw [h5]
  rfl
end
end Go.Vs
