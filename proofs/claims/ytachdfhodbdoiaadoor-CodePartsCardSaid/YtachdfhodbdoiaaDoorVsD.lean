/-
  What becomes of the store and the memory together: a box is changed, a box is made, cells are read, cells are written, a row is frozen. Under no condition.
-/
import Derived.Test.YtachdfhodbdoiaaDoorVsC
import Derived.Deep.MidRow
namespace Go.Vs
open Go

/-- Σ with one place more. -/
def Sig.put (σ : Sig) (id g : Nat) (L : Loc) : Sig := fun i h => if i = id ∧ h = g then some L else σ i h

section
variable {B0 : Nat} {lk lk' : Locks} {σ : Sig} {st : Store} {w w' : World}

theorem Sig.put_self (σ : Sig) (id g : Nat) (L : Loc) : σ.put id g L id g = some L := by simp [Sig.put]
theorem Sig.put_mono {id g : Nat} {L : Loc} (h : ∀ L', σ id g = some L' → L' = L) : ∀ i h L', σ i h = some L' → σ.put id g L i h = some L' := by
  intro i k L' hs
  unfold Sig.put
  by_cases e : i = id ∧ k = g
  · obtain ⟨rfl, rfl⟩ := e; simp [h L' hs]
  · simp [e, hs]

theorem BoxOk.keep {L : Loc} {B : Box} (h : BoxOk lk σ w L B) (σ' : Sig) (hl : ∀ a u, lk a = some u → lk' a = some u) (hs : ∀ i g L', σ i g = some L' → σ' i g = some L')
    (hb : w'.heap[L.b]? = w.heap[L.b]?) (hf : ∀ a : Addr, a.block = L.b → lk' a = lk a) : BoxOk lk' σ' w' L B := by
  obtain ⟨cur, fr, h1, h2, h3, h4, h5⟩ := h.cells
  refine ⟨⟨cur, fr, hb.trans h1, h2, h3, h4, fun i e hi j v hv => ?_⟩, h.size, h.each, h.zero, h.lkle, fun j hj => ?_⟩
  · obtain ⟨u, hu, hr⟩ := h5 i e hi j v hv
    exact ⟨u, hu, hr.mono hl hs⟩
  · rw [hf _ rfl]; exact h.free j hj

/-- A box is changed, where it lies or in a new place. -/
theorem Sim.setBox (hS : Sim B0 lk σ st w) {id : Nat} {B B' : Box} {L L' : Loc} (hB : st[id]? = some B) (hL : σ id B.gen = some L)
    (hg : B.gen ≤ B'.gen) (hcon : B'.gen = B.gen → L' = L) (hplace : L'.b = L.b ∨ w.heap.size ≤ L'.b)
    (hl : ∀ a u, lk a = some u → lk' a = some u) (hnew : ∀ a : Addr, a.block ≠ L.b → lk' a = lk a)
    (hcell : ∀ a v, a.block = L.b → lk' a = some v → a.spot = none ∧ w'.cell? a = some v)
    (hframe : ∀ k, k < w.heap.size → k ≠ L.b → w'.heap[k]? = w.heap[k]?) (hsz : w.heap.size ≤ w'.heap.size)
    (hos : w'.os = w.os) (htape : w'.tape = w.tape) (hout : w'.output = w.output)
    (hok : BoxOk lk' (σ.put id B'.gen L') w' L' B') :
    Sim B0 lk' (σ.put id B'.gen L') (st.set id B') w' ∧ Step lk σ st w lk' (σ.put id B'.gen L') (st.set id B') w' := by
  have hid : id < st.length := by
    have := List.getElem?_eq_some_iff.1 hB; exact this.1
  have hmono : ∀ i h L'', σ i h = some L'' → σ.put id B'.gen L' i h = some L'' := Sig.put_mono (fun L'' h => by
    have := hS.top id _ _ B h hB
    have he : B'.gen = B.gen := Nat.le_antisymm this hg
    rw [hcon he]
    rw [he, hL] at h
    exact (Option.some.inj h).symm)
  have hltL : L.b < w.heap.size := by
    obtain ⟨cur, fr, h1, _⟩ := (hS.boxes id B L hB hL).1.cells
    exact (Array.getElem?_eq_some_iff.1 h1).1
  have hother : ∀ id2 B2 L2, id2 ≠ id → st[id2]? = some B2 → σ id2 B2.gen = some L2 → L2.b ≠ L.b ∧ L2.b < w.heap.size := by
    intro id2 B2 L2 hne h2 hs2
    refine ⟨fun e => hne (hS.apart id2 id B2 B L2 L h2 hB hs2 hL e), ?_⟩
    obtain ⟨cur, fr, h1, _⟩ := (hS.boxes id2 B2 L2 h2 hs2).1.cells
    exact (Array.getElem?_eq_some_iff.1 h1).1
  have hput : ∀ id2 g2, id2 ≠ id → σ.put id B'.gen L' id2 g2 = σ id2 g2 := fun id2 g2 hne => by simp [Sig.put, hne]
  have hset : ∀ id2, id2 ≠ id → (st.set id B')[id2]? = st[id2]? := fun id2 hne => List.getElem?_set_ne (fun e => hne e.symm)
  have hself : (st.set id B')[id]? = some B' := by rw [List.getElem?_set_self hid]
  refine ⟨⟨?_, ?_, ?_, ?_, ?_, ?_, Nat.le_trans hS.base hsz⟩, ⟨hl, hmono, ?_, ?_, ?_, by simp, hos, htape, hout, hsz⟩⟩
  · intro i g L2 hs
    by_cases e : i = id
    · subst e; simpa using hid
    · rw [hput i g e] at hs; simpa using hS.dom i g L2 hs
  · intro i g L2 B2 hs h2
    by_cases e : i = id
    · subst e
      rw [hself] at h2
      obtain rfl := Option.some.inj h2
      unfold Sig.put at hs
      by_cases eg : g = B'.gen
      · omega
      · simp [eg] at hs
        have := hS.top i g L2 B hs hB
        omega
    · rw [hput i g e] at hs; rw [hset i e] at h2; exact hS.top i g L2 B2 hs h2
  · intro i g L2 B2 hs h2
    by_cases e : i = id
    · subst e
      rw [hself] at h2
      obtain rfl := Option.some.inj h2
      exact ⟨L', Sig.put_self _ _ _ _⟩
    · rw [hput i g e] at hs; rw [hset i e] at h2
      obtain ⟨L3, h3⟩ := hS.cur i g L2 B2 hs h2
      exact ⟨L3, by rw [hput i _ e]; exact h3⟩
  · intro i B2 L2 h2 hs
    by_cases e : i = id
    · subst e
      rw [hself] at h2
      obtain rfl := Option.some.inj h2
      rw [Sig.put_self] at hs
      obtain rfl := Option.some.inj hs
      refine ⟨hok, ?_⟩
      rcases hplace with h | h
      · rw [h]; exact (hS.boxes i B L hB hL).2
      · exact Nat.le_trans hS.base h
    · rw [hput i _ e] at hs; rw [hset i e] at h2
      obtain ⟨h3, h4⟩ := hS.boxes i B2 L2 h2 hs
      obtain ⟨h5, h6⟩ := hother i B2 L2 e h2 hs
      exact ⟨h3.keep _ hl hmono (hframe _ h6 h5) (fun a ha => hnew a (by rw [ha]; exact h5)), h4⟩
  · intro i i2 B2 B3 L2 L3 h2 h3 hs2 hs3 he
    by_cases e : i = id
    · subst e
      by_cases e2 : i2 = i
      · exact e2.symm
      · exfalso
        rw [hself] at h2
        obtain rfl := Option.some.inj h2
        rw [Sig.put_self] at hs2
        obtain rfl := Option.some.inj hs2
        rw [hput i2 _ e2] at hs3; rw [hset i2 e2] at h3
        obtain ⟨h5, h6⟩ := hother i2 B3 L3 e2 h3 hs3
        rcases hplace with h | h
        · exact h5 (he.symm.trans h)
        · omega
    · rw [hput i _ e] at hs2; rw [hset i e] at h2
      obtain ⟨h5, h6⟩ := hother i B2 L2 e h2 hs2
      by_cases e2 : i2 = id
      · subst e2
        exfalso
        rw [hself] at h3
        obtain rfl := Option.some.inj h3
        rw [Sig.put_self] at hs3
        obtain rfl := Option.some.inj hs3
        rcases hplace with h | h
        · exact h5 (he.trans h)
        · omega
      · rw [hput i2 _ e2] at hs3; rw [hset i2 e2] at h3
        exact hS.apart i i2 B2 B3 L2 L3 h2 h3 hs2 hs3 he
  · intro a v ha
    by_cases e : a.block = L.b
    · exact hcell a v e ha
    · rw [hnew a e] at ha
      obtain ⟨h1, h2⟩ := hS.locked a v ha
      exact ⟨h1, by rw [World.cell?_of_block (hframe a.block (World.block_lt_of_cell? w a h2) e)]; exact h2⟩
  · intro k hk
    obtain ⟨i, B2, L2, h2, hs, rfl⟩ := hk
    by_cases e : i = id
    · subst e
      rw [hself] at h2
      obtain rfl := Option.some.inj h2
      rw [Sig.put_self] at hs
      obtain rfl := Option.some.inj hs
      rcases hplace with h | h
      · exact .inr ⟨i, B, L, hB, hL, h.symm⟩
      · exact .inl h
    · rw [hput i _ e] at hs; rw [hset i e] at h2
      exact .inr ⟨i, B2, L2, h2, hs, rfl⟩
  · intro k hk ho
    exact hframe k hk (fun e => ho ⟨id, B, L, hB, hL, e.symm⟩)
  · intro i hi hn g
    have e : i ≠ id := fun e => by subst e; rw [hn] at hL; cases hL
    rw [hput i g e]; exact hn g

/-- A box is made, in a new block. -/
theorem Sim.push (hS : Sim B0 lk σ st w) {B : Box} {L : Loc} (hLb : w.heap.size ≤ L.b)
    (hframe : ∀ k, k < w.heap.size → w'.heap[k]? = w.heap[k]?) (hsz : w.heap.size ≤ w'.heap.size)
    (hos : w'.os = w.os) (htape : w'.tape = w.tape) (hout : w'.output = w.output)
    (hok : BoxOk lk (σ.put st.length B.gen L) w' L B) :
    Sim B0 lk (σ.put st.length B.gen L) (st ++ [B]) w' ∧ Step lk σ st w lk (σ.put st.length B.gen L) (st ++ [B]) w' := by
  have hmono : ∀ i h L'', σ i h = some L'' → σ.put st.length B.gen L i h = some L'' := Sig.put_mono (fun L'' h => absurd (hS.dom _ _ _ h) (by omega))
  have hput : ∀ id2 g2, id2 < st.length → σ.put st.length B.gen L id2 g2 = σ id2 g2 := fun id2 g2 hne => by simp [Sig.put, Nat.ne_of_lt hne]
  have hget : ∀ i B2, (st ++ [B])[i]? = some B2 → (i < st.length ∧ st[i]? = some B2) ∨ (i = st.length ∧ B2 = B) := by
    intro i B2 h
    by_cases hi : i < st.length
    · rw [List.getElem?_append_left hi] at h; exact .inl ⟨hi, h⟩
    · rw [List.getElem?_append_right (by omega)] at h
      by_cases e : i = st.length
      · subst e; simp at h; exact .inr ⟨rfl, h.symm⟩
      · rw [List.getElem?_eq_none (by simp; omega)] at h; cases h
  have hold : ∀ id2 B2 L2, st[id2]? = some B2 → σ id2 B2.gen = some L2 → L2.b < w.heap.size := by
    intro id2 B2 L2 h2 hs2
    obtain ⟨cur, fr, h1, _⟩ := (hS.boxes id2 B2 L2 h2 hs2).1.cells
    exact (Array.getElem?_eq_some_iff.1 h1).1
  refine ⟨⟨?_, ?_, ?_, ?_, ?_, ?_, Nat.le_trans hS.base hsz⟩, ⟨fun _ _ h => h, hmono, ?_, ?_, ?_, by simp, hos, htape, hout, hsz⟩⟩
  · intro i g L2 hs
    by_cases e : i = st.length
    · simp [e]
    · simp [Sig.put, e] at hs; have := hS.dom i g L2 hs; simp; omega
  · intro i g L2 B2 hs h2
    rcases hget i B2 h2 with ⟨h3, h4⟩ | ⟨rfl, rfl⟩
    · rw [hput i g h3] at hs; exact hS.top i g L2 B2 hs h4
    · unfold Sig.put at hs
      by_cases eg : g = B2.gen
      · omega
      · simp [eg] at hs; exact absurd (hS.dom _ _ _ hs) (by omega)
  · intro i g L2 B2 hs h2
    rcases hget i B2 h2 with ⟨h3, h4⟩ | ⟨rfl, rfl⟩
    · rw [hput i g h3] at hs
      obtain ⟨L3, h5⟩ := hS.cur i g L2 B2 hs h4
      exact ⟨L3, by rw [hput i _ h3]; exact h5⟩
    · exact ⟨L, Sig.put_self _ _ _ _⟩
  · intro i B2 L2 h2 hs
    rcases hget i B2 h2 with ⟨h3, h4⟩ | ⟨rfl, rfl⟩
    · rw [hput i _ h3] at hs
      obtain ⟨h5, h6⟩ := hS.boxes i B2 L2 h4 hs
      exact ⟨h5.keep _ (fun _ _ h => h) hmono (hframe _ (hold i B2 L2 h4 hs)) (fun _ _ => rfl), h6⟩
    · rw [Sig.put_self] at hs
      obtain rfl := Option.some.inj hs
      exact ⟨hok, Nat.le_trans hS.base hLb⟩
  · intro i i2 B2 B3 L2 L3 h2 h3 hs2 hs3 he
    rcases hget i B2 h2 with ⟨h4, h5⟩ | ⟨rfl, rfl⟩
    · rw [hput i _ h4] at hs2
      have := hold i B2 L2 h5 hs2
      rcases hget i2 B3 h3 with ⟨h6, h7⟩ | ⟨rfl, rfl⟩
      · rw [hput i2 _ h6] at hs3
        exact hS.apart i i2 B2 B3 L2 L3 h5 h7 hs2 hs3 he
      · rw [Sig.put_self] at hs3
        obtain rfl := Option.some.inj hs3
        omega
    · rw [Sig.put_self] at hs2
      obtain rfl := Option.some.inj hs2
      rcases hget i2 B3 h3 with ⟨h6, h7⟩ | ⟨rfl, rfl⟩
      · rw [hput i2 _ h6] at hs3
        have := hold i2 B3 L3 h7 hs3
        omega
      · rfl
  · intro a v ha
    obtain ⟨h1, h2⟩ := hS.locked a v ha
    exact ⟨h1, by rw [World.cell?_of_block (hframe a.block (World.block_lt_of_cell? w a h2))]; exact h2⟩
  · intro k hk
    obtain ⟨i, B2, L2, h2, hs, rfl⟩ := hk
    rcases hget i B2 h2 with ⟨h4, h5⟩ | ⟨rfl, rfl⟩
    · rw [hput i _ h4] at hs; exact .inr ⟨i, B2, L2, h5, hs, rfl⟩
    · rw [Sig.put_self] at hs
      obtain rfl := Option.some.inj hs
      exact .inl hLb
  · intro k hk _; exact hframe k hk
  · intro i hi hn g
    rw [hput i g hi]; exact hn g

theorem Sim.free (hS : Sim B0 lk σ st w) {b : Nat} (hb : w.heap.size ≤ b) (o : Nat) (sp : Option Nat) : lk ⟨b, o, sp⟩ = none := by
  cases h : lk ⟨b, o, sp⟩ with
  | none => rfl
  | some v =>
    obtain ⟨_, h2⟩ := hS.locked _ _ h
    have := World.block_lt_of_cell? w _ h2
    simp at this; omega

/-- Cells are read. -/
theorem Sim.read (hS : Sim B0 lk σ st w) {p : PV} {u : Value} {n : Nat} {xs : List PV} (hp : Rel lk σ p u) (hx : readP st n p = some xs) :
    xs.length = n ∧ ∃ (b off : Nat) (vs : List Value), u = .pointer (some ⟨b, off, none⟩) ∧ vs.length = n ∧ (∀ (j : Nat) v, vs[j]? = some v → w.cell? ⟨b, off + j, none⟩ = some v) ∧ ∀ (j : Nat) c v, xs[j]? = some c → vs[j]? = some v → Rel lk σ c v := by
  cases hp with
  | @ptr _ id g i off L hL =>
    simp only [readP] at hx
    obtain ⟨B, hB, hx⟩ := bind_some hx
    by_cases hg : B.gen = g
    · rw [if_pos hg] at hx
      obtain ⟨cs, hcs, hx⟩ := bind_some hx
      by_cases hn : off + n ≤ cs.length
      · rw [if_pos hn] at hx
        obtain rfl := Option.some.inj hx
        subst hg
        obtain ⟨cur, fr, h1, h2, h3, h4, h5⟩ := (hS.boxes id B L hB hL).1.cells
        have hlen : ((cs.drop off).take n).length = n := by simp; omega
        have hcur : ∀ j, j < n → ∃ u, cur[i * L.size + off + j]? = some u := fun j hj => by
          obtain ⟨u, hu, _⟩ := h5 i cs hcs (off + j) cs[off + j] (List.getElem?_eq_getElem (by omega))
          exact ⟨u, by rw [Nat.add_assoc]; exact hu⟩
        have hsz : ∀ j, j < n → i * L.size + off + j < cur.size := fun j hj => by
          obtain ⟨u, hu⟩ := hcur j hj; exact (Array.getElem?_eq_some_iff.1 hu).1
        have hvs : ((cur.toList.drop (i * L.size + off)).take n).length = n := by
          cases n with
          | zero => simp
          | succ n => have := hsz n (by omega); simp; omega
        have hget : ∀ (j : Nat) v, ((cur.toList.drop (i * L.size + off)).take n)[j]? = some v → j < n ∧ cur[i * L.size + off + j]? = some v := fun j v hv => by
          have hj : j < n := by have := (List.getElem?_eq_some_iff.1 hv).1; omega
          rw [List.getElem?_take_of_lt hj, List.getElem?_drop] at hv
          exact ⟨hj, by simpa using hv⟩
        refine ⟨hlen, L.b, i * L.size + off, (cur.toList.drop (i * L.size + off)).take n, rfl, hvs, fun j v hv => ?_, fun j c v hc hv => ?_⟩
        · rw [cell_of_row w L.b _ cur B.e fr h1]; exact (hget j v hv).2
        · obtain ⟨hj, hv'⟩ := hget j v hv
          rw [List.getElem?_take_of_lt hj, List.getElem?_drop] at hc
          obtain ⟨u, hu, hr⟩ := h5 i cs hcs (off + j) c hc
          rw [← Nat.add_assoc, hv'] at hu
          obtain rfl := Option.some.inj hu
          exact hr
      · rw [if_neg hn] at hx; cases hx
    · rw [if_neg hg] at hx; cases hx
  | @pf _ cs b off u hu hr =>
    simp only [readP] at hx
    by_cases hn : n ≤ cs.length
    · rw [if_pos hn] at hx
      obtain rfl := Option.some.inj hx
      have hg : ∀ (j : Nat) c, (cs.take n)[j]? = some c → cs[j]? = some c ∧ j < n := fun j c hc => by
        have hj : j < n := by have := (List.getElem?_eq_some_iff.1 hc).1; simp at this; omega
        rw [List.getElem?_take_of_lt hj] at hc; exact ⟨hc, hj⟩
      have hv : ∀ (j : Nat) v, ((List.range n).map u)[j]? = some v → j < n ∧ v = u j := fun j v hv => by
        have hj : j < n := by have := (List.getElem?_eq_some_iff.1 hv).1; simpa using this
        simp [hj] at hv; exact ⟨hj, hv.symm⟩
      refine ⟨by simp; omega, b, off, (List.range n).map u, rfl, by simp, fun j v hj => ?_, fun j c v hc hj => ?_⟩
      · obtain ⟨h1, rfl⟩ := hv j v hj
        exact (hS.locked _ _ (hu j cs[j] (List.getElem?_eq_getElem (by omega)))).2
      · obtain ⟨h1, rfl⟩ := hv j v hj
        exact (hr j c (hg j c hc).1).mono (fun _ _ h => h) (fun _ _ _ h => by simp [sig0] at h)
    · rw [if_neg hn] at hx; cases hx
  | _ => simp [readP] at hx

theorem splice_get {α : Type _} (l us : List α) (o j : Nat) (h : o + us.length ≤ l.length) :
    (l.take o ++ us ++ l.drop (o + us.length))[j]? = if j < o then l[j]? else if j < o + us.length then us[j - o]? else l[j]? := by
  have ht : (l.take o).length = o := by simp; omega
  by_cases h1 : j < o
  · rw [if_pos h1, List.getElem?_append_left (by simp; omega), List.getElem?_append_left (by omega), List.getElem?_take_of_lt h1]
  · rw [if_neg h1]
    by_cases h2 : j < o + us.length
    · rw [if_pos h2, List.getElem?_append_left (by simp; omega), List.getElem?_append_right (by omega), ht]
    · rw [if_neg h2, List.getElem?_append_right (by simp; omega), List.getElem?_drop]
      congr 1
      simp; omega
theorem putCells_get (l us : List PV) (o j : Nat) (h : o + us.length ≤ l.length) :
    (putCells l o us)[j]? = if j < o then l[j]? else if j < o + us.length then us[j - o]? else l[j]? := by
  rw [← splice_get l us o j h]
  congr 1
  unfold putCells
  split
  · rename_i v
    simp at h
    rw [List.set_eq_take_append_cons_drop, if_pos (by omega)]
    simp
  · simp
theorem putCells_length (l us : List PV) (o : Nat) (h : o + us.length ≤ l.length) : (putCells l o us).length = l.length := by
  unfold putCells
  split
  · simp
  · simp; omega
theorem Sig.put_same {id g : Nat} {L : Loc} (h : σ id g = some L) : σ.put id g L = σ := by
  funext i k
  unfold Sig.put
  by_cases e : i = id ∧ k = g
  · obtain ⟨rfl, rfl⟩ := e; simp [h]
  · simp [e]

/-- Cells are written. -/
theorem Sim.write (hS : Sim B0 lk σ st w) {p : PV} {u : Value} {xs : List PV} {us : List Value} {st' : Store} (hp : Rel lk σ p u) (hx : writeP st p xs = some st')
    (hlen : us.length = xs.length) (hrel : ∀ (j : Nat) c v, xs[j]? = some c → us[j]? = some v → Rel lk σ c v) :
    ∃ b off cur t, u = .pointer (some ⟨b, off, none⟩) ∧ w.heap[b]? = some (.cells cur t (0, 0)) ∧ off + us.length ≤ cur.size ∧
      Sim B0 lk σ st' (w.setRow b (cur.toList.take off ++ us ++ cur.toList.drop (off + us.length)).toArray) ∧
      Step lk σ st w lk σ st' (w.setRow b (cur.toList.take off ++ us ++ cur.toList.drop (off + us.length)).toArray) := by
  cases hp with
  | @ptr _ id g i off L hL =>
    simp only [writeP] at hx
    obtain ⟨B, hB, hx⟩ := bind_some hx
    by_cases hg : B.gen = g ∧ B.fz = false ∧ (B.isRow = true → B.lk ≤ i)
    · rw [if_pos hg] at hx
      obtain ⟨hg, hfz, hlk⟩ := hg
      obtain ⟨cs, hcs, hx⟩ := bind_some hx
      by_cases hn : off + xs.length ≤ cs.length
      · rw [if_pos hn] at hx
        obtain rfl := Option.some.inj hx
        subst hg
        have hbox := (hS.boxes id B L hB hL).1
        obtain ⟨cur, fr, h1, h2, h3, h4, h5⟩ := hbox.cells
        obtain rfl := h2 hfz
        have hfit : i * L.size + off + us.length ≤ cur.size := by
          rw [hlen]
          cases hxs : xs.length with
          | zero =>
            cases hcl : cs.length with
            | zero => 
              have : off = 0 := by omega
              subst this
              cases hr : B.isRow with
              | true =>
                have := hbox.each hr i cs hcs
                have h6 := hbox.size hr
                omega
              | false =>
                have := h4 hr
                have hi : i < B.es.length := (List.getElem?_eq_some_iff.1 hcs).1
                have : i = 0 := by omega
                subst this; simp
            | succ m =>
              obtain ⟨u, hu, _⟩ := h5 i cs hcs m cs[m] (List.getElem?_eq_getElem (by omega))
              have := (Array.getElem?_eq_some_iff.1 hu).1
              omega
          | succ m =>
            obtain ⟨u, hu, _⟩ := h5 i cs hcs (off + m) cs[off + m] (List.getElem?_eq_getElem (by omega))
            have := (Array.getElem?_eq_some_iff.1 hu).1
            omega
        refine ⟨L.b, i * L.size + off, cur, B.e, rfl, h1, hfit, ?_⟩
        have hcurl : i * L.size + off + us.length ≤ cur.toList.length := by simpa using hfit
        have hi : i < B.es.length := (List.getElem?_eq_some_iff.1 hcs).1
        have hgen : ({ B with es := B.es.set i (putCells cs off xs) } : Box).gen = B.gen := by simp [Box.gen]
        have hput := Sig.put_same hL
        have hmain := hS.setBox (B' := { B with es := B.es.set i (putCells cs off xs) }) (L' := L) (lk' := lk)
          (w' := w.setRow L.b (cur.toList.take (i * L.size + off) ++ us ++ cur.toList.drop (i * L.size + off + us.length)).toArray) hB hL
          (by rw [hgen]; exact Nat.le_refl _) (fun _ => rfl) (.inl rfl) (fun _ _ h => h) (fun _ _ => rfl)
          (fun a v ha hv => by
            obtain ⟨h6, h7⟩ := hS.locked a v hv
            refine ⟨h6, ?_⟩
            obtain ⟨ab, ao, asp⟩ := a
            simp only at h6 ha
            subst h6; subst ha
            rw [cell_of_row _ _ _ _ B.e (0, 0) (setRow_heap w _ cur _ B.e (0, 0) h1)]
            rw [cell_of_row w _ _ cur B.e (0, 0) h1] at h7
            have hfree : ¬ (B.lk * L.size ≤ ao) := fun h => by rw [hbox.free ao h] at hv; cases hv
            simp only [List.getElem?_toArray]
            rw [splice_get _ _ _ _ hcurl]
            by_cases hr : B.isRow = true
            · have := hlk hr
              have h8 : B.lk * L.size ≤ i * L.size := Nat.mul_le_mul_right _ this
              rw [if_pos (by omega)]; simpa using h7
            · have := hbox.zero (by simpa using hr)
              rw [this] at hfree; omega)
          (fun k _ hk => setRow_other w L.b k _ hk) (by simp) rfl rfl rfl
          (by
            rw [hgen, hput]
            refine ⟨⟨_, (0, 0), setRow_heap w _ cur _ B.e (0, 0) h1, fun _ => rfl, fun hr => ?_, fun hr => by simpa using h4 hr, ?_⟩, hbox.size, ?_, hbox.zero, by simpa using hbox.lkle, hbox.free⟩
            · obtain ⟨h6, h7, h8⟩ := h3 hr
              refine ⟨?_, by simpa using h7, h8⟩
              rw [← h6]; simp; omega
            · intro i2 e he j v hv
              by_cases hie : i2 = i
              · subst hie
                rw [List.getElem?_set_self hi] at he
                obtain rfl := Option.some.inj he
                rw [putCells_get _ _ _ _ hn] at hv
                simp only [List.getElem?_toArray]
                rw [splice_get _ _ _ _ hcurl]
                by_cases hj : j < off
                · rw [if_pos hj] at hv
                  rw [if_pos (by omega)]
                  obtain ⟨u, hu, hr⟩ := h5 i2 cs hcs j v hv
                  exact ⟨u, by simpa using hu, hr⟩
                · rw [if_neg hj] at hv
                  rw [if_neg (by omega)]
                  by_cases hj2 : j < off + xs.length
                  · rw [if_pos hj2] at hv
                    rw [if_pos (by omega)]
                    have e1 : i2 * L.size + j - (i2 * L.size + off) = j - off := by omega
                    rw [e1]
                    exact ⟨us[j - off]'(by omega), List.getElem?_eq_getElem (by omega), hrel (j - off) v _ hv (List.getElem?_eq_getElem (by omega))⟩
                  · rw [if_neg hj2] at hv
                    rw [if_neg (by omega)]
                    obtain ⟨u, hu, hr⟩ := h5 i2 cs hcs j v hv
                    exact ⟨u, by simpa using hu, hr⟩
              · rw [List.getElem?_set_ne (fun e => hie e.symm)] at he
                obtain ⟨u, hu, hr⟩ := h5 i2 e he j v hv
                refine ⟨u, ?_, hr⟩
                simp only [List.getElem?_toArray]
                rw [splice_get _ _ _ _ hcurl]
                have hrow : B.isRow = true := by
                  cases hr : B.isRow with
                  | true => rfl
                  | false =>
                    have h9 := h4 hr
                    have : i2 < B.es.length := (List.getElem?_eq_some_iff.1 he).1
                    omega
                have hcl := hbox.each hrow i cs hcs
                have hel := hbox.each hrow i2 e he
                have hsz := (hbox.size hrow).1
                have hj : j < L.size := by have := (List.getElem?_eq_some_iff.1 hv).1; omega
                have hout : i2 * L.size + j < i * L.size + off ∨ i * L.size + off + us.length ≤ i2 * L.size + j := by
                  rcases Nat.lt_or_gt_of_ne hie with h | h
                  · have : (i2 + 1) * L.size ≤ i * L.size := Nat.mul_le_mul_right _ h
                    rw [Nat.add_mul] at this; omega
                  · have : (i + 1) * L.size ≤ i2 * L.size := Nat.mul_le_mul_right _ h
                    rw [Nat.add_mul] at this; omega
                rcases hout with h | h
                · rw [if_pos h]; simpa using hu
                · rw [if_neg (by omega), if_neg (by omega)]; simpa using hu
            · intro hr i2 e he
              by_cases hie : i2 = i
              · subst hie
                simp only [] at he
                rw [List.getElem?_set_self hi] at he
                obtain rfl := Option.some.inj he
                rw [putCells_length _ _ _ hn]; exact hbox.each hr i2 cs hcs
              · simp only [] at he
                rw [List.getElem?_set_ne (fun e => hie e.symm)] at he
                exact hbox.each hr i2 e he)
        rw [hgen, hput] at hmain
        exact hmain
      · rw [if_neg hn] at hx; cases hx
    · rw [if_neg hg] at hx; cases hx
  | _ => simp [writeP] at hx

/-- A row is frozen. -/
theorem Sim.frzRow (hS : Sim B0 lk σ st w) {id : Nat} {B : Box} {L : Loc} (hB : st[id]? = some B) (hL : σ id B.gen = some L) (hrow : B.isRow = true)
    (hnr : (B.es.all fun e => e.all (ref1 0)) = true) :
    ∃ lk', Rel lk' σ (.sl B.es) (.slice (some ⟨L.b, 0, none⟩) B.es.length L.cap) ∧ Sim B0 lk' σ (st.set id { B with lk := B.es.length }) w ∧ Step lk σ st w lk' σ (st.set id { B with lk := B.es.length }) w := by
  have hbox := (hS.boxes id B L hB hL).1
  obtain ⟨cur, fr, h1, h2, h3, h4, h5⟩ := hbox.cells
  obtain ⟨h6, h7, h8⟩ := h3 hrow
  obtain ⟨hs1, hs2⟩ := hbox.size hrow
  let lk' : Locks := fun a => if a.block = L.b ∧ a.spot = none ∧ a.off < B.es.length * L.size then w.cell? a else lk a
  have hl : ∀ a u, lk a = some u → lk' a = some u := fun a u h => by
    show (if _ then _ else _) = _
    split
    · exact (hS.locked a u h).2
    · exact h
  have hgen : ({ B with lk := B.es.length } : Box).gen = B.gen := rfl
  have hin : ∀ i e, B.es[i]? = some e → ∀ (j : Nat) v, e[j]? = some v → i * L.size + j < B.es.length * L.size := by
    intro i e he j v hv
    have hi : i < B.es.length := (List.getElem?_eq_some_iff.1 he).1
    have hj : j < e.length := (List.getElem?_eq_some_iff.1 hv).1
    rw [hbox.each hrow i e he, ← hs1] at hj
    have : (i + 1) * L.size ≤ B.es.length * L.size := Nat.mul_le_mul_right _ hi
    rw [Nat.add_mul] at this; omega
  have hmain := hS.setBox (B' := { B with lk := B.es.length }) (L' := L) (lk' := lk') (w' := w) hB hL (Nat.le_refl _) (fun _ => rfl) (.inl rfl) hl
    (fun a ha => by show (if _ then _ else _) = _; rw [if_neg (fun h => ha h.1)])
    (fun a v ha hv => by
      have hv' : (if a.block = L.b ∧ a.spot = none ∧ a.off < B.es.length * L.size then w.cell? a else lk a) = some v := hv
      split at hv'
      · rename_i h; exact ⟨h.2.1, hv'⟩
      · exact hS.locked a v hv')
    (fun _ _ _ => rfl) (Nat.le_refl _) rfl rfl rfl
    (by
      rw [hgen, Sig.put_same hL]
      refine ⟨⟨cur, fr, h1, h2, h3, h4, fun i e he j v hv => ?_⟩, hbox.size, hbox.each, fun h => (by rw [hrow] at h; cases h), Nat.le_refl _, fun j hj => ?_⟩
      · obtain ⟨u, hu, hr⟩ := h5 i e he j v hv
        exact ⟨u, hu, hr.mono hl (fun _ _ _ h => h)⟩
      · show (if _ then _ else _) = _
        simp only [] at hj
        rw [if_neg (fun h => by have := h.2.2; simp only [] at this; omega)]
        exact hbox.free j (Nat.le_trans (Nat.mul_le_mul_right _ hbox.lkle) hj))
  rw [hgen, Sig.put_same hL] at hmain
  refine ⟨lk', ?_, hmain⟩
  have hcell : ∀ i e, B.es[i]? = some e → ∀ (j : Nat) v, e[j]? = some v → ∃ u, w.cell? ⟨L.b, i * L.size + j, none⟩ = some u ∧ Rel lk σ v u := fun i e he j v hv => by
    obtain ⟨u, hu, hr⟩ := h5 i e he j v hv
    exact ⟨u, by rw [cell_of_row w L.b _ cur B.e fr h1]; exact hu, hr⟩
  refine Rel.sl (size := L.size) (fun i j => (w.cell? ⟨L.b, i * L.size + j, none⟩).getD undef) (fun i e he => by rw [hs1]; exact hbox.each hrow i e he) h7 (fun i e he j v hv => ?_) (fun i e he j v hv => ?_)
  · obtain ⟨u, hu, _⟩ := hcell i e he j v hv
    show (if _ then _ else _) = _
    rw [if_pos ⟨rfl, rfl, by simp only [Nat.zero_add]; exact hin i e he j v hv⟩]
    simp only [Nat.zero_add]
    rw [hu]; rfl
  · obtain ⟨u, hu, hr⟩ := hcell i e he j v hv
    simp only [hu, Option.getD_some]
    have hv1 : ref1 0 v = true := all_get (all_get hnr he) hv
    have := hr.ref1 hv1
    rw [Sig.upto_zero] at this
    exact this.mono hl (fun _ _ _ h => h)
end
end Go.Vs
