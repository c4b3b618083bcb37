/-
  How pure values and a store are told of the model's values and memory. Under no condition.
-/
import Derived.Test.YtachdfhodbdoiaaDoorVsB
namespace Go.Vs
open Go

/-- Where a box lies: its block; how many elements there is room for; an element's cells. -/
structure Loc where
  b : Nat
  cap : Nat
  size : Nat

abbrev Sig := Nat → Nat → Option Loc
abbrev Locks := Addr → Option Value
def sig0 : Sig := fun _ _ => none

inductive Rel (lk : Locks) : Sig → PV → Value → Prop where
  | undef {σ v} : Rel lk σ .undef v
  | bool {σ} (b : Bool) : Rel lk σ (.bool b) (.bool b)
  | int {σ} (k : IntKind) (n : Int) : Rel lk σ (.int k n) (.int k n)
  | str {σ} (s : ByteArray) : Rel lk σ (.str s.data.toList) (.string s)
  | nilp {σ} : Rel lk σ .nilp (.pointer none)
  | ptr {σ} {id g i off : Nat} {L : Loc} (h : σ id g = some L) : Rel lk σ (.ptr id g i off) (.pointer (some ⟨L.b, i * L.size + off, none⟩))
  | pf {σ} {cs : List PV} {b off : Nat} (u : Nat → Value) (hu : ∀ j v, cs[j]? = some v → lk ⟨b, off + j, none⟩ = some (u j)) (hr : ∀ j v, cs[j]? = some v → Rel lk sig0 v (u j)) :
      Rel lk σ (.pf cs) (.pointer (some ⟨b, off, none⟩))
  | nilsl {σ} : Rel lk σ .nilsl (.slice none 0 0)
  | slnil {σ} : Rel lk σ (.sl []) (.slice none 0 0)
  | sle {σ} {a : Addr} {cap : Nat} : Rel lk σ (.sl []) (.slice (some a) 0 cap)
  | sl {σ} {es : List (List PV)} {b off size cap : Nat} (u : Nat → Nat → Value) (hs : ∀ (i : Nat) (e : List PV), es[i]? = some e → e.length = size) (hc : es.length ≤ cap)
      (hu : ∀ i e, es[i]? = some e → ∀ j v, e[j]? = some v → lk ⟨b, off + i * size + j, none⟩ = some (u i j))
      (hr : ∀ i e, es[i]? = some e → ∀ j v, e[j]? = some v → Rel lk sig0 v (u i j)) : Rel lk σ (.sl es) (.slice (some ⟨b, off, none⟩) es.length cap)
  | row {σ} {id g : Nat} {L : Loc} (h : σ id g = some L) (hc : g ≤ L.cap) : Rel lk σ (.row id g) (.slice (some ⟨L.b, 0, none⟩) g L.cap)
  | arr {σ} {id off n cap : Nat} {L : Loc} (h : σ id 0 = some L) (hc : n ≤ cap) : Rel lk σ (.arr id off n) (.slice (some ⟨L.b, off, none⟩) n cap)
  | arr0 {σ} {id off cap : Nat} {L : Loc} {a : Addr} (h : σ id 0 = some L) : Rel lk σ (.arr id off 0) (.slice (some a) 0 cap)
  | fn {σ} {f : FuncId} {caps : List PV} {vs : Array Value} (hl : caps.length = vs.size) (h : ∀ (j : Nat) c v, caps[j]? = some c → vs[j]? = some v → Rel lk σ c v) :
      Rel lk σ (.fn f caps) (.func (.func f) #[] vs)
  | nilif {σ} : Rel lk σ .nilif .nilIface
  | iface {σ} {t : TypeId} {p : PV} {v : Value} (h : Rel lk σ p v) : Rel lk σ (.iface t p) (.iface t v)
  | agg {σ} {cs : List PV} {vs : Array Value} (hl : cs.length = vs.size) (h : ∀ (j : Nat) c v, cs[j]? = some c → vs[j]? = some v → Rel lk σ c v) : Rel lk σ (.agg cs) (.agg vs)
  | tup {σ} {cs : List PV} {vs : Array Value} (hl : cs.length = vs.size) (h : ∀ (j : Nat) c v, cs[j]? = some c → vs[j]? = some v → Rel lk σ c v) : Rel lk σ (.tup cs) (.tuple vs)

theorem Rel.mono {lk lk' : Locks} {σ : Sig} {p : PV} {v : Value} (h : Rel lk σ p v) (hl : ∀ a u, lk a = some u → lk' a = some u) :
    ∀ {σ' : Sig}, (∀ id g L, σ id g = some L → σ' id g = some L) → Rel lk' σ' p v := by
  induction h with
  | undef => intro _ _; exact .undef
  | bool b => intro _ _; exact .bool b
  | int k n => intro _ _; exact .int k n
  | str s => intro _ _; exact .str s
  | nilp => intro _ _; exact .nilp
  | ptr h => intro _ hs; exact .ptr (hs _ _ _ h)
  | pf u hu _ ih => intro _ _; exact .pf u (fun j v hj => hl _ _ (hu j v hj)) (fun j v hj => ih j v hj (fun _ _ _ h => h))
  | nilsl => intro _ _; exact .nilsl
  | slnil => intro _ _; exact .slnil
  | sle => intro _ _; exact .sle
  | sl u hs hc hu _ ih => intro _ _; exact .sl u hs hc (fun i e hi j v hj => hl _ _ (hu i e hi j v hj)) (fun i e hi j v hj => ih i e hi j v hj (fun _ _ _ h => h))
  | row h hc => intro _ hs; exact .row (hs _ _ _ h) hc
  | arr h hc => intro _ hs; exact .arr (hs _ _ _ h) hc
  | arr0 h => intro _ hs; exact .arr0 (hs _ _ _ h)
  | fn hlen _ ih => intro _ hs; exact .fn hlen (fun j c v hc hv => ih j c v hc hv hs)
  | nilif => intro _ _; exact .nilif
  | iface _ ih => intro _ hs; exact .iface (ih hs)
  | agg hlen _ ih => intro _ hs; exact .agg hlen (fun j c v hc hv => ih j c v hc hv hs)
  | tup hlen _ ih => intro _ hs; exact .tup hlen (fun j c v hc hv => ih j c v hc hv hs)

/-- Σ as far as n. -/
def Sig.upto (σ : Sig) (n : Nat) : Sig := fun id g => if id < n then σ id g else none

theorem Sig.upto_zero (σ : Sig) : σ.upto 0 = sig0 := by funext id g; simp [Sig.upto, sig0]

section
variable {lk : Locks} {σ : Sig} {n : Nat}
theorem upto_some {id g : Nat} {L : Loc} (h : σ id g = some L) (hn : id < n) : σ.upto n id g = some L := by simp [Sig.upto, hn, h]
theorem Rel.ref0 {p : PV} {v : Value} (h : Rel lk σ p v) (hr : ref0 n p = true) : Rel lk (σ.upto n) p v := by
  cases h with
  | undef => exact .undef
  | bool b => exact .bool b
  | int k n => exact .int k n
  | str s => exact .str s
  | nilp => exact .nilp
  | ptr h => exact .ptr (upto_some h (by simpa [Vs.ref0] using hr))
  | pf u hu hq => exact .pf u hu hq
  | nilsl => exact .nilsl
  | slnil => exact .slnil
  | sle => exact .sle
  | sl u hs hc hu hq => exact .sl u hs hc hu hq
  | row h hc => exact .row (upto_some h (by simpa [Vs.ref0] using hr)) hc
  | arr h hc => exact .arr (upto_some h (by simpa [Vs.ref0] using hr)) hc
  | arr0 h => exact .arr0 (upto_some h (by simpa [Vs.ref0] using hr))
  | fn hlen h =>
    exact .fn hlen (fun j c v hc _ => by
      have he : _ = true := hr
      simp only [Vs.ref0, List.isEmpty_iff] at he
      rw [he] at hc
      simp at hc)
  | nilif => exact .nilif
  | iface h => simp [Vs.ref0] at hr
  | agg hlen h => simp [Vs.ref0] at hr
  | tup hlen h => simp [Vs.ref0] at hr
theorem all_get {α : Type _} {l : List α} {f : α → Bool} (h : l.all f = true) {j : Nat} {c : α} (hc : l[j]? = some c) : f c = true :=
  List.all_eq_true.1 h c (List.mem_of_getElem? hc)
theorem Rel.ref1 {p : PV} {v : Value} (h : Rel lk σ p v) (hr : ref1 n p = true) : Rel lk (σ.upto n) p v := by
  cases p with
  | fn f caps => cases h with | fn hlen h => exact .fn hlen (fun j c v hc hv => (h j c v hc hv).ref0 (all_get hr hc))
  | iface t p => cases h with | iface h => exact .iface (h.ref0 hr)
  | _ => exact h.ref0 hr
theorem Rel.ref2 {p : PV} {v : Value} (h : Rel lk σ p v) (hr : ref2 n p = true) : Rel lk (σ.upto n) p v := by
  cases p with
  | agg cs => cases h with | agg hlen h => exact .agg hlen (fun j c v hc hv => (h j c v hc hv).ref1 (all_get hr hc))
  | _ => exact h.ref1 hr
theorem Rel.ref3 {p : PV} {v : Value} (h : Rel lk σ p v) (hr : ref3 n p = true) : Rel lk (σ.upto n) p v := by
  cases p with
  | tup cs => cases h with | tup hlen h => exact .tup hlen (fun j c v hc hv => (h j c v hc hv).ref2 (all_get hr hc))
  | _ => exact h.ref2 hr
/-- What has a value has its refs among what is known. -/
theorem Rel.known {p : PV} {v : Value} (h : Rel lk σ p v) (hd : ∀ id g L, σ id g = some L → id < n) : Rel lk (σ.upto n) p v :=
  h.mono (fun _ _ h => h) (fun id g L hs => upto_some hs (hd id g L hs))
end

/-- What is related under few boxes hangs on few boxes. -/
theorem Rel.bound {lk : Locks} {σ : Sig} {n : Nat} {p : PV} {v : Value} (h : Rel lk σ p v) : ∀ {lk0 : Locks} {σ0 : Sig} {v0 : Value}, Rel lk0 σ0 p v0 → (∀ id g L, σ0 id g = some L → id < n) → Rel lk (σ.upto n) p v := by
  have get : ∀ {cs : List PV} {vs vs0 : Array Value} {j : Nat} {c : PV} {lk0 : Locks} {σ0 : Sig}, cs.length = vs0.size → (∀ (j : Nat) c v, cs[j]? = some c → vs0[j]? = some v → Rel lk0 σ0 c v) → cs[j]? = some c → ∃ v0, Rel lk0 σ0 c v0 := by
    intro cs vs vs0 j c lk0 σ0 hl hr hc
    have hj : j < vs0.size := by have := (List.getElem?_eq_some_iff.1 hc).1; omega
    exact ⟨_, hr j c _ hc (Array.getElem?_eq_getElem hj)⟩
  induction h with
  | undef => intro _ _ _ _ _; exact .undef
  | bool b => intro _ _ _ _ _; exact .bool b
  | int k n => intro _ _ _ _ _; exact .int k n
  | str s => intro _ _ _ _ _; exact .str s
  | nilp => intro _ _ _ _ _; exact .nilp
  | ptr h => intro _ _ _ h0 hd; cases h0 with | ptr h0 => exact .ptr (upto_some h (hd _ _ _ h0))
  | pf u hu hr _ => intro _ _ _ _ _; exact .pf u hu hr
  | nilsl => intro _ _ _ _ _; exact .nilsl
  | slnil => intro _ _ _ _ _; exact .slnil
  | sle => intro _ _ _ _ _; exact .sle
  | sl u hs hc hu hr _ => intro _ _ _ _ _; exact .sl u hs hc hu hr
  | row h hc => intro _ _ _ h0 hd; cases h0 with | row h0 _ => exact .row (upto_some h (hd _ _ _ h0)) hc
  | arr h hc => intro _ _ _ h0 hd; cases h0 with
    | arr h0 _ => exact .arr (upto_some h (hd _ _ _ h0)) hc
    | arr0 h0 => exact .arr (upto_some h (hd _ _ _ h0)) hc
  | arr0 h => intro _ _ _ h0 hd; cases h0 with
    | arr h0 _ => exact .arr0 (upto_some h (hd _ _ _ h0))
    | arr0 h0 => exact .arr0 (upto_some h (hd _ _ _ h0))
  | @fn _ _ _ vs hlen _ ih => intro _ _ _ h0 hd; cases h0 with
    | fn hl0 h0 => exact .fn hlen (fun j c v hc hv => by obtain ⟨v0, hv0⟩ := get (vs := vs) hl0 h0 hc; exact ih j c v hc hv hv0 hd)
  | nilif => intro _ _ _ _ _; exact .nilif
  | iface _ ih => intro _ _ _ h0 hd; cases h0 with | iface h0 => exact .iface (ih h0 hd)
  | @agg _ _ vs hlen _ ih => intro _ _ _ h0 hd; cases h0 with
    | agg hl0 h0 => exact .agg hlen (fun j c v hc hv => by obtain ⟨v0, hv0⟩ := get (vs := vs) hl0 h0 hc; exact ih j c v hc hv hv0 hd)
  | @tup _ _ vs hlen _ ih => intro _ _ _ h0 hd; cases h0 with
    | tup hl0 h0 => exact .tup hlen (fun j c v hc hv => by obtain ⟨v0, hv0⟩ := get (vs := vs) hl0 h0 hc; exact ih j c v hc hv hv0 hd)

/-- A box as it lies in memory. -/
structure BoxOk (lk : Locks) (σ : Sig) (w : World) (L : Loc) (B : Box) : Prop where
  cells : ∃ cur fr, w.heap[L.b]? = some (.cells cur B.e fr) ∧ (B.fz = false → fr = (0, 0)) ∧
    (B.isRow = true → cur.size = L.cap * B.size ∧ B.es.length ≤ L.cap ∧ L.cap ≤ maxLen) ∧
    (B.isRow = false → B.es.length = 1) ∧
    ∀ i e, B.es[i]? = some e → ∀ j v, e[j]? = some v → ∃ u, cur[i * L.size + j]? = some u ∧ Rel lk σ v u
  size : B.isRow = true → L.size = B.size ∧ 0 < B.size
  each : B.isRow = true → ∀ (i : Nat) (e : List PV), B.es[i]? = some e → e.length = B.size
  zero : B.isRow = false → B.lk = 0
  lkle : B.lk ≤ B.es.length
  free : ∀ j, B.lk * L.size ≤ j → lk ⟨L.b, j, none⟩ = none

structure Sim (B0 : Nat) (lk : Locks) (σ : Sig) (st : Store) (w : World) : Prop where
  dom : ∀ id g L, σ id g = some L → id < st.length
  top : ∀ id g L B, σ id g = some L → st[id]? = some B → g ≤ B.gen
  cur : ∀ id g L B, σ id g = some L → st[id]? = some B → ∃ L', σ id B.gen = some L'
  boxes : ∀ id B L, st[id]? = some B → σ id B.gen = some L → BoxOk lk σ w L B ∧ B0 ≤ L.b
  apart : ∀ id id' B B' L L', st[id]? = some B → st[id']? = some B' → σ id B.gen = some L → σ id' B'.gen = some L' → L.b = L'.b → id = id'
  locked : ∀ a v, lk a = some v → a.spot = none ∧ w.cell? a = some v
  base : B0 ≤ w.heap.size

/-- Whose block it is: some box's. -/
def Own (σ : Sig) (st : Store) (k : Nat) : Prop := ∃ id B L, st[id]? = some B ∧ σ id B.gen = some L ∧ L.b = k

/-- From one state to a later one. -/
structure Step (lk : Locks) (σ : Sig) (st : Store) (w : World) (lk' : Locks) (σ' : Sig) (st' : Store) (w' : World) : Prop where
  lks : ∀ a u, lk a = some u → lk' a = some u
  sig : ∀ id g L, σ id g = some L → σ' id g = some L
  own : ∀ k, Own σ' st' k → w.heap.size ≤ k ∨ Own σ st k
  frame : ∀ k, k < w.heap.size → ¬ Own σ st k → w'.heap[k]? = w.heap[k]?
  ghost : ∀ id, id < st.length → (∀ g, σ id g = none) → ∀ g, σ' id g = none
  len : st.length ≤ st'.length
  os : w'.os = w.os
  tape : w'.tape = w.tape
  output : w'.output = w.output
  size : w.heap.size ≤ w'.heap.size

section
variable {lk lk' lk'' : Locks} {σ σ' σ'' : Sig} {st st' st'' : Store} {w w' w'' : World}
theorem Step.refl : Step lk σ st w lk σ st w := ⟨fun _ _ h => h, fun _ _ _ h => h, fun _ h => .inr h, fun _ _ _ => rfl, fun _ _ h => h, Nat.le_refl _, rfl, rfl, rfl, Nat.le_refl _⟩
theorem Step.trans (h : Step lk σ st w lk' σ' st' w') (h' : Step lk' σ' st' w' lk'' σ'' st'' w'') : Step lk σ st w lk'' σ'' st'' w'' where
  lks a u hu := h'.lks a u (h.lks a u hu)
  sig id g L hL := h'.sig id g L (h.sig id g L hL)
  own k hk := by
    rcases h'.own k hk with h1 | h1
    · exact .inl (Nat.le_trans h.size h1)
    · exact h.own k h1
  frame k hk ho := by
    rw [h'.frame k (Nat.lt_of_lt_of_le hk h.size) (fun ho' => by
      rcases h.own k ho' with h1 | h1
      · omega
      · exact ho h1)]
    exact h.frame k hk ho
  ghost id hi hg := h'.ghost id (Nat.lt_of_lt_of_le hi h.len) (h.ghost id hi hg)
  len := Nat.le_trans h.len h'.len
  os := h'.os.trans h.os
  tape := h'.tape.trans h.tape
  output := h'.output.trans h.output
  size := Nat.le_trans h.size h'.size
theorem Rel.step {p : PV} {v : Value} (h : Rel lk σ p v) (hs : Step lk σ st w lk' σ' st' w') : Rel lk' σ' p v := h.mono hs.lks hs.sig
end

/-- A frame's slots. -/
structure SlotRel (lk : Locks) (σ : Sig) (n : Nat) (s : Slots) (a : Act) : Prop where
  size : a.tmps.size = n
  rel : ∀ k, Rel lk σ (s k) (a.tmps.getD k undef)
  defers : a.defers = []

theorem SlotRel.put {lk : Locks} {σ : Sig} {n : Nat} {s : Slots} {a : Act} {d : Option Nat} {v : PV} {u : Value} (h : SlotRel lk σ n s a) (hr : Rel lk σ v u)
    (hd : ∀ k, d = some k → k < n) : SlotRel lk σ n (updO s d v) (a.put d u) := by
  cases d with
  | none => exact h
  | some k =>
    refine ⟨by simp [Act.put, h.size], fun j => ?_, h.defers⟩
    simp only [updO, upd, Act.put]
    by_cases hj : j = k
    · subst hj
      have : j < a.tmps.size := by rw [h.size]; exact hd j rfl
      simpa [Array.getD_eq_getD_getElem?, this] using hr
    · have hk : k ≠ j := fun e => hj e.symm
      simpa [hj, Array.getD_eq_getD_getElem?, Array.getElem?_setIfInBounds, hk] using h.rel j
theorem SlotRel.step {lk lk' : Locks} {σ σ' : Sig} {st st' : Store} {w w' : World} {n : Nat} {s : Slots} {a : Act} (h : SlotRel lk σ n s a) (hs : Step lk σ st w lk' σ' st' w') : SlotRel lk' σ' n s a :=
  ⟨h.size, fun k => (h.rel k).step hs, h.defers⟩
end Go.Vs
