/-
  What is read of memory as data stands for a pure value; how a law's row is closed. Under no condition.
-/
import Derived.Test.YtachdfhodbdoiaaDoorVsR
import Derived.ProofKit
import Derived.OpenShut
namespace Go.Vs
open Go
section
variable {P : Program} {H : Type} {enc : TypeId × Value → H}

/-- The pure values of a type, as cells. -/
def Ty (P : Program) : Nat → TypeId → List PV → Prop
  | 0, _, _ => False
  | n + 1, t, cs =>
    match P.underlying t with
    | some .bool => ∃ b, cs = [.bool b]
    | some (.int k) => ∃ i, cs = [.int k i] ∧ k.min ≤ i ∧ i ≤ k.max
    | some .string => ∃ s, cs = [.str s] ∧ s.length ≤ maxLen
    | some (.pointer e) => P.cellsOf e = 0 ∨ cs = [.nilp] ∨ ∃ es, cs = [.pf es] ∧ es.length = P.cellsOf e ∧ Ty P n e es
    | some (.slice e) => P.cellsOf e = 0 ∨ cs = [.nilsl] ∨ ∃ es, cs = [.sl es] ∧ es.length ≤ maxLen ∧ ∀ x ∈ es, x.length = P.cellsOf e ∧ Ty P n e x
    | some (.struct fs) => cs.length = P.cellsOf t ∧ ∀ f ∈ fs, Ty P n f.type ((cs.drop f.offset).take (P.cellsOf f.type))
    | some (.array m e) => cs.length = P.cellsOf t ∧ ∀ i, i < m → Ty P n e ((cs.drop (i * P.cellsOf e)).take (P.cellsOf e))
    | _ => True

/-- All the cells that a world holds. -/
def lkOf (w : World) : Locks := fun a => if a.spot = none then w.cell? a else none

theorem cell?_spot {w : World} {a : Addr} {v : Value} (h : w.cell? a = some v) : a.spot = none := by
  unfold World.cell? at h
  split at h
  · split at h
    · cases h
    · rename_i hs; simpa using hs
  · cases h
theorem lkOf_of {w : World} {a : Addr} {v : Value} (h : w.cell? a = some v) : lkOf w a = some v := by
  unfold lkOf; rw [if_pos (cell?_spot h)]; exact h

theorem RelL.of_get {lk : Locks} {σ : Sig} {cs : List PV} {vs : List Value} (hl : cs.length = vs.length) (h : ∀ (j : Nat) c v, cs[j]? = some c → vs[j]? = some v → Rel lk σ c v) : RelL lk σ cs vs := ⟨hl, h⟩

theorem exists_list {α : Type} {G : Nat → α → Prop} : ∀ (n : Nat), (∀ i, i < n → ∃ x, G i x) → ∃ es : List α, es.length = n ∧ ∀ i x, es[i]? = some x → G i x
  | 0, _ => ⟨[], rfl, fun i x h => by simp at h⟩
  | n + 1, h => by
    obtain ⟨es, h1, h2⟩ := exists_list n (fun i hi => h i (by omega))
    obtain ⟨x, hx⟩ := h n (by omega)
    refine ⟨es ++ [x], by simp [h1], fun i y hy => ?_⟩
    rcases Nat.lt_or_ge i n with hi | hi
    · rw [List.getElem?_append_left (by omega)] at hy; exact h2 i y hy
    · have : i = n := by have := (List.getElem?_eq_some_iff.1 hy).1; simp at this; omega
      subst this
      rw [List.getElem?_append_right (by omega), h1] at hy
      simp at hy
      subst hy; exact hx

theorem pieces {lk : Locks} {σ : Sig} : ∀ (sizes : List Nat) (cs : List Value) (G : Nat → List PV → Prop) (_ : cs.length = sizes.sum)
    (_ : ∀ (j : Nat) (z : Nat), sizes[j]? = some z → ∃ ps, RelL lk σ ps ((cs.drop (sizes.take j).sum).take z) ∧ G j ps),
    ∃ ps, RelL lk σ ps cs ∧ ∀ (j : Nat) (z : Nat), sizes[j]? = some z → G j ((ps.drop (sizes.take j).sum).take z)
  | [], cs, G, hl, h => by
    have : cs = [] := List.eq_nil_of_length_eq_zero (by simpa using hl)
    subst this
    exact ⟨[], RelL.nil, fun j z hz => by simp at hz⟩
  | s :: r, cs, G, hl, h => by
    simp only [List.sum_cons] at hl
    obtain ⟨p0, h1, h2⟩ := h 0 s rfl
    simp only [List.take_zero, List.sum_nil, List.drop_zero] at h1
    obtain ⟨p1, h3, h4⟩ := pieces r (cs.drop s) (fun j => G (j + 1)) (by simp; omega) (fun j z hz => by
      obtain ⟨ps, h5, h6⟩ := h (j + 1) z (by simpa using hz)
      refine ⟨ps, ?_, h6⟩
      simpa [List.drop_drop, Nat.add_comm] using h5)
    have hlen : p0.length = s := by rw [h1.1]; simp; omega
    refine ⟨p0 ++ p1, by have := h1.append h3; rwa [List.take_append_drop] at this, fun j z hz => ?_⟩
    cases j with
    | zero =>
      simp only [List.getElem?_cons_zero, Option.some.injEq] at hz
      subst hz
      have : (p0 ++ p1).take s = p0 := by rw [← hlen]; simp
      simpa [this] using h2
    | succ j =>
      have h5 := h4 j z (by simpa using hz)
      have : (p0 ++ p1).drop (s + (r.take j).sum) = p1.drop (r.take j).sum := by
        rw [← List.drop_drop, ← hlen]; simp
      simpa [this] using h5

theorem RelL_cells {w : World} {lk : Locks} {σ : Sig} {a : Addr} {base n : Nat} {cs : List Value} (h : w.cells? base a n = some cs) {ps : List PV} (hr : RelL lk σ ps cs) : ps.length = n ∧ ∀ (j : Nat) v, ps[j]? = some v → ∃ u, w.cell? (a.add j) = some u ∧ Rel lk σ v u := by
  obtain ⟨_, h1, h2⟩ := World.cells?_some h
  refine ⟨by rw [hr.1, h1], fun j v hv => ?_⟩
  have hj : j < n := by rw [← h1, ← hr.1]; exact (List.getElem?_eq_some_iff.1 hv).1
  have hc : cs[j]? = some cs[j] := List.getElem?_eq_getElem (by omega)
  exact ⟨cs[j], by rw [h2 j hj, hc], hr.2 j v _ hv hc⟩

theorem trod_rel {w : World} {base : Nat} {sp : Nat → Bool} {held : Bool} {T : TypeId → Prop} (K : Kids P T) : ∀ (n : Nat) (t : TypeId) (cs : List Value) (x : DataW H × List MemPlace), T t → DataW.trod enc P w base sp held n t cs = some x →
    ∃ ps, RelL (lkOf w) sig0 ps cs ∧ Ty P n t ps
  | 0, t, cs, x, _, h => by simp [DataW.trod] at h
  | n + 1, t, cs, x, hT, h => by
    have hany : ∃ ps, RelL (lkOf w) sig0 ps cs := ⟨cs.map fun _ => .undef, by simp, fun j c v hc hv => by
      simp only [List.getElem?_map, Option.map_eq_some_iff] at hc
      obtain ⟨_, _, rfl⟩ := hc
      exact .undef⟩
    have one : ∀ {p : PV} {v : Value}, Rel (lkOf w) sig0 p v → RelL (lkOf w) sig0 [p] [v] := fun h => .cons h RelL.nil
    cases hu : P.underlying t with
    | none => obtain ⟨ps, h1⟩ := hany; exact ⟨ps, h1, by unfold Ty; rw [hu]; trivial⟩
    | some td =>
    cases td with
    | bool =>
      obtain ⟨b, rfl, _⟩ := DataW.trod_bool hu h
      exact ⟨[.bool b], one (.bool b), by unfold Ty; rw [hu]; exact ⟨b, rfl⟩⟩
    | int k =>
      obtain ⟨i, rfl, _, hwf⟩ := DataW.trod_int hu h
      simp only [Lit.wf, Bool.and_eq_true, decide_eq_true_eq] at hwf
      exact ⟨[.int k i], one (.int _ _), by unfold Ty; rw [hu]; exact ⟨i, rfl, hwf.1, hwf.2⟩⟩
    | string =>
      obtain ⟨s, rfl, _, hs⟩ := DataW.trod_string hu h
      exact ⟨[.str s.data.toList], one (.str s), by unfold Ty; rw [hu]; exact ⟨_, rfl, by simpa using hs⟩⟩
    | pointer e =>
      rcases DataW.trod_pointer hu h with ⟨rfl, _⟩ | ⟨a, cs', y, m, hm, rfl, _, hc, hy⟩
      · exact ⟨[.nilp], one .nilp, by unfold Ty; rw [hu]; exact .inr (.inl rfl)⟩
      · obtain rfl : n = m := by omega
        rcases Nat.eq_zero_or_pos (P.cellsOf e) with hz | hpos
        · exact ⟨[.undef], one .undef, by unfold Ty; rw [hu]; exact .inl hz⟩
        obtain ⟨ps, h1, h2⟩ := trod_rel K n e cs' y (K.pointer hT hu) hy
        obtain ⟨h3, h4⟩ := RelL_cells hc h1
        refine ⟨[.pf ps], one ?_, by unfold Ty; rw [hu]; exact .inr (.inr ⟨ps, rfl, h3, h2⟩)⟩
        have ha : a.spot = none := by
          obtain ⟨u, hu', _⟩ := h4 0 (ps[0]'(by omega)) (by simp)
          have := cell?_spot hu'
          simpa [Addr.add] using this
        obtain ⟨b, off, spot⟩ := a
        simp only [] at ha
        subst ha
        refine .pf (fun j => (w.cell? ⟨b, off + j, none⟩).getD undef) (fun j v hv => ?_) (fun j v hv => ?_)
        · obtain ⟨u, q1, _⟩ := h4 j v hv
          rw [Addr.add_mid] at q1
          rw [lkOf_of q1, q1]; rfl
        · obtain ⟨u, q1, q2⟩ := h4 j v hv
          rw [Addr.add_mid] at q1
          rw [q1]; exact q2
    | slice e =>
      rcases DataW.trod_slice hu h with ⟨rfl, _⟩ | ⟨a, len, cap, elems, rest, m, hm, rfl, _, _, hlc, hcap, hlen, hel, _, _⟩
      · exact ⟨[.nilsl], one .nilsl, by unfold Ty; rw [hu]; exact .inr (.inl rfl)⟩
      · obtain rfl : n = m := by omega
        rcases Nat.eq_zero_or_pos (P.cellsOf e) with hz | hpos
        · exact ⟨[.undef], one .undef, by unfold Ty; rw [hu]; exact .inl hz⟩
        obtain ⟨es, h1, h2⟩ := exists_list (G := fun i (ps : List PV) => (ps.length = P.cellsOf e ∧ Ty P n e ps) ∧ ∀ (j : Nat) v, ps[j]? = some v → ∃ u, w.cell? ((a.add (i * P.cellsOf e)).add j) = some u ∧ Rel (lkOf w) sig0 v u) len (fun i hi => by
          have h3 := hel i hi
          cases hc : w.cells? base (a.add (i * P.cellsOf e)) (P.cellsOf e) with
          | none =>
            rw [hc] at h3
            have : elems[i]? = some elems[i] := List.getElem?_eq_getElem (by omega)
            rw [this] at h3; cases h3
          | some cs' =>
            rw [hc] at h3
            have : elems[i]? = some elems[i] := List.getElem?_eq_getElem (by omega)
            rw [this] at h3
            obtain ⟨ps, h4, h5⟩ := trod_rel K n e cs' _ (K.slice hT hu) h3
            obtain ⟨h6, h7⟩ := RelL_cells hc h4
            exact ⟨ps, ⟨h6, h5⟩, h7⟩)
        subst h1
        refine ⟨[.sl es], one ?_, by unfold Ty; rw [hu]; exact .inr (.inr ⟨es, rfl, by omega, fun x hx => by obtain ⟨i, hi⟩ := List.getElem?_of_mem hx; exact (h2 i x hi).1⟩)⟩
        rcases Nat.eq_zero_or_pos es.length with h0 | h0
        · have hes : es = [] := List.eq_nil_of_length_eq_zero h0
          subst hes
          exact .sle
        · have ha : a.spot = none := by
            have h3 := h2 0 (es[0]'h0) (by simp)
            obtain ⟨u, hu', _⟩ := h3.2 0 ((es[0]'h0)[0]'(by rw [h3.1.1]; exact hpos)) (by simp)
            have := cell?_spot hu'
            simpa [Addr.add] using this
          obtain ⟨b, off, spot⟩ := a
          simp only [] at ha
          subst ha
          refine .sl (size := P.cellsOf e) (fun i j => (w.cell? ⟨b, off + i * P.cellsOf e + j, none⟩).getD undef) (fun i x hi => (h2 i x hi).1.1) hlc (fun i x hi j v hv => ?_) (fun i x hi j v hv => ?_)
          · obtain ⟨u, q1, _⟩ := (h2 i x hi).2 j v hv
            rw [Addr.add_mid, Addr.add_mid] at q1
            rw [lkOf_of q1, q1]; rfl
          · obtain ⟨u, q1, q2⟩ := (h2 i x hi).2 j v hv
            rw [Addr.add_mid, Addr.add_mid] at q1
            rw [q1]; exact q2
    | array m e =>
      obtain ⟨xs, m', hm, _, hlen, hxl, hel⟩ := DataW.trod_array hu h
      obtain rfl : n = m' := by omega
      obtain ⟨hTe, hsz⟩ := K.array hT hu
      obtain ⟨ps, h1, h2⟩ := pieces (lk := lkOf w) (σ := sig0) (List.replicate m (P.cellsOf e)) cs (fun _ ps => Ty P n e ps) (by rw [hlen, hsz]; simp) (fun j z hz => by
        have hj : j < m := by have := (List.getElem?_eq_some_iff.1 hz).1; simpa using this
        have hzz : z = P.cellsOf e := by rw [List.getElem?_replicate, if_pos hj] at hz; exact (Option.some.inj hz).symm
        subst hzz
        have h3 := hel j hj
        have hx : xs[j]? = some xs[j] := List.getElem?_eq_getElem (by omega)
        rw [hx] at h3
        have hs : ((List.replicate m (P.cellsOf e)).take j).sum = j * P.cellsOf e := by simp [Nat.min_eq_left (Nat.le_of_lt hj)]
        rw [hs]
        exact trod_rel K n e _ _ hTe h3)
      refine ⟨ps, h1, ?_⟩
      unfold Ty; rw [hu]
      refine ⟨by rw [h1.1, hlen], fun i hi => ?_⟩
      have h3 := h2 i (P.cellsOf e) (by rw [List.getElem?_replicate, if_pos hi])
      have hs : ((List.replicate m (P.cellsOf e)).take i).sum = i * P.cellsOf e := by simp [Nat.min_eq_left (Nat.le_of_lt hi)]
      rwa [hs] at h3
    | struct fs =>
      obtain ⟨xs, m', hm, _, hlen, hxl, hel⟩ := DataW.trod_struct hu h
      obtain rfl : n = m' := by omega
      obtain ⟨hTf, hsz, hoff⟩ := K.struct hT hu
      obtain ⟨ps, h1, h2⟩ := pieces (lk := lkOf w) (σ := sig0) (fs.toList.map fun f => P.cellsOf f.type) cs (fun j ps => ∀ f, fs.toList[j]? = some f → Ty P n f.type ps) (by rw [hlen, hsz]) (fun j z hz => by
        rw [List.getElem?_map] at hz
        obtain ⟨f, hf, rfl⟩ := Option.map_eq_some_iff.1 hz
        have hj : j < xs.length := by have := (List.getElem?_eq_some_iff.1 hf).1; simp at this; omega
        have h3 := hel j f (by rw [← Array.getElem?_toList]; exact hf)
        have hx : xs[j]? = some xs[j] := List.getElem?_eq_getElem hj
        rw [hx, hoff j f hf] at h3
        obtain ⟨ps, h4, h5⟩ := trod_rel K n f.type _ _ (hTf f (List.mem_of_getElem? hf)) h3
        rw [← List.map_take]
        refine ⟨ps, h4, fun f' hf' => ?_⟩
        rw [hf] at hf'
        obtain rfl := Option.some.inj hf'
        exact h5)
      refine ⟨ps, h1, ?_⟩
      unfold Ty; rw [hu]
      refine ⟨by rw [h1.1, hlen], fun f hf => ?_⟩
      obtain ⟨j, hj⟩ := List.getElem?_of_mem (Array.mem_toList_iff.2 hf)
      have h3 := h2 j (P.cellsOf f.type) (by rw [List.getElem?_map, hj]; rfl) f hj
      rw [← List.map_take, ← hoff j f hj] at h3
      exact h3
    | _ => obtain ⟨ps, h1⟩ := hany; exact ⟨ps, h1, by unfold Ty; rw [hu]; trivial⟩
end
end Go.Vs
