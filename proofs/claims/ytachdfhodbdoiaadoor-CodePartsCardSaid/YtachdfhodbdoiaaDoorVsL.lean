/-
  Each operation does what the evaluator says, sixth part: append. Under no condition.
-/
import Derived.Test.YtachdfhodbdoiaaDoorVsK
namespace Go.Vs
open Go
open Go.Lib (strCells strCells_length strCells_oneCell run_append_room_string run_append_grow_string)
section
variable {B0 : Nat} {P : Program} {lk lk' : Locks} {σ σ' : Sig} {st st' : Store} {w w' : World} {o : Oper} {a : Act} {v : PV} {u : Value}
variable {gl : Nat → List PV} {N : Nat} {s : Slots} {E : Req → Option Res}

/-- What is appended, and how the model appends it. -/
structure AppSrc (P : Program) (w : World) (t u e : TypeId) (i : TypeInfo) (y : Value) (m : Nat) (news : List Value) : Prop where
  len : news.length = m * i.size
  one : ∀ v ∈ news, v.oneCell' = true
  nil0 : m = 0 → ∀ ty, (Builtin.append_ #[t, u] ty #[.slice none 0 0, y]).run P w = .ok (.slice none 0 0) w
  nil : 0 < m → m * i.bytes ≤ 140737488355328 → m ≤ maxLen → ∀ ty, ∃ cur cap, (Builtin.append_ #[t, u] ty #[.slice none 0 0, y]).run P w = .ok (.slice (some ⟨w.heap.size, 0, none⟩) m cap) (w.drew.alloc (.cells cur e)) ∧
    cur.size = cap * i.size ∧ m ≤ cap ∧ cap ≤ maxLen ∧ ∀ j, j < news.length → cur[j]? = news[j]?
  room : ∀ ty g n cap cur, w.heap[g]? = some (.cells cur e (0, 0)) → n + m ≤ cap → cur.size = cap * i.size → (Builtin.append_ #[t, u] ty #[.slice (some ⟨g, 0, none⟩) n cap, y]).run P w =
    .ok (.slice (some ⟨g, 0, none⟩) (n + m) cap) (w.setRow g (cur.toList.take (n * i.size) ++ news ++ cur.toList.drop (n * i.size + news.length)).toArray)
  grow : ∀ ty g n cap (olds : List Value), olds.length = n * i.size → (∀ j v, olds[j]? = some v → w.cell? ((⟨g, 0, none⟩ : Addr).add j) = some v) → n ≤ cap → cap < n + m → (n + m) * i.bytes ≤ 140737488355328 → n + m ≤ maxLen →
    ∃ cur' cap', (Builtin.append_ #[t, u] ty #[.slice (some ⟨g, 0, none⟩) n cap, y]).run P w = .ok (.slice (some ⟨w.heap.size, 0, none⟩) (n + m) cap') (w.drew.alloc (.cells cur' e)) ∧
    cur'.size = cap' * i.size ∧ n + m ≤ cap' ∧ cap' ≤ maxLen ∧ ∀ j, j < (olds ++ news).length → cur'[j]? = (olds ++ news)[j]?

theorem zeroCells_size {z : Value} {i : TypeInfo} (hz : z.cells.size = i.size) (n : Nat) : (Builtin.zeroCells z.cells n).size = n * i.size := by rw [size_zeroCells, hz]
theorem maxLen_small {n : Nat} (h : n ≤ maxLen) : n ≤ 9223372036854775807 := by unfold maxLen at h; omega

theorem appSrc_slice {t e : TypeId} {i : TypeInfo} {z : Value} (ht : P.underlying t = some (.slice e)) (hi : P.info? e = some i) (hz : i.zero = some z) (hzs : z.cells.size = i.size)
    {ad : Addr} {m c : Nat} {news : List Value} (hl : news.length = m * i.size) (hc : ∀ (j : Nat) v, news[j]? = some v → w.cell? (ad.add j) = some v) (h1 : ∀ v ∈ news, v.oneCell' = true) :
    AppSrc P w t t e i (.slice (some ad) m c) m news where
  len := hl
  one := h1
  nil0 h0 ty := by
    subst h0
    have hn : news = [] := List.eq_nil_of_length_eq_zero (by simpa using hl)
    simp [Builtin.append_, run_underlying ht, sizeOf, typeInfo, hi, Builtin.lenOf, Builtin.firstCells, loadCells, loadCellsFrom]
  nil h0 hb hm ty := by
    have := maxLen_small hm
    refine ⟨_, _, run_append_nil (P := P) w t ty e i z ht hi hz ad m c news hl hc h0 (by omega) (by omega), ?_, grownCap_ge w m 0 e, grownCap_le_maxLen w m 0 e hm, fun j hj => ?_⟩
    · rw [Array.size_append, zeroCells_size hzs, List.size_toArray, hl, ← Nat.add_mul]
      congr 1
      have := grownCap_ge w m 0 e
      omega
    · rw [Array.getElem?_append_left (by simpa using hj)]; simp
  room ty g n cap cur hg hr hs := by
    have hfit : n * i.size + news.length ≤ cur.size := by rw [hl, hs, ← Nat.add_mul]; exact Nat.mul_le_mul_right _ hr
    exact run_append_room (P := P) w t ty e i ht hi g n cap cur hg ad m c news hl hc h1 hr hfit
  grow ty g n cap olds hol holds hnc hlt hb hm := by
    have := maxLen_small hm
    refine ⟨_, _, run_append_grow (P := P) w t ty e i z ht hi hz ⟨g, 0, none⟩ n cap olds hol holds ad m c news hl hc hlt (by omega) (growslice_fits (by omega) hb), ?_, grownCap_ge w (n + m) cap e, grownCap_le_maxLen w (n + m) cap e hm, fun j hj => ?_⟩
    · rw [Array.size_append, zeroCells_size hzs, Array.size_append, List.size_toArray, List.size_toArray, hl, hol, ← Nat.add_mul, ← Nat.add_mul]
      congr 1
      have := grownCap_ge w (n + m) cap e
      omega
    · rw [Array.getElem?_append_left (by simpa using hj)]; simp

theorem appSrc_none {t e : TypeId} {i : TypeInfo} (ht : P.underlying t = some (.slice e)) (hi : P.info? e = some i) : AppSrc P w t t e i (.slice none 0 0) 0 [] where
  len := by simp
  one := by simp
  nil0 _ ty := by simp [Builtin.append_, run_underlying ht, sizeOf, typeInfo, hi, Builtin.lenOf, Builtin.firstCells]
  nil h0 := absurd h0 (by omega)
  room ty g n cap cur hg hr hs := by
    have hr' : n ≤ cap := by omega
    have : (cur.toList.take (n * i.size) ++ [] ++ cur.toList.drop (n * i.size + ([] : List Value).length)).toArray = cur := by simp
    rw [this, setRow_self w g cur e (0, 0) hg]
    simp [Builtin.append_, run_underlying ht, sizeOf, typeInfo, hi, Builtin.lenOf, Builtin.firstCells, hr', storeCells]
  grow ty g n cap olds _ _ hnc hlt := absurd hlt (by omega)

theorem appSrc_str {t u e : TypeId} {i : TypeInfo} (ht : P.underlying t = some (.slice e)) (hu : P.underlying u = some .string) (hi : P.info? e = some i) (hz : i.zero = some (.int .u8 0)) (hs1 : i.size = 1) (q : ByteArray) :
    AppSrc P w t u e i (.string q) q.size (strCells q) where
  len := by rw [strCells_length, hs1, Nat.mul_one]
  one := strCells_oneCell q
  nil0 h0 ty := by
    have h5 : (Builtin.firstCells 1 0 (.string q)).run P w = .ok #[] w := by simp [Builtin.firstCells]
    simp [Builtin.append_, run_underlying ht, run_underlying hu, sizeOf, typeInfo, hi, Builtin.lenOf, h0, hs1, h5]
  nil h0 hb hm ty := by
    have := maxLen_small hm
    refine ⟨_, _, run_append_nil_string (P := P) w t u ty e i (.int .u8 0) ht hu hi hz q h0 (by omega) (by omega), ?_, grownCap_ge w q.size 0 e, grownCap_le_maxLen w q.size 0 e hm, fun j hj => ?_⟩
    · have hzz : (Value.int IntKind.u8 0).cells.size = 1 := rfl
      rw [Array.size_append, size_zeroCells, hzz, Array.size_map, hs1]
      have := grownCap_ge w q.size 0 e
      have : q.data.size = q.size := rfl
      omega
    · have hj' : j < q.data.size := by rw [strCells_length] at hj; exact hj
      rw [Array.getElem?_append_left (by simpa using hj')]
      simp [strCells]
  room ty g n cap cur hg hr hs := by
    have := run_append_room_string (P := P) w t u ty e i ht hu hi hs1 g n cap cur hg q hr (by rw [hs, hs1]; omega)
    rw [this, strCells_length, hs1, Nat.mul_one]
  grow ty g n cap olds hol holds hnc hlt hb hm := by
    have := maxLen_small hm
    refine ⟨_, _, run_append_grow_string (P := P) w t u ty e i (.int .u8 0) ht hu hi hz ⟨g, 0, none⟩ n cap olds hol holds q hlt (by omega) (growslice_fits (by omega) hb), ?_, grownCap_ge w (n + q.size) cap e, grownCap_le_maxLen w (n + q.size) cap e hm, fun j hj => ?_⟩
    · have hzz : (Value.int IntKind.u8 0).cells.size = 1 := rfl
      rw [Array.size_append, size_zeroCells, hzz, Array.size_append, List.size_toArray, List.size_toArray, strCells_length, hol, hs1]
      have := grownCap_ge w (n + q.size) cap e
      omega
    · rw [Array.getElem?_append_left (by simpa using hj)]; simp

theorem flat_at {α : Type _} {size : Nat} (hsz : 0 < size) {es : List (List α)} (hes : ∀ e ∈ es, e.length = size) {i j : Nat} {e : List α} {c : α} (hi : es[i]? = some e) (hj : e[j]? = some c) : es.flatten[i * size + j]? = some c := by
  have hjl : j < size := by have := (List.getElem?_eq_some_iff.1 hj).1; rw [hes e (List.mem_of_getElem? hi)] at this; exact this
  rw [flat_get hsz es hes]
  have h1 : (i * size + j) / size = i := by rw [Nat.mul_comm, Nat.mul_add_div hsz, Nat.div_eq_of_lt hjl, Nat.add_zero]
  have h2 : (i * size + j) % size = j := by rw [Nat.mul_comm, Nat.mul_add_mod, Nat.mod_eq_of_lt hjl]
  rw [h1, h2, hi]; exact hj
theorem flat_inv {α : Type _} {size : Nat} (hsz : 0 < size) {es : List (List α)} (hes : ∀ e ∈ es, e.length = size) {k : Nat} {c : α} (h : es.flatten[k]? = some c) : ∃ e, es[k / size]? = some e ∧ e[k % size]? = some c := by
  rw [flat_get hsz es hes] at h
  exact bind_some h

/-- The model's append, as one operation over the two shapes of what is appended to. -/
theorem app_main (hS : Sim B0 lk σ st w) {t u e : TypeId} {i : TypeInfo} {px : PV} {ux y : Value} {new : List (List PV)} {news : List Value} (hsz : 0 < i.size) (hA : AppSrc P w t u e i y new.length news) (hnew : ∀ x ∈ new, x.length = i.size) (hrel : RelL lk σ new.flatten news) (hpx : Rel lk σ px ux)
    (h : appE st e i.size i.bytes new px = some (v, st')) : ∀ ty, ∃ r w' lk' σ', (Builtin.append_ #[t, u] ty #[ux, y]).run P w = .ok r w' ∧ Rel lk' σ' v r ∧ Sim B0 lk' σ' st' w' ∧ Step lk σ st w lk' σ' st' w' := by
  intro ty
  have hml : 281474976710656 ≤ maxLen := by unfold maxLen; omega
  have hnl : news.length = new.length * i.size := hA.len
  cases px with
  | nilsl =>
    cases hpx
    simp only [appE] at h
    by_cases hb : new.length * i.bytes ≤ 140737488355328 ∧ new.length ≤ 281474976710656
    · rw [if_pos hb] at h
      by_cases h0 : new.length = 0
      · rw [if_pos h0] at h
        simp only [Option.some.injEq, Prod.mk.injEq] at h
        obtain ⟨rfl, rfl⟩ := h
        exact ⟨_, w, lk, σ, hA.nil0 h0 ty, .nilsl, hS, Step.refl⟩
      · rw [if_neg h0] at h
        simp only [Option.some.injEq, Prod.mk.injEq] at h
        obtain ⟨rfl, rfl⟩ := h
        have hpos : 0 < new.length := by omega
        obtain ⟨cur, cap, r1, r2, r3, r4, r5⟩ := hA.nil hpos hb.1 (by omega) ty
        obtain ⟨σ', p1, p2, p3⟩ := row_push hS (es := new) (cur := cur) (cap := cap) (e := e) (b := w.heap.size) (w' := w.drew.alloc (.cells cur e)) hsz hnew r2 r3 r4 (fun k x hk j c hj => by
            have hf := flat_at hsz hnew hk hj
            have hlt : k * i.size + j < news.length := by have := (List.getElem?_eq_some_iff.1 hf).1; rw [hrel.1] at this; exact this
            exact ⟨news[k * i.size + j], by rw [r5 _ hlt]; exact List.getElem?_eq_getElem hlt, hrel.2 _ _ _ hf (List.getElem?_eq_getElem hlt)⟩)
          (Nat.le_refl _) (heap_alloc_new w.drew _) (fun k hk => heap_alloc_old w.drew _ k hk) (by simp) rfl rfl rfl
        exact ⟨_, _, lk, σ', r1, p1, p2, p3⟩
    · rw [if_neg hb] at h; cases h
  | row id g =>
    cases hpx with | @row _ _ _ L hL hcap =>
    simp only [appE] at h
    obtain ⟨B, hB, h⟩ := bind_some h
    by_cases hc : B.isRow = true ∧ B.es.length = g ∧ B.fz = false ∧ B.size = i.size ∧ B.e = e ∧ (g + new.length) * i.bytes ≤ 140737488355328 ∧ g + new.length ≤ 281474976710656
    · rw [if_pos hc] at h
      simp only [Option.some.injEq, Prod.mk.injEq] at h
      obtain ⟨rfl, rfl⟩ := h
      obtain ⟨c1, rfl, c3, c4, c5, c6, c7⟩ := hc
      have hgen : B.gen = B.es.length := by simp [Box.gen, c1]
      rw [← hgen] at hL
      have hbox := (hS.boxes id B L hB hL).1
      obtain ⟨cur, fr, h1, h2, h3, h4, h5⟩ := hbox.cells
      obtain rfl := h2 c3
      obtain ⟨hs1, hs2⟩ := hbox.size c1
      obtain ⟨h6, h7, h8⟩ := h3 c1
      have hLs : L.size = i.size := by rw [hs1, c4]
      rw [c4] at h6
      have heach : ∀ x ∈ B.es, x.length = i.size := fun x hx => by
        obtain ⟨k, hk⟩ := List.mem_iff_getElem?.1 hx
        rw [hbox.each c1 k x hk, c4]
      have hgen' : ({ B with es := B.es ++ new } : Box).gen = B.es.length + new.length := by simp [Box.gen, c1]
      have hall : ∀ x ∈ B.es ++ new, x.length = i.size := fun x hx => by
        rcases List.mem_append.1 hx with h | h
        · exact heach x h
        · exact hnew x h
      have holdlen : (cur.toList.take (B.es.length * i.size)).length = B.es.length * i.size := by
        have : B.es.length * i.size ≤ cur.size := by rw [h6]; exact Nat.mul_le_mul_right _ h7
        simp; omega
      have hold : RelL lk σ B.es.flatten (cur.toList.take (B.es.length * i.size)) := by
        refine ⟨by rw [flat_length _ heach, holdlen], fun k c x hk hx => ?_⟩
        obtain ⟨e', he1, he2⟩ := flat_inv hsz heach hk
        obtain ⟨u, hu, hr⟩ := h5 _ _ he1 _ _ he2
        rw [hLs, Nat.div_add_mod'] at hu
        have hkl : k < B.es.length * i.size := by have := (List.getElem?_eq_some_iff.1 hx).1; omega
        rw [List.getElem?_take_of_lt hkl] at hx
        simp only [Array.getElem?_toList] at hx
        rw [hu] at hx
        obtain rfl := Option.some.inj hx
        exact hr
      have hboth : RelL lk σ (B.es ++ new).flatten (cur.toList.take (B.es.length * i.size) ++ news) := by
        rw [List.flatten_append]
        refine ⟨by simp only [List.length_append]; rw [hold.1, hrel.1], fun k c x hk hx => ?_⟩
        by_cases hlt : k < B.es.flatten.length
        · rw [List.getElem?_append_left hlt] at hk
          rw [List.getElem?_append_left (by rw [← hold.1]; exact hlt)] at hx
          exact hold.2 k c x hk hx
        · rw [List.getElem?_append_right (by omega)] at hk
          rw [List.getElem?_append_right (by rw [← hold.1]; omega), ← hold.1] at hx
          exact hrel.2 _ c x hk hx
      have hcells : ∀ (cur' : Array Value), (∀ j, j < (cur.toList.take (B.es.length * i.size) ++ news).length → cur'[j]? = (cur.toList.take (B.es.length * i.size) ++ news)[j]?) →
          ∀ {σ2 : Sig}, (∀ i h L', σ i h = some L' → σ2 i h = some L') → ∀ k x, (B.es ++ new)[k]? = some x → ∀ (j : Nat) c, x[j]? = some c → ∃ u, cur'[k * i.size + j]? = some u ∧ Rel lk σ2 c u := by
        intro cur' hcur' σ2 hmono k x hk j c hj
        have hf := flat_at hsz hall hk hj
        have hlt : k * i.size + j < (cur.toList.take (B.es.length * i.size) ++ news).length := by have := (List.getElem?_eq_some_iff.1 hf).1; rw [hboth.1] at this; exact this
        exact ⟨_, by rw [hcur' _ hlt]; exact List.getElem?_eq_getElem hlt, (hboth.2 _ _ _ hf (List.getElem?_eq_getElem hlt)).mono (fun _ _ h => h) hmono⟩
      have hcm : ∀ L', (new.length = 0 → L' = L) → ∀ i h L'', σ i h = some L'' → σ.put id (B.es.length + new.length) L' i h = some L'' := fun L' h0 => Sig.put_mono (fun L'' h => by
        have := hS.top id _ _ B h hB
        have hz : new.length = 0 := by omega
        rw [h0 hz]
        rw [hz, Nat.add_zero, ← hgen, hL] at h
        exact (Option.some.inj h).symm)
      by_cases hroom : B.es.length + new.length ≤ L.cap
      · have hrun := hA.room ty L.b B.es.length L.cap cur (by rw [← c5]; exact h1) hroom h6
        have hfit : B.es.length * i.size + news.length ≤ cur.toList.length := by
          have : (B.es.length + new.length) * i.size ≤ L.cap * i.size := Nat.mul_le_mul_right _ hroom
          rw [Nat.add_mul] at this
          simp; omega
        have hnewcur : ∀ j, j < (cur.toList.take (B.es.length * i.size) ++ news).length → (cur.toList.take (B.es.length * i.size) ++ news ++ cur.toList.drop (B.es.length * i.size + news.length)).toArray[j]? = (cur.toList.take (B.es.length * i.size) ++ news)[j]? := fun j hj => by
          simp only [List.getElem?_toArray]
          rw [List.getElem?_append_left hj]
        have hmain := hS.setBox (B' := { B with es := B.es ++ new }) (L' := L) (lk' := lk) (w' := w.setRow L.b (cur.toList.take (B.es.length * i.size) ++ news ++ cur.toList.drop (B.es.length * i.size + news.length)).toArray) hB hL
          (by rw [hgen, hgen']; omega) (fun _ => rfl) (.inl rfl) (fun _ _ h => h) (fun _ _ => rfl)
          (fun ad x hab hx => by
            obtain ⟨q1, q2⟩ := hS.locked ad x hx
            refine ⟨q1, ?_⟩
            obtain ⟨ab, ao, asp⟩ := ad
            simp only at q1 hab
            subst q1; subst hab
            rw [cell_of_row _ _ _ _ B.e (0, 0) (setRow_heap w _ cur _ B.e (0, 0) h1)]
            rw [cell_of_row w _ _ cur B.e (0, 0) h1] at q2
            have hfree : ¬ (B.lk * L.size ≤ ao) := fun h => by rw [hbox.free ao h] at hx; cases hx
            have hlke : B.lk * L.size ≤ B.es.length * i.size := by rw [hLs]; exact Nat.mul_le_mul_right _ hbox.lkle
            simp only [List.getElem?_toArray]
            rw [splice_get _ _ _ _ hfit, if_pos (by omega)]
            simpa using q2)
          (fun k _ hk => setRow_other w L.b k _ hk) (by simp) rfl rfl rfl
          (by
            rw [hgen']
            refine ⟨⟨_, (0, 0), setRow_heap w _ cur _ B.e (0, 0) h1, fun _ => rfl, fun _ => ⟨?_, by simpa using hroom, h8⟩, fun h => (by rw [c1] at h; cases h), ?_⟩, fun _ => ⟨hs1, hs2⟩, fun _ k x hk => by simp only [] at hk ⊢; rw [c4]; exact hall x (List.mem_of_getElem? hk), fun h => (by rw [c1] at h; cases h), ?_, hbox.free⟩
            · simp only [] ; rw [c4, ← h6]; simp; simp at hfit; omega
            · rw [hLs]; exact hcells _ hnewcur (hcm L (fun _ => rfl))
            · simp only [List.length_append]; have := hbox.lkle; omega)
        rw [hgen'] at hmain
        exact ⟨_, _, lk, _, hrun, Rel.row (Sig.put_self σ id _ L) hroom, hmain.1, hmain.2⟩
      · have hpos : 0 < new.length := by omega
        obtain ⟨cur', cap', r1, r2, r3, r4, r5⟩ := hA.grow ty L.b B.es.length L.cap (cur.toList.take (B.es.length * i.size)) holdlen (fun j x hj => by
            rw [Addr.add_mid, Nat.zero_add, cell_of_row w L.b j cur B.e (0, 0) h1]
            have hkl : j < B.es.length * i.size := by have := (List.getElem?_eq_some_iff.1 hj).1; omega
            rw [List.getElem?_take_of_lt hkl] at hj
            simpa using hj) h7 (by omega) c6 (by omega)
        have hmain := hS.setBox (B' := { B with es := B.es ++ new }) (L' := ⟨w.heap.size, cap', i.size⟩) (lk' := lk) (w' := w.drew.alloc (.cells cur' e)) hB hL
          (by rw [hgen, hgen']; omega) (fun h => by rw [hgen, hgen'] at h; omega) (.inr (Nat.le_refl _)) (fun _ _ h => h) (fun _ _ => rfl)
          (fun ad x hab hx => by
            obtain ⟨q1, q2⟩ := hS.locked ad x hx
            exact ⟨q1, by rw [World.cell?_of_block (heap_alloc_old w.drew _ ad.block (World.block_lt_of_cell? w ad q2))]; exact q2⟩)
          (fun k hk _ => heap_alloc_old w.drew _ k hk) (by simp) rfl rfl rfl
          (by
            rw [hgen']
            refine ⟨⟨cur', (0, 0), by simp only []; rw [c5]; exact heap_alloc_new w.drew _, fun _ => rfl, fun _ => ⟨by simp only []; rw [c4]; exact r2, by simpa using r3, r4⟩, fun h => (by rw [c1] at h; cases h), hcells _ r5 (hcm _ (fun h => by omega))⟩, fun _ => ⟨c4.symm, by simp only []; rw [c4]; exact hsz⟩, fun _ k x hk => by simp only [] at hk ⊢; rw [c4]; exact hall x (List.mem_of_getElem? hk), fun h => (by rw [c1] at h; cases h), by simp only [List.length_append]; have := hbox.lkle; omega, fun j _ => hS.free (Nat.le_refl _) j none⟩)
        rw [hgen'] at hmain
        exact ⟨_, _, lk, _, r1, Rel.row (L := ⟨w.heap.size, cap', i.size⟩) (Sig.put_self σ id _ _) r3, hmain.1, hmain.2⟩
    · rw [if_neg hc] at h; cases h
  | _ => simp [appE] at h
end
end Go.Vs
