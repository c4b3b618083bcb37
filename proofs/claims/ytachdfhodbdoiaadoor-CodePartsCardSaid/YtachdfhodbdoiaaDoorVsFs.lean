/-
  The evaluator's operations do the same wherever the boxes lie. Under no condition.
-/
import Derived.Test.YtachdfhodbdoiaaDoorVsFr
namespace Go.Vs
open Go
section
variable {ρ ρ' ρ'' : List Nat} {st st' big big' big'' : Store} {s s' : Slots} {v w : PV}

/-! ### freezing -/
theorem frz1_sh (hS : SR ρ st big) {keep : Bool} {x : PV × Store} (h : frz1 keep st v = some x) (hv : Sh ρ v w) : ∃ y, frz1 keep big w = some y ∧ Sh ρ x.1 y.1 ∧ SR ρ x.2 y.2 ∧ Grow ρ big ρ y.2 := by
  have plain : (∀ z, Sh ρ v z → frz1 keep big z = some (z, big)) → frz1 keep st v = some (v, st) → ∃ y, frz1 keep big w = some y ∧ Sh ρ x.1 y.1 ∧ SR ρ x.2 y.2 ∧ Grow ρ big ρ y.2 := fun h1 h2 => by
    rw [h2] at h; cases h
    exact ⟨(w, big), h1 w hv, hv, hS, Grow.refl⟩
  cases v with
  | row id g =>
    obtain ⟨id', rfl, hid⟩ := hv.row_inv
    simp only [frz1] at h ⊢
    obtain ⟨B, hB, h⟩ := bind_some h
    obtain ⟨B', hB', hb⟩ := hS.at hid hB
    rw [hB']; simp only [Option.bind_some]
    split at h
    · rename_i hc
      cases h
      have hfree := hb.es.ref1_free hc.2.2
      have hes := hb.es.same hfree
      rw [if_pos ⟨by rw [hb.isRow]; exact hc.1, by rw [hes]; exact hc.2.1, by rw [hes]; exact hc.2.2⟩]
      obtain ⟨h1, h2⟩ := hS.set (B := { B with lk := g }) (B' := { B' with lk := g }) hid ⟨hb.es, hb.isRow, hb.size, hb.e, rfl, hb.fz⟩
      exact ⟨_, rfl, by simp only [hes]; exact .free (.sl hfree), h1, h2⟩
    · cases h
  | nilsl =>
    cases hv.nilsl_inv
    simp only [frz1, Option.some.injEq] at h ⊢
    subst h
    refine ⟨_, rfl, ?_, hS, Grow.refl⟩
    cases keep
    · exact .free (.sl (fun e he => by simp at he))
    · exact .free .nilsl
  | arr a b c => simp [frz1] at h
  | ptr a b c d => exact plain (fun z hz => by obtain ⟨i, rfl, _⟩ := hz.ptr_inv; rfl) rfl
  | undef => exact plain (fun z hz => by cases hz.undef_inv; rfl) rfl
  | bool b => exact plain (fun z hz => by cases hz.bool_inv; rfl) rfl
  | int k n => exact plain (fun z hz => by cases hz.int_inv; rfl) rfl
  | str s => exact plain (fun z hz => by cases hz.str_inv; rfl) rfl
  | nilp => exact plain (fun z hz => by cases hz.nilp_inv; rfl) rfl
  | pf cs => exact plain (fun z hz => by cases hz.pf_inv.1; rfl) rfl
  | sl es => exact plain (fun z hz => by cases hz.sl_inv.1; rfl) rfl
  | fn f cs => exact plain (fun z hz => by obtain ⟨i, rfl, _⟩ := hz.fn_inv; rfl) rfl
  | nilif => exact plain (fun z hz => by cases hz.nilif_inv; rfl) rfl
  | iface t p => exact plain (fun z hz => by obtain ⟨i, rfl, _⟩ := hz.iface_inv; rfl) rfl
  | agg cs => exact plain (fun z hz => by obtain ⟨i, rfl, _⟩ := hz.agg_inv; rfl) rfl
  | tup cs => exact plain (fun z hz => by obtain ⟨i, rfl, _⟩ := hz.tup_inv; rfl) rfl

theorem frz2_of {keep : Bool} (h : ∀ cs, v ≠ .agg cs) : frz2 keep st v = frz1 keep st v := by
  cases v with
  | agg cs => exact absurd rfl (h cs)
  | _ => rfl
theorem frz3_of {keep : Bool} (h : ∀ cs, v ≠ .tup cs) : frz3 keep st v = frz2 keep st v := by
  cases v with
  | tup cs => exact absurd rfl (h cs)
  | _ => rfl
theorem Sh.not_agg (h : Sh ρ v w) (hn : ∀ cs, v ≠ .agg cs) : ∀ cs, w ≠ .agg cs := by
  rintro cs rfl
  cases h with
  | free h => exact hn _ rfl
  | agg _ _ => exact hn _ rfl
theorem Sh.not_tup (h : Sh ρ v w) (hn : ∀ cs, v ≠ .tup cs) : ∀ cs, w ≠ .tup cs := by
  rintro cs rfl
  cases h with
  | free h => exact hn _ rfl
  | tup _ _ => exact hn _ rfl
theorem frzL_sh {keep : Bool} : ∀ {vs ws : List PV} {st big : Store} {x : List PV × Store} (_ : SR ρ st big) (_ : frzL keep st vs = some x) (_ : ShL ρ vs ws), ∃ y, frzL keep big ws = some y ∧ ShL ρ x.1 y.1 ∧ SR ρ x.2 y.2 ∧ Grow ρ big ρ y.2
  | [], ws, st, big, x, hS, h, hv => by
    rw [hv.nil_inv]
    simp only [frzL, Option.some.injEq] at h ⊢
    subst h
    exact ⟨_, rfl, .nil, hS, Grow.refl⟩
  | v :: r, ws, st, big, x, hS, h, hv => by
    obtain ⟨w, ws', rfl, h1, h2⟩ := hv.uncons
    simp only [frzL] at h ⊢
    obtain ⟨⟨a, st1⟩, h3, h⟩ := bind_some h
    obtain ⟨⟨b, st2⟩, h4, h⟩ := bind_some h
    cases h
    obtain ⟨⟨a', g1⟩, h5, h6, h7, h8⟩ := frz1_sh hS h3 h1
    obtain ⟨⟨b', g2⟩, h9, h10, h11, h12⟩ := frzL_sh h7 h4 h2
    rw [h5]; simp only [Option.bind_some]; rw [h9]
    exact ⟨_, rfl, .cons h6 h10, h11, h8.trans h12⟩
theorem frz2_sh (hS : SR ρ st big) {keep : Bool} {x : PV × Store} (h : frz2 keep st v = some x) (hv : Sh ρ v w) : ∃ y, frz2 keep big w = some y ∧ Sh ρ x.1 y.1 ∧ SR ρ x.2 y.2 ∧ Grow ρ big ρ y.2 := by
  by_cases hn : ∃ cs, v = .agg cs
  · obtain ⟨cs, rfl⟩ := hn
    obtain ⟨ds, rfl, h1⟩ := hv.agg_inv
    simp only [frz2] at h ⊢
    obtain ⟨⟨a, st1⟩, h3, h⟩ := bind_some h
    cases h
    obtain ⟨⟨a', g1⟩, h5, h6, h7, h8⟩ := frzL_sh hS h3 h1
    rw [h5]
    exact ⟨_, rfl, Sh.mk_agg h6, h7, h8⟩
  · have hn' : ∀ cs, v ≠ .agg cs := fun cs e => hn ⟨cs, e⟩
    rw [frz2_of hn'] at h
    rw [frz2_of (hv.not_agg hn')]
    exact frz1_sh hS h hv
theorem frzA_sh {keep : Bool} : ∀ {vs ws : List PV} {st big : Store} {x : List PV × Store} (_ : SR ρ st big) (_ : frzA keep st vs = some x) (_ : ShL ρ vs ws), ∃ y, frzA keep big ws = some y ∧ ShL ρ x.1 y.1 ∧ SR ρ x.2 y.2 ∧ Grow ρ big ρ y.2
  | [], ws, st, big, x, hS, h, hv => by
    rw [hv.nil_inv]
    simp only [frzA, Option.some.injEq] at h ⊢
    subst h
    exact ⟨_, rfl, .nil, hS, Grow.refl⟩
  | v :: r, ws, st, big, x, hS, h, hv => by
    obtain ⟨w, ws', rfl, h1, h2⟩ := hv.uncons
    simp only [frzA] at h ⊢
    obtain ⟨⟨a, st1⟩, h3, h⟩ := bind_some h
    obtain ⟨⟨b, st2⟩, h4, h⟩ := bind_some h
    cases h
    obtain ⟨⟨a', g1⟩, h5, h6, h7, h8⟩ := frz2_sh hS h3 h1
    obtain ⟨⟨b', g2⟩, h9, h10, h11, h12⟩ := frzA_sh h7 h4 h2
    rw [h5]; simp only [Option.bind_some]; rw [h9]
    exact ⟨_, rfl, .cons h6 h10, h11, h8.trans h12⟩
theorem frz3_sh (hS : SR ρ st big) {keep : Bool} {x : PV × Store} (h : frz3 keep st v = some x) (hv : Sh ρ v w) : ∃ y, frz3 keep big w = some y ∧ Sh ρ x.1 y.1 ∧ SR ρ x.2 y.2 ∧ Grow ρ big ρ y.2 := by
  by_cases hn : ∃ cs, v = .tup cs
  · obtain ⟨cs, rfl⟩ := hn
    obtain ⟨ds, rfl, h1⟩ := hv.tup_inv
    simp only [frz3] at h ⊢
    obtain ⟨⟨a, st1⟩, h3, h⟩ := bind_some h
    cases h
    obtain ⟨⟨a', g1⟩, h5, h6, h7, h8⟩ := frzA_sh hS h3 h1
    rw [h5]
    exact ⟨_, rfl, Sh.mk_tup h6, h7, h8⟩
  · have hn' : ∀ cs, v ≠ .tup cs := fun cs e => hn ⟨cs, e⟩
    rw [frz3_of hn'] at h
    rw [frz3_of (hv.not_tup hn')]
    exact frz2_sh hS h hv

/-! ### memory -/
theorem readP_sh (hS : SR ρ st big) {n : Nat} {l : List PV} (h : readP st n v = some l) (hv : Sh ρ v w) : ∃ l', readP big n w = some l' ∧ ShL ρ l l' := by
  cases v with
  | ptr id g i off =>
    obtain ⟨id', rfl, hid⟩ := hv.ptr_inv
    simp only [readP] at h ⊢
    obtain ⟨B, hB, h⟩ := bind_some h
    obtain ⟨B', hB', hb⟩ := hS.at hid hB
    rw [hB']; simp only [Option.bind_some]
    split at h
    · rename_i hg
      obtain ⟨cs, hc, h⟩ := bind_some h
      obtain ⟨ds, hd, hcd⟩ := hb.es.get hc
      split at h
      · rename_i hl
        cases h
        rw [if_pos (by rw [hb.gen]; exact hg), hd]; simp only [Option.bind_some]
        rw [if_pos (by rw [← hcd.1]; exact hl)]
        exact ⟨_, rfl, (hcd.drop off).take n⟩
      · cases h
    · cases h
  | pf cs =>
    obtain ⟨rfl, hf⟩ := hv.pf_inv
    simp only [readP] at h ⊢
    split at h
    · rename_i hl
      cases h
      rw [if_pos hl]
      exact ⟨_, rfl, (ShL.free hf).take n⟩
    · cases h
  | _ => simp [readP] at h
theorem putCells_sh {cs ds xs ys : List PV} (h : ShL ρ cs ds) (hx : ShL ρ xs ys) (off : Nat) : ShL ρ (putCells cs off xs) (putCells ds off ys) := by
  match xs, ys, hx with
  | [], ys, hx =>
    rw [hx.nil_inv]
    exact (h.take off).append (ShL.nil.append (h.drop _))
  | [x], ys, hx =>
    obtain ⟨y, ys', rfl, h1, h2⟩ := hx.uncons
    rw [h2.nil_inv]
    exact h.set off h1
  | x :: x2 :: xs, ys, hx =>
    obtain ⟨y, ys', rfl, h1, h2⟩ := hx.uncons
    obtain ⟨y2, ys2, rfl, h3, h4⟩ := h2.uncons
    have hl := hx.1
    simp only [putCells]
    rw [← hl]
    exact (h.take off).append (hx.append (h.drop _))
theorem putCells_len {cs xs : List PV} {off : Nat} (h : off + xs.length ≤ cs.length) : (putCells cs off xs).length = cs.length := by
  unfold putCells
  split
  · simp
  · simp; omega
theorem writeP_sh (hS : SR ρ st big) {xs ys : List PV} (h : writeP st v xs = some st') (hv : Sh ρ v w) (hx : ShL ρ xs ys) : ∃ big', writeP big w ys = some big' ∧ SR ρ st' big' ∧ Grow ρ big ρ big' := by
  cases v with
  | ptr id g i off =>
    obtain ⟨id', rfl, hid⟩ := hv.ptr_inv
    simp only [writeP] at h ⊢
    obtain ⟨B, hB, h⟩ := bind_some h
    obtain ⟨B', hB', hb⟩ := hS.at hid hB
    rw [hB']; simp only [Option.bind_some]
    split at h
    · rename_i hg
      obtain ⟨cs, hc, h⟩ := bind_some h
      obtain ⟨ds, hd, hcd⟩ := hb.es.get hc
      split at h
      · rename_i hl
        cases h
        rw [if_pos ⟨by rw [hb.gen]; exact hg.1, by rw [hb.fz]; exact hg.2.1, by rw [hb.isRow, hb.lk]; exact hg.2.2⟩, hd]; simp only [Option.bind_some]
        rw [if_pos (by rw [← hcd.1, ← hx.1]; exact hl)]
        obtain ⟨h1, h2⟩ := hS.set (B := { B with es := B.es.set i (putCells cs off xs) }) (B' := { B' with es := B'.es.set i (putCells ds off ys) }) hid ⟨hb.es.set i (putCells_sh hcd hx off), hb.isRow, hb.size, hb.e, hb.lk, hb.fz⟩
        exact ⟨_, rfl, h1, h2⟩
      · cases h
    · cases h
  | _ => simp [writeP] at h
theorem bytesOf_sh : ∀ {es fs : List (List PV)} {l : List UInt8} (_ : EsR ρ es fs) (_ : bytesOf es = some l), bytesOf fs = some l
  | [], fs, l, h, hl => by rw [h.nil_inv]; exact hl
  | e :: r, fs, l, h, hl => by
    obtain ⟨f, fs', rfl, h1, h2⟩ := h.uncons
    match e, h1, hl with
    | [.int .u8 n], h1, hl =>
      obtain ⟨d, ds, rfl, h3, h4⟩ := h1.uncons
      cases h3.int_inv
      rw [h4.nil_inv]
      simp only [bytesOf] at hl ⊢
      obtain ⟨l', h5, h6⟩ := bind_some hl
      rw [bytesOf_sh h2 h5]
      exact h6
theorem ofBytes_free (l : List UInt8) : ∀ e ∈ ofBytes l, ∀ c ∈ e, Free c := fun e he c hc => by
  simp only [ofBytes, List.mem_map] at he
  obtain ⟨b, _, rfl⟩ := he
  simp only [List.mem_singleton] at hc
  subst hc
  exact .int _ _
theorem singles_sh {cs ds : List PV} (h : ShL ρ cs ds) : EsR ρ (cs.map fun c => [c]) (ds.map fun c => [c]) := by
  refine ⟨by simp [h.1], fun j c d hc hd => ?_⟩
  simp only [List.getElem?_map, Option.map_eq_some_iff] at hc hd
  obtain ⟨x, hx, rfl⟩ := hc
  obtain ⟨y, hy, rfl⟩ := hd
  exact .cons (h.2 j x y hx hy) .nil
theorem elemsOf_sh (hS : SR ρ st big) {es : List (List PV)} (h : elemsOf st v = some es) (hv : Sh ρ v w) : ∃ fs, elemsOf big w = some fs ∧ EsR ρ es fs := by
  cases v with
  | nilsl => cases hv.nilsl_inv; cases h; exact ⟨_, rfl, .nil⟩
  | sl es' => obtain ⟨rfl, hf⟩ := hv.sl_inv; cases h; exact ⟨_, rfl, EsR.free hf⟩
  | row id g =>
    obtain ⟨id', rfl, hid⟩ := hv.row_inv
    simp only [elemsOf] at h ⊢
    obtain ⟨B, hB, h⟩ := bind_some h
    obtain ⟨B', hB', hb⟩ := hS.at hid hB
    rw [hB']; simp only [Option.bind_some]
    split at h
    · rename_i hc
      cases h
      rw [if_pos ⟨by rw [hb.isRow]; exact hc.1, by rw [← hb.es.1]; exact hc.2⟩]
      exact ⟨_, rfl, hb.es⟩
    · cases h
  | arr id off len =>
    obtain ⟨id', rfl, hid⟩ := hv.arr_inv
    simp only [elemsOf] at h ⊢
    obtain ⟨B, hB, h⟩ := bind_some h
    obtain ⟨B', hB', hb⟩ := hS.at hid hB
    rw [hB']; simp only [Option.bind_some]
    split at h
    · rename_i hr
      obtain ⟨cs, hc, h⟩ := bind_some h
      obtain ⟨ds, hd, hcd⟩ := hb.es.get hc
      split at h
      · rename_i hl
        cases h
        rw [if_pos (by rw [hb.isRow]; exact hr), hd]; simp only [Option.bind_some]
        rw [if_pos (by rw [← hcd.1]; exact hl)]
        exact ⟨_, rfl, singles_sh ((hcd.drop off).take len)⟩
      · cases h
    · cases h
  | _ => simp [elemsOf] at h
theorem srcE_sh (hS : SR ρ st big) {isStr : Bool} {es : List (List PV)} (h : srcE isStr st v = some es) (hv : Sh ρ v w) : ∃ fs, srcE isStr big w = some fs ∧ EsR ρ es fs := by
  cases isStr with
  | false => exact elemsOf_sh hS h hv
  | true =>
    cases v with
    | str l => cases hv.str_inv; cases h; exact ⟨_, rfl, EsR.free (ofBytes_free l)⟩
    | _ => simp [srcE] at h
theorem appE_sh (hS : SR ρ st big) {e : TypeId} {size bytes : Nat} {es fs : List (List PV)} {x : PV × Store} (h : appE st e size bytes es v = some x) (hv : Sh ρ v w) (hes : EsR ρ es fs) :
    ∃ ρ' y, appE big e size bytes fs w = some y ∧ Sh ρ' x.1 y.1 ∧ SR ρ' x.2 y.2 ∧ Grow ρ big ρ' y.2 := by
  cases v with
  | nilsl =>
    cases hv.nilsl_inv
    simp only [appE] at h ⊢
    rw [← hes.1]
    split at h
    · rename_i hc
      rw [if_pos hc]
      split at h
      · rename_i h0
        cases h
        rw [if_pos h0]
        exact ⟨ρ, _, rfl, .free .nilsl, hS, Grow.refl⟩
      · rename_i h0
        cases h
        rw [if_neg h0]
        obtain ⟨h1, h2, h3⟩ := hS.alloc (B := Box.mk es true size e 0 false) (B' := Box.mk fs true size e 0 false) ⟨hes, rfl, rfl, rfl, rfl, rfl⟩
        exact ⟨_, _, rfl, .row h3, h1, h2⟩
    · cases h
  | row id g =>
    obtain ⟨id', rfl, hid⟩ := hv.row_inv
    simp only [appE] at h ⊢
    obtain ⟨B, hB, h⟩ := bind_some h
    obtain ⟨B', hB', hb⟩ := hS.at hid hB
    rw [hB']; simp only [Option.bind_some]
    split at h
    · rename_i hc
      cases h
      rw [← hes.1, if_pos ⟨by rw [hb.isRow]; exact hc.1, by rw [← hb.es.1]; exact hc.2.1, by rw [hb.fz]; exact hc.2.2.1, by rw [hb.size]; exact hc.2.2.2.1, by rw [hb.e]; exact hc.2.2.2.2.1, hc.2.2.2.2.2⟩]
      obtain ⟨h1, h2⟩ := hS.set (B := { B with es := B.es ++ es }) (B' := { B' with es := B'.es ++ fs }) hid ⟨hb.es.append hes, hb.isRow, hb.size, hb.e, hb.lk, hb.fz⟩
      exact ⟨ρ, _, rfl, .row hid, h1, h2⟩
    · cases h
  | _ => simp [appE] at h

/-! ### numbers, bools, texts -/
theorem binE_sh {op : BinOp} {a b a' b' x : PV} (h : binE op a b = some x) (ha : Sh ρ a a') (hb : Sh ρ b b') : binE op a' b' = some x ∧ Free x := by
  have hfree : Free x := by
    cases a with
    | int k n => cases b with
      | int k' n' =>
        simp only [binE] at h
        split at h <;> (try split at h) <;> (try split at h) <;> (try split at h) <;> first | (cases h; constructor) | cases h
      | _ => simp [binE] at h
    | str l => cases b with
      | str l' =>
        simp only [binE] at h
        split at h <;> (try split at h) <;> first | (cases h; constructor) | cases h
      | _ => simp [binE] at h
    | _ => simp [binE] at h
  refine ⟨?_, hfree⟩
  cases a with
  | int k n => cases b with
    | int k' n' => cases ha.int_inv; cases hb.int_inv; exact h
    | _ => simp [binE] at h
  | str l => cases b with
    | str l' => cases ha.str_inv; cases hb.str_inv; exact h
    | _ => simp [binE] at h
  | _ => simp [binE] at h
theorem eqbE_sh {neg : Bool} {a b a' b' x : PV} (h : eqbE neg a b = some x) (ha : Sh ρ a a') (hb : Sh ρ b b') : eqbE neg a' b' = some x ∧ Free x := by
  cases a with
  | bool p => cases b with
    | bool q => cases ha.bool_inv; cases hb.bool_inv; refine ⟨h, ?_⟩; cases h; exact .bool _
    | _ => simp [eqbE] at h
  | _ => simp [eqbE] at h
theorem eqnilE_sh {sl neg : Bool} {a a' x : PV} (h : eqnilE sl neg a = some x) (ha : Sh ρ a a') : eqnilE sl neg a' = some x ∧ Free x := by
  cases sl with
  | true =>
    cases a with
    | nilsl => cases ha.nilsl_inv; refine ⟨h, ?_⟩; cases h; exact .bool _
    | sl es => cases ha.sl_inv.1; refine ⟨h, ?_⟩; cases es with
      | nil => simp [eqnilE] at h
      | cons e r => cases h; exact .bool _
    | row id g => obtain ⟨id', rfl, _⟩ := ha.row_inv; cases g with
      | zero => simp [eqnilE] at h
      | succ g => refine ⟨h, ?_⟩; cases h; exact .bool _
    | _ => simp [eqnilE] at h
  | false =>
    cases a with
    | nilp => cases ha.nilp_inv; refine ⟨h, ?_⟩; cases h; exact .bool _
    | pf cs => cases ha.pf_inv.1; refine ⟨h, ?_⟩; cases h; exact .bool _
    | ptr id g i off => obtain ⟨id', rfl, _⟩ := ha.ptr_inv; refine ⟨h, ?_⟩; cases h; exact .bool _
    | _ => simp [eqnilE] at h
theorem eqpE_sh {neg : Bool} {a b a' b' x : PV} (h : eqpE neg a b = some x) (ha : Sh ρ a a') (hb : Sh ρ b b') : eqpE neg a' b' = some x ∧ Free x := by
  cases a with
  | ptr id g i off => cases b with
    | ptr id2 g2 i2 off2 =>
      obtain ⟨x1, rfl, h1⟩ := ha.ptr_inv
      obtain ⟨x2, rfl, h2⟩ := hb.ptr_inv
      simp only [eqpE] at h ⊢
      split at h
      · rename_i hc
        cases h
        obtain ⟨rfl, hc⟩ := hc
        rw [h1] at h2; cases h2
        exact ⟨by rw [if_pos ⟨rfl, hc⟩], .bool _⟩
      · cases h
    | _ => simp [eqpE] at h
  | _ => simp [eqpE] at h
theorem eqCell_sh {k : Nat} {a b a' b' : PV} {r : Bool} (h : eqCell k a b = some r) (ha : Sh ρ a a') (hb : Sh ρ b b') : eqCell k a' b' = some r := by
  cases a <;> cases b <;> (try (simp [eqCell] at h; done))
  · cases ha.bool_inv; cases hb.bool_inv; exact h
  · cases ha.int_inv; cases hb.int_inv; exact h
  · cases ha.str_inv; cases hb.str_inv; exact h
theorem eqCells_sh : ∀ {ks : List Nat} {cs ds cs' ds' : List PV} {r : Bool} (_ : eqCells ks cs ds = some r) (_ : ShL ρ cs cs') (_ : ShL ρ ds ds'), eqCells ks cs' ds' = some r
  | [], cs, ds, cs', ds', r, h, ha, hb => by
    cases cs <;> cases ds <;> (try (simp [eqCells] at h; done))
    rw [ha.nil_inv, hb.nil_inv]; exact h
  | k :: ks, cs, ds, cs', ds', r, h, ha, hb => by
    cases cs <;> cases ds <;> (try (simp [eqCells] at h; done))
    obtain ⟨c', r1, rfl, h1, h2⟩ := ha.uncons
    obtain ⟨d', r2, rfl, h3, h4⟩ := hb.uncons
    simp only [eqCells] at h ⊢
    obtain ⟨x, h5, h⟩ := bind_some h
    obtain ⟨y, h6, h⟩ := bind_some h
    rw [eqCell_sh h5 h1 h3]; simp only [Option.bind_some]; rw [eqCells_sh h6 h2 h4]; exact h
theorem eqsE_sh {ks : List Nat} {neg : Bool} {a b a' b' x : PV} (h : eqsE ks neg a b = some x) (ha : Sh ρ a a') (hb : Sh ρ b b') : eqsE ks neg a' b' = some x ∧ Free x := by
  cases a <;> cases b <;> (try (simp [eqsE] at h; done))
  obtain ⟨as, rfl, h1⟩ := ha.agg_inv
  obtain ⟨bs, rfl, h2⟩ := hb.agg_inv
  simp only [eqsE] at h ⊢
  obtain ⟨r, h3, h⟩ := bind_some h
  cases h
  rw [eqCells_sh h3 h1 h2]
  exact ⟨rfl, .bool _⟩
theorem unE_sh {op : UnOp} {a a' x : PV} (h : unE op a = some x) (ha : Sh ρ a a') : unE op a' = some x ∧ Free x := by
  cases a with
  | bool b => cases ha.bool_inv; refine ⟨h, ?_⟩; cases op <;> simp only [unE] at h <;> cases h; exact .bool _
  | int k n => cases ha.int_inv; refine ⟨h, ?_⟩; cases op <;> simp only [unE] at h <;> cases h <;> exact .int _ _
  | _ => simp [unE] at h
theorem idx_sh {n m : Nat} {a a' : PV} (h : idx n a = some m) (ha : Sh ρ a a') : idx n a' = some m := by
  cases a with
  | int k i => cases ha.int_inv; exact h
  | _ => simp [idx] at h
theorem bnd_sh {n d m : Nat} {a a' : Option PV} (h : bnd n d a = some m) (ha : (a = none ∧ a' = none) ∨ ∃ x y, a = some x ∧ a' = some y ∧ Sh ρ x y) : bnd n d a' = some m := by
  rcases ha with ⟨rfl, rfl⟩ | ⟨x, y, rfl, rfl, hs⟩
  · exact h
  · cases x with
    | int k i => cases hs.int_inv; exact h
    | _ => simp [bnd] at h

/-! ### building -/
theorem fillE_sh : ∀ {ps qs : List (Nat × Nat × PV)} {zs ys x : List PV} (_ : fillE zs ps = some x) (_ : ShL ρ zs ys) (_ : ps.length = qs.length) (_ : ∀ (j : Nat) p q, ps[j]? = some p → qs[j]? = some q → p.1 = q.1 ∧ p.2.1 = q.2.1 ∧ Sh ρ p.2.2 q.2.2), ∃ y, fillE ys qs = some y ∧ ShL ρ x y
  | [], qs, zs, ys, x, h, hz, hl, hq => by
    have : qs = [] := List.eq_nil_of_length_eq_zero hl.symm
    subst this
    cases h
    exact ⟨ys, rfl, hz⟩
  | (off, size, v) :: r, qs, zs, ys, x, h, hz, hl, hq => by
    cases qs with
    | nil => simp at hl
    | cons q qs =>
      obtain ⟨off', size', w⟩ := q
      obtain ⟨h1, h2, h3⟩ := hq 0 _ _ rfl rfl
      simp only [] at h1 h2 h3
      subst h1; subst h2
      simp only [fillE] at h ⊢
      split at h
      · rename_i hc
        have hcell := h3.cellsOf
        rw [if_pos ⟨by rw [← hcell.1]; exact hc.1, by rw [hcell.all (fun c d hs => hs.oneP)]; exact hc.2.1, by rw [← hz.1]; exact hc.2.2⟩]
        exact fillE_sh h (putCells_sh hz hcell off) (by simpa using hl) (fun j p q hp hq' => hq (j + 1) p q (by simpa using hp) (by simpa using hq'))
      · cases h
theorem fillR_sh : ∀ {ps qs : List (Nat × PV)} {size : Nat} {es fs x : List (List PV)} (_ : fillR es size ps = some x) (_ : EsR ρ es fs) (_ : ps.length = qs.length) (_ : ∀ (j : Nat) p q, ps[j]? = some p → qs[j]? = some q → p.1 = q.1 ∧ Sh ρ p.2 q.2), ∃ y, fillR fs size qs = some y ∧ EsR ρ x y
  | [], qs, size, es, fs, x, h, hz, hl, hq => by
    have : qs = [] := List.eq_nil_of_length_eq_zero hl.symm
    subst this
    cases h
    exact ⟨fs, rfl, hz⟩
  | (i, v) :: r, qs, size, es, fs, x, h, hz, hl, hq => by
    cases qs with
    | nil => simp at hl
    | cons q qs =>
      obtain ⟨i', w⟩ := q
      obtain ⟨h1, h3⟩ := hq 0 _ _ rfl rfl
      simp only [] at h1 h3
      subst h1
      simp only [fillR] at h ⊢
      split at h
      · rename_i hc
        have hcell := h3.cellsOf
        rw [if_pos ⟨by rw [← hcell.1]; exact hc.1, by rw [hcell.all (fun c d hs => hs.oneP)]; exact hc.2.1, by rw [← hz.1]; exact hc.2.2⟩]
        exact fillR_sh h (hz.set i hcell) (by simpa using hl) (fun j p q hp hq' => hq (j + 1) p q (by simpa using hp) (by simpa using hq'))
      · cases h
end
end Go.Vs
