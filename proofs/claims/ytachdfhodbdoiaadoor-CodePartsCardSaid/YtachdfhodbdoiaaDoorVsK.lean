/-
  Each operation does what the evaluator says, fifth part: aggregates, new rows, stores, bytes as text, append. Under no condition.
-/
import Derived.Test.YtachdfhodbdoiaaDoorVsJ
namespace Go.Vs
open Go
section
variable {B0 : Nat} {P : Program} {lk lk' : Locks} {σ σ' : Sig} {st st' : Store} {w w' : World} {o : Oper} {a : Act} {v : PV} {u : Value}
variable {gl : Nat → List PV} {N : Nat} {s : Slots} {E : Req → Option Res}

theorem ok_buildS (hS : Sim B0 lk σ st w) (hs : SlotRel lk σ N s a) (hg : GlobOk lk gl) {t : TypeId} {parts : Array (Nat × Operand)} {fields : Array Field} {zs cs : List PV} {pl : List (Nat × Nat)} {qs : List (Nat × Nat × Opd)}
    (ho : o.op = .build t parts) (hz : zeroC P t = some zs) (hu : P.underlying t = some (.struct fields)) (hpl : placesC P fields = some pl) (hq : partsS pl parts.toList = some qs)
    (h : fillE zs (qs.map fun (o, n, x) => (o, n, x.ev gl s)) = some cs) : OpOk B0 P lk σ st w o a (.agg cs) st := by
  obtain ⟨i, z, hi, hz', hr⟩ := zeroC_some (lk := lk) (σ := σ) hz
  obtain ⟨us, h1, h2⟩ := fill_ok (parts_S hs hg hq) hr h
  have hb : P.built t (parts.map fun (i, x) => (i, a.eval x)).toList = some us := by
    unfold Program.built
    unfold placesC at hpl
    simp only [hi, hu, hz', hpl]
    simpa using h1
  refine OpOk.pure hS (u := .agg us) (x := Instr.build t (parts.map fun (i, x) => (i, a.eval x))) (by simp [execOp, ho]) (run_build w t _ us hb) ?_
  have := Rel.mk_agg h2
  simpa using this
theorem ok_buildA (hS : Sim B0 lk σ st w) (hs : SlotRel lk σ N s a) (hg : GlobOk lk gl) {t e : TypeId} {n : Nat} {parts : Array (Nat × Operand)} {ie : TypeInfo} {zs cs : List PV} {qs : List (Nat × Nat × Opd)}
    (ho : o.op = .build t parts) (hz : zeroC P t = some zs) (hu : P.underlying t = some (.array n e)) (hie : P.info? e = some ie) (hq : partsA ie.size parts.toList = some qs)
    (h : fillE zs (qs.map fun (o, n, x) => (o, n, x.ev gl s)) = some cs) : OpOk B0 P lk σ st w o a (.agg cs) st := by
  obtain ⟨i, z, hi, hz', hr⟩ := zeroC_some (lk := lk) (σ := σ) hz
  obtain ⟨us, h1, h2⟩ := fill_ok (parts_A hs hg hq) hr h
  have hb : P.built t (parts.map fun (i, x) => (i, a.eval x)).toList = some us := by
    unfold Program.built
    simp only [hi, hu, hz', hie]
    simpa using h1
  refine OpOk.pure hS (u := .agg us) (x := Instr.build t (parts.map fun (i, x) => (i, a.eval x))) (by simp [execOp, ho]) (run_build w t _ us hb) ?_
  have := Rel.mk_agg h2
  simpa using this

/-- Rows as they are told, and their cells. -/
structure RowRel (lk : Locks) (σ : Sig) (size : Nat) (es : List (List PV)) (cur : Array Value) : Prop where
  each : ∀ e ∈ es, e.length = size
  sz : cur.size = es.length * size
  rel : ∀ i e, es[i]? = some e → ∀ (j : Nat) v, e[j]? = some v → ∃ u, cur[i * size + j]? = some u ∧ Rel lk σ v u

inductive PartsR (lk : Locks) (σ : Sig) : List (Nat × PV) → List (Nat × Value) → Prop where
  | nil : PartsR lk σ [] []
  | cons {i : Nat} {p : PV} {v : Value} {ps : List (Nat × PV)} {vs : List (Nat × Value)} (h : Rel lk σ p v) (hr : PartsR lk σ ps vs) : PartsR lk σ ((i, p) :: ps) ((i, v) :: vs)
theorem parts_R (hs : SlotRel lk σ N s a) (hg : GlobOk lk gl) : ∀ {ps : List (Nat × Operand)} {qs : List (Nat × Opd)}, partsR ps = some qs →
    PartsR lk σ (qs.map fun (i, x) => (i, x.ev gl s)) (ps.map fun (i, x) => (i, a.eval x))
  | [], qs, h => by
    simp only [partsR, Option.some.injEq] at h
    subst h; exact .nil
  | (i, x) :: r, qs, h => by
    simp only [partsR] at h
    obtain ⟨p, h3, h⟩ := bind_some h
    obtain ⟨ps, h4, h⟩ := bind_some h
    obtain rfl := Option.some.inj h
    exact .cons (opdC_rel hs hg h3) (parts_R hs hg h4)

theorem fillR_ok {size : Nat} : ∀ {ps : List (Nat × PV)} {vs : List (Nat × Value)} (_ : PartsR lk σ ps vs) {es es' : List (List PV)} {cur : Array Value} (_ : RowRel lk σ size es cur) (_ : fillR es size ps = some es'),
    ∃ cur', Instr.fill (fun i => some (i * size, size)) cur vs = some cur' ∧ RowRel lk σ size es' cur' ∧ es'.length = es.length
  | _, _, .nil, es, es', cur, hr, h => by
    simp only [fillR, Option.some.injEq] at h
    subst h
    exact ⟨cur, rfl, hr, rfl⟩
  | _, _, .cons (i := i) (p := p) (v := v) hrel hrest, es, es', cur, hr, h => by
    simp only [fillR] at h
    by_cases hc : (cellsOf p).length = size ∧ (cellsOf p).all oneP = true ∧ i < es.length
    · rw [if_pos hc] at h
      obtain ⟨c1, c2, c3⟩ := hc
      obtain ⟨hcr, _⟩ := cells_rel hrel c2
      have hsz : v.cells.size = size := by rw [← c1]; have := hcr.1; simpa using this.symm
      have hroom : i * size + size ≤ cur.size := by
        rw [hr.sz]
        have : (i + 1) * size ≤ es.length * size := Nat.mul_le_mul_right _ c3
        rw [Nat.add_mul] at this; omega
      obtain ⟨f1, f2⟩ := fill_cells (v := v) (cs := cur) (off := i * size)
      have hnew : RowRel lk σ size (es.set i (cellsOf p)) (v.cells.zipIdx.foldl (fun cs (c, j) => cs.setIfInBounds (i * size + j) c) cur) := by
        refine ⟨fun e he => ?_, by rw [List.length_set, ← hr.sz]; exact f1, fun k e hk j x hj => ?_⟩
        · rcases List.mem_or_eq_of_mem_set he with h1 | h1
          · exact hr.each e h1
          · rw [h1]; exact c1
        · rw [f2]
          by_cases hki : k = i
          · subst hki
            rw [List.getElem?_set_self c3] at hk
            obtain rfl := Option.some.inj hk
            have hjl : j < size := by have := (List.getElem?_eq_some_iff.1 hj).1; omega
            rw [if_pos (by omega)]
            have e1 : k * size + j - k * size = j := by omega
            rw [e1]
            refine ⟨v.cells[j]'(by omega), Array.getElem?_eq_getElem (by omega), hcr.2 j x _ hj ?_⟩
            simp [show j < v.cells.size by omega]
          · rw [List.getElem?_set_ne (fun e => hki e.symm)] at hk
            have hjl : j < size := by have := (List.getElem?_eq_some_iff.1 hj).1; have := hr.each e (List.mem_of_getElem? hk); omega
            rw [if_neg (fun hh => by
              rcases Nat.lt_or_gt_of_ne hki with h9 | h9
              · have : (k + 1) * size ≤ i * size := Nat.mul_le_mul_right _ h9
                rw [Nat.add_mul] at this; omega
              · have : (i + 1) * size ≤ k * size := Nat.mul_le_mul_right _ h9
                rw [Nat.add_mul] at this; omega)]
            exact hr.rel k e hk j x hj
      obtain ⟨cur', h3, h4, h5⟩ := fillR_ok hrest hnew h
      refine ⟨cur', ?_, h4, by rw [h5, List.length_set]⟩
      simp only [Instr.fill]
      rw [if_neg (by simp; omega)]
      exact h3
    · rw [if_neg hc] at h; cases h

/-- A row is made. -/
theorem row_push (hS : Sim B0 lk σ st w) {es : List (List PV)} {cur : Array Value} {size cap : Nat} {e : TypeId} {b : Nat} (hsz : 0 < size)
    (heach : ∀ x ∈ es, x.length = size) (hcur : cur.size = cap * size) (hcap : es.length ≤ cap) (hm : cap ≤ maxLen)
    (hrel : ∀ i x, es[i]? = some x → ∀ (j : Nat) v, x[j]? = some v → ∃ u, cur[i * size + j]? = some u ∧ Rel lk σ v u)
    (hb : w.heap.size ≤ b) (hheap : w'.heap[b]? = some (.cells cur e (0, 0))) (hframe : ∀ k, k < w.heap.size → w'.heap[k]? = w.heap[k]?) (hsize : w.heap.size ≤ w'.heap.size) (hos : w'.os = w.os) (htape : w'.tape = w.tape) (hout : w'.output = w.output) :
    ∃ σ', Rel lk σ' (.row st.length es.length) (.slice (some ⟨b, 0, none⟩) es.length cap) ∧
    Sim B0 lk σ' (st ++ [Box.mk es true size e 0 false]) w' ∧ Step lk σ st w lk σ' (st ++ [Box.mk es true size e 0 false]) w' := by
  have hmono : ∀ i h L'', σ i h = some L'' → σ.put st.length es.length ⟨b, cap, size⟩ i h = some L'' := Sig.put_mono (fun L'' h => absurd (hS.dom _ _ _ h) (by omega))
  have hgen : (Box.mk es true size e 0 false).gen = es.length := rfl
  have := hS.push (B := Box.mk es true size e 0 false) (L := ⟨b, cap, size⟩) (w' := w') hb hframe hsize hos htape hout
    ⟨⟨cur, (0, 0), hheap, fun _ => rfl, fun _ => ⟨hcur, hcap, hm⟩, fun h => by simp at h, fun i x hi j v hv => by
      obtain ⟨u, hu, hr⟩ := hrel i x hi j v hv
      exact ⟨u, hu, hr.mono (fun _ _ h => h) hmono⟩⟩,
    fun _ => ⟨rfl, hsz⟩, fun _ i x hi => heach x (List.mem_of_getElem? hi), fun h => by simp at h, by simp, fun j _ => hS.free hb j none⟩
  refine ⟨σ.put st.length es.length ⟨b, cap, size⟩, ?_, this.1, this.2⟩
  exact Rel.row (Sig.put_self σ st.length es.length ⟨b, cap, size⟩) hcap

theorem ok_bslice (hS : Sim B0 lk σ st w) (hs : SlotRel lk σ N s a) (hg : GlobOk lk gl) {t e : TypeId} {len : Nat} {parts : Array (Nat × Operand)} {ie : TypeInfo} {zs : List PV} {es : List (List PV)} {qs : List (Nat × Opd)}
    (ho : o.op = .buildSlice t len parts) (hu : P.underlying t = some (.slice e)) (hie : P.info? e = some ie) (hz : zeroC P e = some zs) (hzl : zs.length = ie.size) (hsz : 0 < ie.size) (hl0 : 0 < len) (hlim : len * ie.size ≤ 16777216) (hq : partsR parts.toList = some qs)
    (h : fillR (List.replicate len zs) ie.size (qs.map fun (i, x) => (i, x.ev gl s)) = some es) : OpOk B0 P lk σ st w o a (.row st.length len) (st ++ [Box.mk es true ie.size e 0 false]) := by
  obtain ⟨i, z, hi, hz', hr⟩ := zeroC_some (lk := lk) (σ := σ) hz
  rw [hie] at hi
  obtain rfl := Option.some.inj hi
  have hzs : z.cells.size = ie.size := by have := hr.1; simp at this; omega
  have h0 : RowRel lk σ ie.size (List.replicate len zs) ((Array.range (len * ie.size)).map (fun k => z.cells[k % z.cells.size]!)) := by
    refine ⟨fun x hx => by rw [List.eq_of_mem_replicate hx]; exact hzl, by simp, fun k x hk j v hj => ?_⟩
    have hkl : k < len := by have := (List.getElem?_eq_some_iff.1 hk).1; simpa using this
    have hx : x = zs := by rw [List.getElem?_replicate, if_pos hkl] at hk; exact (Option.some.inj hk).symm
    subst hx
    have hjl : j < ie.size := by have := (List.getElem?_eq_some_iff.1 hj).1; omega
    have hin : k * ie.size + j < len * ie.size := by
      have : (k + 1) * ie.size ≤ len * ie.size := Nat.mul_le_mul_right _ hkl
      rw [Nat.add_mul] at this; omega
    refine ⟨z.cells[j]'(by omega), ?_, hr.2 j v _ hj (by simp [show j < z.cells.size by omega])⟩
    have hmod : (k * ie.size + j) % z.cells.size = j := by rw [hzs, Nat.mul_comm, Nat.mul_add_mod]; exact Nat.mod_eq_of_lt hjl
    simp only [Array.getElem?_map, Array.getElem?_range, hin, Option.map_some, hmod, if_true]
    congr 1
    exact getElem!_pos z.cells j (by omega)
  obtain ⟨cur, h1, h2, h3⟩ := fillR_ok (parts_R hs hg hq) h0 h
  have hel : es.length = len := by rw [h3]; simp
  obtain ⟨σ', r1, r2, r3⟩ := row_push hS (e := e) (b := w.heap.size) (w' := w.alloc (.cells cur e)) hsz h2.each h2.sz (Nat.le_refl _) (by
      rw [hel]
      have : len ≤ len * ie.size := Nat.le_mul_of_pos_right _ hsz
      unfold maxLen; omega) h2.rel (Nat.le_refl _) (heap_alloc_new w _) (fun k hk => heap_alloc_old w _ k hk) (by simp) rfl rfl rfl
  rw [hel] at r1
  refine OpOk.val (w' := w.alloc (.cells cur e)) ?_ r1 r2 r3
  have hlim' : ¬ (16777216 < len * ie.size) := by omega
  have hp : (parts.map fun (i, x) => (i, a.eval x)).toList = parts.toList.map fun (i, x) => (i, a.eval x) := by simp
  rw [← hp] at h1
  have hz1 : len * ie.size ≠ 0 := fun h => by
    rcases Nat.mul_eq_zero.1 h with h | h
    · omega
    · omega
  simp only [execOp, ho, Sem.run_bind, Instr.buildSlice, run_underlying hu, Result.andThen_ok, run_sizeOf' hie]
  rw [if_neg (by omega)]
  simp only [hz1, if_false, Sem.run_bind, run_zeroValue' hie hz', Sem.run_pure, Result.andThen_ok, h1]
  simp [newRow]

/-! ### stores -/
theorem ok_st (hS : Sim B0 lk σ st w) (hs : SlotRel lk σ N s a) (hg : GlobOk lk gl) {t : TypeId} {i : TypeInfo} {x y : Operand} {px py : Opd} (ho : o.op = .store t x y) (hi : P.info? t = some i) (hx : opdC x = some px) (hy : opdC y = some py)
    (hn : (cellsOf (py.ev gl s)).length = i.size) (h1 : (cellsOf (py.ev gl s)).all oneP = true) (h : writeP st (px.ev gl s) (cellsOf (py.ev gl s)) = some st') : OpOk B0 P lk σ st w o a .undef st' := by
  obtain ⟨hcr, hone⟩ := cells_rel (opdC_rel hs hg hy) h1
  obtain ⟨b, off, cur, e, hb, hheap, hfit, hs1, hs2⟩ := hS.write (opdC_rel hs hg hx) h hcr.1.symm hcr.2
  have hst := run_storeCells_at P b off e (a.eval y).cells.toList 0 cur w hheap (by simpa using hfit) hone
  refine OpOk.skip (w' := w.setRow b (cur.toList.take off ++ (a.eval y).cells.toList ++ cur.toList.drop (off + (a.eval y).cells.toList.length)).toArray) ?_ hs1 hs2
  have hsz : (a.eval y).cells.size = i.size := by rw [← hn]; have := hcr.1; simpa using this.symm
  simp only [Nat.add_zero] at hst
  have hst' : (storeVar t ⟨b, off, none⟩ (a.eval y)).run P w = .ok () (w.setRow b (cur.toList.take off ++ (a.eval y).cells.toList ++ cur.toList.drop (off + (a.eval y).cells.toList.length)).toArray) := by
    simp only [storeVar, Sem.run_bind, run_sizeOf' hi, Result.andThen_ok]
    rw [if_neg (by omega)]
    exact hst
  simp only [execOp, ho, hb, Instr.storeAt, Instr.sureAddr, Sem.run_bind, Sem.run_pure, Result.andThen_ok, hst']

/-! ### bytes as text -/
theorem bytesOf_rel : ∀ {es : List (List PV)} {l : List UInt8} {news : List Value}, bytesOf es = some l → RelL lk σ es.flatten news → ∃ ns : List Int, news = ns.map (Value.int .u8) ∧ l = ns.map (fun n => UInt8.ofNat n.toNat) ∧ ns.length = es.length
  | [], l, news, h, hr => by
    simp only [bytesOf, Option.some.injEq] at h
    subst h
    obtain rfl := hr.nil_inv
    exact ⟨[], rfl, rfl, rfl⟩
  | e :: r, l, news, h, hr => by
    unfold bytesOf at h
    split at h
    · rename_i h0; cases h0
    · rename_i n r' he
      simp only [List.cons.injEq] at he
      obtain ⟨rfl, rfl⟩ := he
      obtain ⟨l', h1, h⟩ := bind_some h
      obtain rfl := Option.some.inj h
      simp only [List.flatten_cons, List.singleton_append] at hr
      obtain ⟨v, news', rfl, hv, hr'⟩ := hr.uncons
      obtain ⟨ns, rfl, rfl, hl⟩ := bytesOf_rel h1 hr'
      cases hv
      exact ⟨n :: ns, rfl, rfl, by simp [hl]⟩
    · cases h
theorem bytesOf_one : ∀ {es : List (List PV)} {l : List UInt8}, bytesOf es = some l → ∀ e ∈ es, e.length = 1
  | [], _, _ => by simp
  | e :: r, l, h => by
    unfold bytesOf at h
    split at h
    · rename_i h0; cases h0
    · rename_i n r' he
      simp only [List.cons.injEq] at he
      obtain ⟨rfl, rfl⟩ := he
      obtain ⟨l', h1, h⟩ := bind_some h
      intro x hx
      rcases List.mem_cons.1 hx with rfl | hx
      · rfl
      · exact bytesOf_one h1 x hx
    · cases h

theorem ok_cvbs (hS : Sim B0 lk σ st w) (hs : SlotRel lk σ N s a) (hg : GlobOk lk gl) {t d e : TypeId} {x : Operand} {px : Opd} {es : List (List PV)} {l : List UInt8} (ho : o.op = .convert t d x) (ht : P.underlying t = some (.slice e)) (hd : P.underlying d = some .string) (he : P.underlying e = some (.int .u8)) (hx : opdC x = some px)
    (h1 : elemsOf st (px.ev gl s) = some es) (h2 : bytesOf es = some l) : OpOk B0 P lk σ st w o a (.str l) st := by
  obtain ⟨news, hE⟩ := hS.elems (size := 1) (by omega) (opdC_rel hs hg hx) h1 (bytesOf_one h2)
  obtain ⟨ns, rfl, rfl, hl⟩ := bytesOf_rel h2 hE.rel
  have hstr : Rel lk σ (.str (ns.map fun n => UInt8.ofNat n.toNat)) (.string (strOfNums ns)) := by
    have := Rel.str (lk := lk) (σ := σ) (strOfNums ns)
    rwa [strOfNums_data] at this
  refine ok_conv hS ho ?_ hstr
  rcases hE.at_ with ⟨hn, he0⟩ | ⟨ad, cap, hn, _, hc⟩
  · rw [hn]
    subst he0
    have : ns = [] := List.eq_nil_of_length_eq_zero hl
    subst this
    rw [run_convert_bytes_string w t d e _ _ _ ht he hd]
    simp [Conv.bytesToString, strOfNums]
    rfl
  · rw [hn, run_convert_bytes_string w t d e _ _ _ ht he hd, ← hl]
    have hll := run_loadCells_list (P := P) w ad (ns.map (Value.int .u8)) hc
    simp only [List.length_map] at hll
    rw [run_bytesToString w ad ns.length cap ns hll, foldl_push_bytes]
    simp [strOfNums, ByteArray.empty, ByteArray.emptyWithCapacity]
    rfl
end
end Go.Vs
