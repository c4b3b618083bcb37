/-
  Two structs or arrays of numbers, texts and bools are the same just if their cells are: what the model's test answers. Under no condition.
-/
import Derived.Test.YtachdfhodbdoiaaDoorVsG
import Derived.Laws.StructEq
import Derived.ChangeKeysEq
namespace Go.Vs
open Go
section
variable {P : Program} {lk : Locks} {σ : Sig} {w : World}

theorem RelL.dropL {cs : List PV} {vs : List Value} (h : RelL lk σ cs vs) (n : Nat) : RelL lk σ (cs.drop n) (vs.drop n) := ⟨by simp [h.1], fun j c v hc hv => by
  rw [List.getElem?_drop] at hc hv; exact h.2 _ c v hc hv⟩
theorem RelL.takeL {cs : List PV} {vs : List Value} (h : RelL lk σ cs vs) (n : Nat) : RelL lk σ (cs.take n) (vs.take n) := ⟨by simp [h.1], fun j c v hc hv => by
  rw [List.getElem?_take] at hc hv
  split at hc
  · rename_i hj; rw [if_pos hj] at hv; exact h.2 j c v hc hv
  · cases hc⟩
theorem eqCells_len : ∀ {ks : List Nat} {cs ds : List PV} {b : Bool}, eqCells ks cs ds = some b → cs.length = ks.length ∧ ds.length = ks.length
  | [], [], [], _, _ => ⟨rfl, rfl⟩
  | k :: ks, c :: cs, d :: ds, b, h => by
    simp only [eqCells] at h
    obtain ⟨x, _, h⟩ := bind_some h
    obtain ⟨y, h2, _⟩ := bind_some h
    have := eqCells_len h2
    simp [this.1, this.2]
  | [], [], _ :: _, _, h => by simp [eqCells] at h
  | [], _ :: _, _, _, h => by simp [eqCells] at h
  | _ :: _, [], _, _, h => by simp [eqCells] at h
  | _ :: _, _ :: _, [], _, h => by simp [eqCells] at h
theorem eqCells_split : ∀ {k1 k2 : List Nat} {cs ds : List PV} {b : Bool} (_ : eqCells (k1 ++ k2) cs ds = some b), ∃ x y, eqCells k1 (cs.take k1.length) (ds.take k1.length) = some x ∧ eqCells k2 (cs.drop k1.length) (ds.drop k1.length) = some y ∧ b = (x && y)
  | [], k2, cs, ds, b, h => ⟨true, b, by simp [eqCells], by simpa using h, by simp⟩
  | k :: k1, k2, cs, ds, b, h => by
    match cs, ds, h with
    | c :: cs, d :: ds, h =>
      simp only [List.cons_append, eqCells] at h
      obtain ⟨x, h1, h⟩ := bind_some h
      obtain ⟨y, h2, h⟩ := bind_some h
      cases h
      obtain ⟨p, q, h3, h4, rfl⟩ := eqCells_split h2
      exact ⟨x && p, q, by simp [eqCells, h1, h3], by simpa using h4, by simp [Bool.and_assoc]⟩
    | [], _, h => simp [eqCells] at h
    | _ :: _, [], h => simp [eqCells] at h

/-- The test of two parts. -/
def EqPart (P : Program) (lk : Locks) (σ : Sig) (w : World) (D : Nat) (e : TypeId) (ks : List Nat) : Prop :=
  ∀ (cs ds : List PV) (vs us : List Value) (o : Nat) (b : Bool), RelL lk σ cs vs → RelL lk σ ds us → eqCells ks ((cs.drop o).take ks.length) ((ds.drop o).take ks.length) = some b →
    ∃ x y, (part e vs.toArray o).run P w = .ok x w ∧ (part e us.toArray o).run P w = .ok y w ∧ (Op.equalIn D e x y).run P w = .ok b w

theorem fields_run {D n : Nat} {rec : TypeId → Option (List Nat)} {cs ds : List PV} {vs us : List Value} (hr : RelL lk σ cs vs) (hr' : RelL lk σ ds us)
    (hp : ∀ e ks, rec e = some ks → (P.info? e).isSome = true → ks.length = P.cellsOf e → EqPart P lk σ w D e ks) : ∀ (fs : List Field) (o : Nat) (ks : List Nat) (b : Bool), fieldsK P rec fs o n = some ks →
    eqCells ks (cs.drop o) (ds.drop o) = some b → (Op.eqFields D vs.toArray us.toArray fs).run P w = .ok b w
  | [], o, ks, b, hc, h => by
    simp only [fieldsK] at hc
    split at hc
    · cases hc
      have h1 := eqCells_len h
      rw [List.eq_nil_of_length_eq_zero h1.1, List.eq_nil_of_length_eq_zero h1.2] at h
      simp only [eqCells, Option.some.injEq] at h
      subst h
      simp [Op.eqFields]
    · cases hc
  | f :: fs, o, ks, b, hc, h => by
    simp only [fieldsK] at hc
    split at hc
    · rename_i hf
      obtain ⟨ho, hn, hi⟩ := hf
      obtain ⟨kf, h0, hc⟩ := bind_some hc
      split at hc
      · rename_i hk
        obtain ⟨kr, h1, hc⟩ := bind_some hc
        cases hc
        obtain ⟨x, y, h2, h3, rfl⟩ := eqCells_split h
        obtain ⟨p, q, e1, e2, e3⟩ := hp f.type kf h0 hi hk cs ds vs us o x hr hr' h2
        rw [List.drop_drop, List.drop_drop, hk] at h3
        have ih := fields_run hr hr' hp fs (o + P.cellsOf f.type) kr y h1 h3
        simp only [Op.eqFields, hn, ne_eq, not_false_eq_true, if_true, Sem.run_bind, ho, e1, e2, e3, Result.andThen_ok]
        cases x
        · simp
        · simpa using ih
      · cases hc
    · cases hc
theorem items_run {D : Nat} {e : TypeId} {ks : List Nat} {cs ds : List PV} {vs us : List Value} (hr : RelL lk σ cs vs) (hr' : RelL lk σ ds us) (hk : ks.length = P.cellsOf e) (hp : EqPart P lk σ w D e ks) : ∀ (n i : Nat) (b : Bool),
    eqCells (itemsK ks n) (cs.drop (i * P.cellsOf e)) (ds.drop (i * P.cellsOf e)) = some b → (Op.eqItems D e (P.cellsOf e) vs.toArray us.toArray (List.range' i n)).run P w = .ok b w
  | 0, i, b, h => by
    have h1 := eqCells_len h
    simp only [itemsK] at h h1
    rw [List.eq_nil_of_length_eq_zero h1.1, List.eq_nil_of_length_eq_zero h1.2] at h
    simp only [eqCells, Option.some.injEq] at h
    subst h
    simp [Op.eqItems]
  | n + 1, i, b, h => by
    obtain ⟨x, y, h1, h2, rfl⟩ := eqCells_split h
    obtain ⟨p, q, e1, e2, e3⟩ := hp cs ds vs us _ x hr hr' h1
    rw [List.drop_drop, List.drop_drop, hk, ← Nat.succ_mul] at h2
    have ih := items_run hr hr' hk hp n (i + 1) y h2
    simp only [List.range'_succ, Op.eqItems, Sem.run_bind, e1, e2, e3, Result.andThen_ok]
    cases x
    · simp
    · simpa using ih

theorem eqIn_run : ∀ (d : Nat) (t : TypeId) (ks : List Nat), flatK P d t = some ks → ∀ (D : Nat) (cs ds : List PV) (vs us : List Value) (b : Bool), RelL lk σ cs vs → RelL lk σ ds us → eqCells ks cs ds = some b →
    (isAggT P t = true ∧ (Op.equalIn (D + d) t (.agg vs.toArray) (.agg us.toArray)).run P w = .ok b w) ∨ (isAggT P t = false ∧ ks.length = 1 ∧ ∃ v u, vs = [v] ∧ us = [u] ∧ (Op.equalIn (D + d) t v u).run P w = .ok b w)
  | 0, _, _, h => by simp [flatK] at h
  | d + 1, t, ks, h => by
    intro D cs ds vs us b hr hr' he
    unfold flatK at h
    have hpart : ∀ e ke, flatK P d e = some ke → (P.info? e).isSome = true → ke.length = P.cellsOf e → EqPart P lk σ w (D + d) e ke := by
      intro e ke he' hi hk cs ds vs us o b hr hr' hb
      obtain ⟨i, hi⟩ := Option.isSome_iff_exists.1 hi
      have hci : P.cellsOf e = i.size := by simp [Program.cellsOf, hi]
      rcases eqIn_run d e ke he' D _ _ _ _ b ((hr.dropL o).takeL ke.length) ((hr'.dropL o).takeL ke.length) hb with ⟨ha, h1⟩ | ⟨ha, _, v, u, e1, e2, h1⟩
      · refine ⟨.agg ((vs.drop o).take ke.length).toArray, .agg ((us.drop o).take ke.length).toArray, ?_, ?_, h1⟩
        · simp [part, run_isAgg (isAggT_some ha), ha, run_sizeOf' hi, hk, hci, List.extract_eq_take_drop]
        · simp [part, run_isAgg (isAggT_some ha), ha, run_sizeOf' hi, hk, hci, List.extract_eq_take_drop]
      · have hun : (P.underlying e).isSome = true := by
          cases hu : P.underlying e with
          | none => cases d with
            | zero => simp [flatK] at he'
            | succ d => simp [flatK, hu] at he'
          | some _ => rfl
        have g : ∀ {ws : List Value} {x : Value}, (ws.drop o).take ke.length = [x] → (part e ws.toArray o).run P w = .ok x w := by
          intro ws x hx
          have h0 : ws[o]? = some x := by
            have := congrArg (fun l => l[0]?) hx
            simp only [List.getElem?_cons_zero] at this
            rw [List.getElem?_take] at this
            split at this
            · rw [List.getElem?_drop] at this; simpa using this
            · cases this
          have hj := (List.getElem?_eq_some_iff.1 h0).1
          have hv := (List.getElem?_eq_some_iff.1 h0).2
          simp [part, run_isAgg hun, ha, hj, hv]
        exact ⟨v, u, g e1, g e2, h1⟩
    have sc : ∀ k, ks = [k] → ∃ c d v u, vs = [v] ∧ us = [u] ∧ eqCell k c d = some b ∧ Rel lk σ c v ∧ Rel lk σ d u := by
      rintro k rfl
      have hv := hr.1
      have hu := hr'.1
      have hl := eqCells_len he
      match cs, ds, vs, us, hl, hv, hu, he, hr, hr' with
      | [c], [d], [v], [u], _, _, _, he, hr, hr' =>
        refine ⟨c, d, v, u, rfl, rfl, ?_, hr.2 0 c v rfl rfl, hr'.2 0 d u rfl rfl⟩
        simp only [eqCells] at he
        obtain ⟨x, h1, he⟩ := bind_some he
        simp at he
        rw [h1, he]
      | [], _, _, _, hl, _, _, _, _, _ => simp at hl
      | _ :: _ :: _, _, _, _, hl, _, _, _, _, _ => simp at hl
      | [_], [], _, _, hl, _, _, _, _, _ => simp at hl
      | [_], _ :: _ :: _, _, _, hl, _, _, _, _, _ => simp at hl
      | [_], [_], [], _, _, hv, _, _, _, _ => simp at hv
      | [_], [_], _ :: _ :: _, _, _, hv, _, _, _, _ => simp at hv
      | [_], [_], [_], [], _, _, hu, _, _, _ => simp at hu
      | [_], [_], [_], _ :: _ :: _, _, _, hu, _, _, _ => simp at hu
    cases hu : P.underlying t with
    | none => rw [hu] at h; cases h
    | some ty =>
      rw [hu] at h
      cases ty <;> simp only [] at h <;> (try (cases h; done))
      case bool =>
        right
        split at h
        · cases h
          obtain ⟨c, e, v, u, rfl, rfl, h2, h3, h4⟩ := sc 0 rfl
          refine ⟨by simp [isAggT, hu], rfl, v, u, rfl, rfl, ?_⟩
          rw [show D + (d + 1) = (D + d) + 1 from rfl]
          cases c <;> cases e <;> simp only [eqCell] at h2 <;> (try (cases h2; done))
          cases h3; cases h4; cases h2
          simp [Op.equalIn, run_underlying hu]
        · cases h
      case int k =>
        right
        split at h
        · cases h
          obtain ⟨c, e, v, u, rfl, rfl, h2, h3, h4⟩ := sc 1 rfl
          refine ⟨by simp [isAggT, hu], rfl, v, u, rfl, rfl, ?_⟩
          rw [show D + (d + 1) = (D + d) + 1 from rfl]
          cases c <;> cases e <;> simp only [eqCell] at h2 <;> (try (cases h2; done))
          cases h3; cases h4
          split at h2
          · rename_i hk
            cases h2
            simp [Op.equalIn, run_underlying hu, hk, beq_dec]
          · cases h2
        · cases h
      case string =>
        right
        split at h
        · cases h
          obtain ⟨c, e, v, u, rfl, rfl, h2, h3, h4⟩ := sc 2 rfl
          refine ⟨by simp [isAggT, hu], rfl, v, u, rfl, rfl, ?_⟩
          rw [show D + (d + 1) = (D + d) + 1 from rfl]
          cases c <;> cases e <;> simp only [eqCell] at h2 <;> (try (cases h2; done))
          cases h3 with | str s1 => cases h4 with | str s2 =>
          cases h2
          have : (s1 == s2) = decide (s1.data.toList = s2.data.toList) := by
            rw [beq_toListBytes, toList_eq, toList_eq, beq_dec]
          simp [Op.equalIn, run_underlying hu, this]
        · cases h
      case array n e =>
        left
        split at h
        · rename_i hc
          obtain ⟨ke, h1, h⟩ := bind_some h
          split at h
          · rename_i hk
            cases h
            obtain ⟨i, hi⟩ := Option.isSome_iff_exists.1 hc.1
            refine ⟨by simp [isAggT, hu], ?_⟩
            rw [show D + (d + 1) = (D + d) + 1 from rfl, run_equalIn_array w (D + d) _ _ hu hi, List.range_eq_range']
            exact items_run hr hr' hk (hpart e ke h1 hc.1 hk) n 0 b (by simpa using he)
          · cases h
        · cases h
      case struct fs =>
        left
        split at h
        · rename_i h1
          refine ⟨by simp [isAggT, hu], ?_⟩
          have hf : P.fieldsOf t = fs := by simp [Program.fieldsOf, hu]
          rw [show D + (d + 1) = (D + d) + 1 from rfl, run_equalIn_struct w (D + d) t _ _ (by rw [hf]; exact hu) h1, hf]
          exact fields_run hr hr' hpart fs.toList 0 ks b h (by simpa using he)
        · cases h

/-- A test of two structs, as an operation. -/
theorem ok_eqs {B0 N : Nat} {st : Store} {s : Slots} {a : Act} {o : Oper} {gl : Nat → List PV} {v : PV} (hS : Sim B0 lk σ st w) (hs : SlotRel lk σ N s a) (hg : GlobOk lk gl) {neg : Bool} {t t' : TypeId} {x y : Operand} {px py : Opd} {d : Nat} {ks : List Nat} (ho : o.op = .binOp (if neg then .neq else .eql) t x y t') (hagg : isAggT P t = true) (hk : flatK P d t = some ks) (hd : d ≤ 10000) (hm : P.eqGuardType P.depth t = false)
    (hx : opdC x = some px) (hy : opdC y = some py) (h : eqsE ks neg (px.ev gl s) (py.ev gl s) = some v) : OpOk B0 P lk σ st w o a v st := by
  have h1 := opdC_rel hs hg hx
  have h2 := opdC_rel hs hg hy
  cases hp : px.ev gl s <;> rw [hp] at h h1 <;> (try (simp [eqsE] at h; done))
  cases hq : py.ev gl s <;> rw [hq] at h h2 <;> (try (simp [eqsE] at h; done))
  rename_i cs ds
  simp only [eqsE] at h
  obtain ⟨b, h3, h⟩ := bind_some h
  cases h
  generalize ha : a.eval x = u1 at h1
  generalize hb : a.eval y = u2 at h2
  cases h1 with | @agg _ _ vs hl1 hr1 =>
  cases h2 with | @agg _ _ us hl2 hr2 =>
  have r1 : RelL lk σ cs vs.toList := ⟨by simpa using hl1, fun j c v hc hv => hr1 j c v hc (by simpa using hv)⟩
  have r2 : RelL lk σ ds us.toList := ⟨by simpa using hl2, fun j c v hc hv => hr2 j c v hc (by simpa using hv)⟩
  have hrun : (Op.equal t (.agg vs) (.agg us)).run P w = .ok b w := by
    rcases eqIn_run (w := w) d t ks hk (10000 - d) cs ds _ _ b r1 r2 h3 with ⟨_, h4⟩ | ⟨h4, _⟩
    · have : 10000 - d + d = 10000 := by omega
      rw [this] at h4
      simpa [Op.equal, Op.maxDepth] using h4
    · rw [hagg] at h4; cases h4
  have hgd : ∀ op, (eqGuard op t x y (.agg vs) (.agg us)).run P w = .ok () w := fun op => run_eqGuard_agg w op t x y vs us hm
  cases neg
  · refine OpOk.pure hS (u := .bool b) (x := do eqGuard .eql t x y (.agg vs) (.agg us); binOp .eql t (.agg vs) (.agg us)) (by simp [execOp, ho, ha, hb]) ?_ (.bool _)
    rw [Sem.run_bind, hgd, Result.andThen_ok]
    simp [binOp, hrun]
  · refine OpOk.pure hS (u := .bool (!b)) (x := do eqGuard .neq t x y (.agg vs) (.agg us); binOp .neq t (.agg vs) (.agg us)) (by simp [execOp, ho, ha, hb]) ?_ (.bool _)
    rw [Sem.run_bind, hgd, Result.andThen_ok]
    simp [binOp, hrun]
end
end Go.Vs
