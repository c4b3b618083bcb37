/-
  Each operation does what the evaluator says, second part. Under no condition.
-/
import Derived.Test.YtachdfhodbdoiaaDoorVsG
namespace Go.Vs
open Go
section
variable {B0 : Nat} {P : Program} {lk lk' : Locks} {σ σ' : Sig} {st st' : Store} {w w' : World} {o : Oper} {a : Act} {v : PV} {u : Value}
variable {gl : Nat → List PV} {N : Nat} {s : Slots} {E : Req → Option Res}

theorem nilP_eval {y : Operand} (h : isNilP y = true) : a.eval y = .pointer none := by
  unfold isNilP at h
  split at h
  · rfl
  · cases h
theorem nilS_eval {y : Operand} (h : isNilS y = true) : a.eval y = .slice none 0 0 := by
  unfold isNilS at h
  split at h
  · rfl
  · cases h

theorem ok_eqnilS (hS : Sim B0 lk σ st w) (hs : SlotRel lk σ N s a) (hg : GlobOk lk gl) {neg : Bool} {t t' e : TypeId} {x y : Operand} {px : Opd} (ho : o.op = .binOp (if neg then .neq else .eql) t x y t') (hu : P.underlying t = some (.slice e)) (hx : opdC x = some px)
    (hk : isNilS y = true) (h : eqnilE true neg (px.ev gl s) = some v) : OpOk B0 P lk σ st w o a v st := by
  obtain ⟨b, c, n, d, hc, rfl, hb⟩ := eqnil_slice (P := P) (w := w) h (opdC_rel hs hg hx) hu
  exact ok_eql hS ho hc (nilS_eval hk) (fun d => by rw [← hc]; exact hb d) trivial
theorem ok_eqnilP (hS : Sim B0 lk σ st w) (hs : SlotRel lk σ N s a) (hg : GlobOk lk gl) {neg : Bool} {t t' e : TypeId} {x y : Operand} {px : Opd} (ho : o.op = .binOp (if neg then .neq else .eql) t x y t') (hu : P.underlying t = some (.pointer e)) (hx : opdC x = some px)
    (hk : isNilP y = true) (h : eqnilE false neg (px.ev gl s) = some v) : OpOk B0 P lk σ st w o a v st := by
  obtain ⟨b, c, hc, rfl, hb⟩ := eqnil_ptr (P := P) (w := w) h (opdC_rel hs hg hx) hu
  exact ok_eql hS ho hc (nilP_eval hk) (fun d => by rw [← hc]; exact hb d) trivial

theorem ok_eqp (hS : Sim B0 lk σ st w) (hs : SlotRel lk σ N s a) (hg : GlobOk lk gl) {neg : Bool} {t t' e : TypeId} {i : TypeInfo} {x y : Operand} {px py : Opd} (ho : o.op = .binOp (if neg then .neq else .eql) t x y t') (hu : P.underlying t = some (.pointer e)) (hi : P.info? e = some i) (hz : i.size ≠ 0) (hx : opdC x = some px) (hy : opdC y = some py)
    (h : eqpE neg (px.ev gl s) (py.ev gl s) = some v) : OpOk B0 P lk σ st w o a v st := by
  have h1 := opdC_rel hs hg hx
  have h2 := opdC_rel hs hg hy
  cases hp : px.ev gl s <;> rw [hp] at h h1 <;> (try (simp [eqpE] at h; done))
  cases hq : py.ev gl s <;> rw [hq] at h h2 <;> (try (simp [eqpE] at h; done))
  rename_i id g i1 off id' g' i2 off'
  simp only [eqpE] at h
  by_cases hc : id = id' ∧ g = 0 ∧ g' = 0 ∧ i1 = 0 ∧ i2 = 0
  · rw [if_pos hc] at h
    obtain ⟨rfl, rfl, rfl, rfl, rfl⟩ := hc
    obtain rfl := Option.some.inj h
    generalize ha : a.eval x = u1 at h1
    generalize hb : a.eval y = u2 at h2
    cases h1 with | @ptr _ _ _ _ _ L hL => cases h2 with | @ptr _ _ _ _ _ L' hL' =>
    rw [hL] at hL'
    obtain rfl := Option.some.inj hL'
    have := ok_eql (P := P) hS ho ha hb (b := off == off') (fun d => by
      simp [Op.equalIn, run_underlying hu, run_sizeOf' hi, hz, sameAddr, beq_dec]) trivial
    cases neg <;> simpa [bne] using this
  · rw [if_neg hc] at h; cases h

theorem ok_un (hS : Sim B0 lk σ st w) (hs : SlotRel lk σ N s a) (hg : GlobOk lk gl) {op : UnOp} {t : TypeId} {x : Operand} {px : Opd} (ho : o.op = .unOp op t x) (hx : opdC x = some px)
    (h : unE op (px.ev gl s) = some v) : OpOk B0 P lk σ st w o a v st := by
  have h1 := opdC_rel hs hg hx
  have he : execOp a.eval o = (do Pure.pure (.value (← Op.unary op (a.eval x)))) := by simp [execOp, ho]
  generalize a.eval x = b at h1 he
  cases hp : px.ev gl s <;> rw [hp] at h h1 <;> (try (simp [unE] at h; done))
  · cases h1
    cases op <;> simp [unE] at h
    subst h
    exact OpOk.pure hS he (by simp [Op.unary]) (.bool _)
  · cases h1
    cases op <;> simp [unE] at h
    · subst h
      exact OpOk.pure hS he (by simp [Op.unary, Op.intArith]; rfl) (by simpa using Rel.int _ _)
    · subst h
      exact OpOk.pure hS he (by simp [Op.unary, Op.intBits]) (.int _ _)

theorem ok_conv (hS : Sim B0 lk σ st w) {t d : TypeId} {x : Operand} (ho : o.op = .convert t d x) (hr : (convert t d (a.eval x)).run P w = .ok u w) (h1 : Rel lk σ v u) : OpOk B0 P lk σ st w o a v st :=
  OpOk.pure hS (x := convert t d (a.eval x)) (by simp [execOp, ho]) hr h1

theorem ok_cvi (hS : Sim B0 lk σ st w) (hs : SlotRel lk σ N s a) (hg : GlobOk lk gl) {t d : TypeId} {k k' : IntKind} {n : Int} {kt : IntKind} {x : Operand} {px : Opd} (ho : o.op = .convert t d x) (ht : P.underlying t = some (.int kt)) (hd : P.underlying d = some (.int k)) (hx : opdC x = some px)
    (h : px.ev gl s = .int k' n) : OpOk B0 P lk σ st w o a (.int k (k.wrap n)) st := by
  have h1 := opdC_rel hs hg hx
  rw [h] at h1
  generalize hb : a.eval x = b at h1
  cases h1
  exact ok_conv hS ho (by rw [hb]; simp [convert, run_underlying ht, run_underlying hd, Conv.intToInt]) (.int _ _)
theorem ok_cvid (hS : Sim B0 lk σ st w) (hs : SlotRel lk σ N s a) (hg : GlobOk lk gl) {t d : TypeId} {l : List UInt8} {x : Operand} {px : Opd} (ho : o.op = .convert t d x) (ht : P.underlying t = some .string) (hd : P.underlying d = some .string) (hx : opdC x = some px)
    (h : px.ev gl s = .str l) : OpOk B0 P lk σ st w o a (.str l) st := by
  have h1 := opdC_rel hs hg hx
  rw [h] at h1
  generalize hb : a.eval x = b at h1
  cases h1 with | str s' =>
  exact ok_conv hS ho (by rw [hb]; simp [convert, run_underlying ht, run_underlying hd]) (.str _)

theorem ok_mkfn (hS : Sim B0 lk σ st w) (hs : SlotRel lk σ N s a) (hg : GlobOk lk gl) {f : FuncId} {first caps : Array Operand} {cs : List Opd} (ho : o.op = .makeFunc (.func f) first caps) (h0 : first.size = 0) (hc : opdsC caps.toList = some cs) :
    OpOk B0 P lk σ st w o a (.fn f (cs.map (·.ev gl s))) st := by
  have h1 := opdsC_rel hs hg hc
  have hf : first = #[] := Array.eq_empty_of_size_eq_zero h0
  subst hf
  refine OpOk.pure hS (u := .func (.func f) #[] (caps.map a.eval)) (x := Instr.makeFunc (.func f) #[] (caps.map a.eval)) (by simp [execOp, ho]) (by simp [Instr.makeFunc]) ?_
  refine .fn (by have := h1.1; simpa using this) (fun j c v hc hv => h1.2 j c v hc ?_)
  rw [← Array.getElem?_toList] at hv
  simpa using hv

theorem ok_sls (hS : Sim B0 lk σ st w) (hs : SlotRel lk σ N s a) (hg : GlobOk lk gl) {t : TypeId} {x : Operand} {lo hi : Option Operand} {px : Opd} {plo phi : Option Opd} {l : List UInt8} {b h : Nat} (ho : o.op = .slice t x lo hi none) (hu : P.underlying t = some .string) (hx : opdC x = some px) (hlo : opdO lo = some plo) (hhi : opdO hi = some phi)
    (hl : px.ev gl s = .str l) (e1 : bnd l.length l.length (phi.map (·.ev gl s)) = some h) (e2 : bnd h 0 (plo.map (·.ev gl s)) = some b) : OpOk B0 P lk σ st w o a (.str ((l.take h).drop b)) st := by
  have h1 := opdC_rel hs hg hx
  rw [hl] at h1
  generalize hb : a.eval x = y at h1
  cases h1 with | str s' =>
  rw [len_data] at e1
  obtain ⟨r1, r2, r3⟩ := sliceBounds_run (P := P) (w := w) (isS := false) (Nat.le_refl _) (opdO_rel hs hg hhi) (opdO_rel hs hg hlo) e1 e2
  refine OpOk.pure hS (u := .string (s'.extract b h)) (x := Instr.sliceAt t (a.eval x) (lo.map a.eval) (hi.map a.eval) none) (by simp [execOp, ho]) ?_ ?_
  · rw [hb]
    simp [Instr.sliceAt, Instr.slice, run_underlying hu, r1]
  · have := Rel.str (lk := lk) (σ := σ) (s'.extract b h)
    have e : (s'.extract b h).data.toList = (s'.data.toList.take h).drop b := by
      rw [Lib.extract_data]
      rw [List.drop_take]
    rw [e] at this; exact this

theorem ok_slv (hS : Sim B0 lk σ st w) (hs : SlotRel lk σ N s a) (hg : GlobOk lk gl) {t e : TypeId} {i : TypeInfo} {x : Operand} {lo hi : Option Operand} {px : Opd} {plo phi : Option Opd} {es : List (List PV)} {b h : Nat} (ho : o.op = .slice t x lo hi none) (hu : P.underlying t = some (.slice e)) (hi' : P.info? e = some i) (hx : opdC x = some px) (hlo : opdO lo = some plo) (hhi : opdO hi = some phi)
    (hl : frz1 false st (px.ev gl s) = some (.sl es, st')) (e1 : bnd es.length es.length (phi.map (·.ev gl s)) = some h) (e2 : bnd h 0 (plo.map (·.ev gl s)) = some b) (hsz : ∀ e ∈ es, e.length = i.size) : OpOk B0 P lk σ st w o a (.sl ((es.take h).drop b)) st' := by
  obtain ⟨lk1, a1, a2, a3⟩ := hS.frz1 (opdC_rel hs hg hx) hl
  generalize hb : a.eval x = y at a1
  have hrun : ∀ ad cap, es.length ≤ cap → y = .slice ad es.length cap → b ≤ h ∧ h ≤ es.length ∧ (Instr.sliceAt t (a.eval x) (lo.map a.eval) (hi.map a.eval) none).run P w = .ok (.slice (if cap = b then ad else ad.map (·.add (b * i.size))) (h - b) (cap - b)) w := by
    intro ad cap hcap hy
    obtain ⟨r1, r2, r3⟩ := sliceBounds_run (P := P) (w := w) (isS := true) hcap (opdO_rel hs hg hhi) (opdO_rel hs hg hlo) e1 e2
    refine ⟨r2, r3, ?_⟩
    rw [hb, hy]
    simp [Instr.sliceAt, Instr.slice, run_underlying hu, r1, run_sizeOf' hi']
  have he : execOp a.eval o = (do Pure.pure (.value (← Instr.sliceAt t (a.eval x) (lo.map a.eval) (hi.map a.eval) none))) := by simp [execOp, ho]
  have hlen : ((es.take h).drop b).length = min h es.length - b := by simp
  cases a1 with
  | slnil =>
    obtain ⟨r2, r3, hr⟩ := hrun none 0 (by simp) rfl
    have hb0 : b = 0 ∧ h = 0 := by simp at r3; omega
    obtain ⟨rfl, rfl⟩ := hb0
    refine OpOk.val (u := .slice none 0 0) (by rw [he, Sem.run_bind, hr]; simp) ?_ a2 a3
    exact .slnil
  | @sle _ ad cap =>
    obtain ⟨r2, r3, hr⟩ := hrun (some ad) cap (by simp) rfl
    have hb0 : b = 0 ∧ h = 0 := by simp at r3; omega
    obtain ⟨rfl, rfl⟩ := hb0
    refine OpOk.val (by rw [he, Sem.run_bind, hr]; rfl) ?_ a2 a3
    by_cases hc0 : cap = 0
    · rw [if_pos hc0]; exact .sle
    · rw [if_neg hc0]; exact .sle
  | @sl _ _ bb off size cap u hs' hc hu' hr' =>
    obtain ⟨r2, r3, hr⟩ := hrun (some ⟨bb, off, none⟩) cap hc rfl
    refine OpOk.val (by rw [he, Sem.run_bind, hr]; rfl) ?_ a2 a3
    have hl2 : ((es.take h).drop b).length = h - b := by rw [hlen]; omega
    rw [← hl2]
    by_cases hbc : cap = b
    · have hz : (es.take h).drop b = [] := List.eq_nil_of_length_eq_zero (by rw [hl2]; omega)
      rw [if_pos hbc, hz]
      exact Rel.sl (size := 0) (fun _ _ => undef) (fun i e h => by simp at h) (by simp) (fun i e h => by simp at h) (fun i e h => by simp at h)
    · rw [if_neg hbc]
      have hget : ∀ (j : Nat) e, ((es.take h).drop b)[j]? = some e → es[b + j]? = some e := fun j e hj => by
        rw [List.getElem?_drop] at hj
        have : b + j < h := by have := (List.getElem?_eq_some_iff.1 hj).1; simp at this; omega
        rw [List.getElem?_take_of_lt this] at hj; exact hj
      have hadd : (⟨bb, off, none⟩ : Addr).add (b * i.size) = ⟨bb, off + b * i.size, none⟩ := Addr.add_mid _ _ _
      simp only [Option.map_some, hadd]
      refine Rel.sl (size := i.size) (fun j k => u (b + j) k) (fun j e hj => hsz e (List.mem_of_getElem? (hget j e hj))) (by rw [hl2]; omega) (fun j e hj k v hk => ?_) (fun j e hj k v hk => hr' _ _ (hget j e hj) _ _ hk)
      have h5 := hu' _ _ (hget j e hj) _ _ hk
      have h6 : size = i.size := (hs' _ _ (hget j e hj)).symm.trans (hsz e (List.mem_of_getElem? (hget j e hj)))
      subst h6
      rw [← h5]
      congr 2
      rw [Nat.add_mul]; omega

theorem ok_sla (hS : Sim B0 lk σ st w) (hs : SlotRel lk σ N s a) (hg : GlobOk lk gl) {t e : TypeId} {n : Nat} {x : Operand} {lo hi : Option Operand} {px : Opd} {plo phi : Option Opd} {id off b h : Nat} (ho : o.op = .slice t x lo hi none) (hu : P.underlying t = some (.array n e)) (hi' : (P.info? e).map (·.size) = some 1) (hx : opdC x = some px) (hlo : opdO lo = some plo) (hhi : opdO hi = some phi)
    (hl : px.ev gl s = .ptr id 0 0 off) (e1 : bnd n n (phi.map (·.ev gl s)) = some h) (e2 : bnd h 0 (plo.map (·.ev gl s)) = some b) : OpOk B0 P lk σ st w o a (.arr id (off + b) (h - b)) st := by
  have h1 := opdC_rel hs hg hx
  rw [hl] at h1
  generalize hb : a.eval x = y at h1
  cases h1 with | @ptr _ _ _ _ _ L hL =>
  obtain ⟨r1, r2, r3⟩ := sliceBounds_run (P := P) (w := w) (isS := false) (Nat.le_refl _) (opdO_rel hs hg hhi) (opdO_rel hs hg hlo) e1 e2
  cases hq : P.info? e with
  | none => rw [hq] at hi'; cases hi'
  | some i =>
    have hi1 : i.size = 1 := by rw [hq] at hi'; simpa using hi'
    refine OpOk.pure hS (u := .slice (some (if n = b then ⟨L.b, 0 * L.size + off, none⟩ else (⟨L.b, 0 * L.size + off, none⟩ : Addr).add (b * 1))) (h - b) (n - b)) (x := Instr.sliceAt t (a.eval x) (lo.map a.eval) (hi.map a.eval) none) (by simp [execOp, ho]) ?_ ?_
    · rw [hb]
      simp [Instr.sliceAt, run_underlying hu, r1, Instr.sureAddr, run_sizeOf' hq, hi1]
    · by_cases hnb : n = b
      · have hz : h - b = 0 := by omega
        rw [if_pos hnb, hz]; exact .arr0 hL
      · rw [if_neg hnb, Addr.add_mid, Nat.zero_mul, Nat.zero_add, Nat.mul_one]
        exact .arr hL (by omega)

theorem ok_nilck (hS : Sim B0 lk σ st w) (hs : SlotRel lk σ N s a) (hg : GlobOk lk gl) {x : Operand} {px : Opd} (ho : o.op = .nilCheck x) (hx : opdC x = some px) (h : (∃ id g i off, px.ev gl s = .ptr id g i off) ∨ ∃ cs, px.ev gl s = .pf cs) : OpOk B0 P lk σ st w o a (px.ev gl s) st := by
  have h1 := opdC_rel hs hg hx
  have : ∃ ad, a.eval x = .pointer (some ad) := by
    rcases h with ⟨id, g, i, off, h⟩ | ⟨cs, h⟩
    · rw [h] at h1; generalize a.eval x = b at h1; cases h1; exact ⟨_, rfl⟩
    · rw [h] at h1; generalize a.eval x = b at h1; cases h1; exact ⟨_, rfl⟩
  obtain ⟨ad, had⟩ := this
  rw [had] at h1
  exact OpOk.val (u := .pointer (some ad)) (by simp [execOp, ho, had]) h1 hS Step.refl

/-- A pointer moved on. -/
theorem ptr_add {id g i off n : Nat} {u : Value} (h : Rel lk σ (.ptr id g i off) u) : ∃ ad, u = .pointer (some ad) ∧ Rel lk σ (.ptr id g i (off + n)) (.pointer (some (ad.add n))) := by
  cases h with | @ptr _ _ _ _ _ L hL =>
  refine ⟨_, rfl, ?_⟩
  rw [Addr.add_mid, Nat.add_assoc]
  exact .ptr hL
theorem pf_add {cs : List PV} {n : Nat} {u : Value} (h : Rel lk σ (.pf cs) u) : ∃ ad, u = .pointer (some ad) ∧ Rel lk σ (.pf (cs.drop n)) (.pointer (some (ad.add n))) := by
  cases h with | @pf _ _ b off u hu hr =>
  refine ⟨_, rfl, ?_⟩
  rw [Addr.add_mid]
  refine .pf (fun j => u (n + j)) (fun j v hv => ?_) (fun j v hv => ?_)
  · rw [List.getElem?_drop] at hv
    have := hu _ _ hv
    rw [Nat.add_assoc]; exact this
  · rw [List.getElem?_drop] at hv
    exact hr _ _ hv

theorem ok_fa (hS : Sim B0 lk σ st w) {t : TypeId} {x : Operand} {f : Nat} {fields : Array Field} {fd : Field} {i : TypeInfo} {ad : Addr} (ho : o.op = .fieldAddr t x f) (hu : P.underlying t = some (.struct fields)) (hf : fields[f]? = some fd) (hi : P.info? fd.type = some i) (hz : i.size ≠ 0)
    (hx : a.eval x = .pointer (some ad)) (hr : Rel lk σ v (.pointer (some (ad.add fd.offset)))) : OpOk B0 P lk σ st w o a v st := by
  refine OpOk.pure hS (x := Instr.fieldAt t (a.eval x) f) (by simp [execOp, ho]) ?_ hr
  rw [hx]
  simp [Instr.fieldAt, run_underlying hu, hf, Instr.sureAddr, fieldPlace, run_sizeOf' hi, hz]

theorem ok_fldA (hS : Sim B0 lk σ st w) (hs : SlotRel lk σ N s a) (hg : GlobOk lk gl) {t : TypeId} {x : Operand} {px : Opd} {f : Nat} {fields : Array Field} {fd : Field} {i : TypeInfo} {cs : List PV} (ho : o.op = .field t x f) (hu : P.underlying t = some (.struct fields)) (hf : fields[f]? = some fd) (hi : P.info? fd.type = some i) (ha : isAggT P fd.type = true)
    (hx : opdC x = some px) (h : px.ev gl s = .agg cs) (hn : fd.offset + i.size ≤ cs.length) : OpOk B0 P lk σ st w o a (.agg ((cs.drop fd.offset).take i.size)) st := by
  have h1 := opdC_rel hs hg hx
  rw [h] at h1
  obtain ⟨vs, he, hr⟩ := h1.agg_iff
  obtain ⟨u, h2, h3⟩ := part_agg (P := P) (w := w) ha hi hr hn
  refine OpOk.pure hS (x := Instr.field t (a.eval x) f) (by simp [execOp, ho]) ?_ h3
  rw [he]; simp [Instr.field, run_underlying hu, hf, asAgg, h2]
theorem ok_fld1 (hS : Sim B0 lk σ st w) (hs : SlotRel lk σ N s a) (hg : GlobOk lk gl) {t : TypeId} {x : Operand} {px : Opd} {f : Nat} {fields : Array Field} {fd : Field} {cs : List PV} (ho : o.op = .field t x f) (hu : P.underlying t = some (.struct fields)) (hf : fields[f]? = some fd) (ha : isAggT P fd.type = false) (hun : (P.underlying fd.type).isSome = true)
    (hx : opdC x = some px) (h : px.ev gl s = .agg cs) (hn : cs[fd.offset]? = some v) : OpOk B0 P lk σ st w o a v st := by
  have h1 := opdC_rel hs hg hx
  rw [h] at h1
  obtain ⟨vs, he, hr⟩ := h1.agg_iff
  obtain ⟨u, h2, h3⟩ := part_one (P := P) (w := w) hun ha hr hn
  refine OpOk.pure hS (x := Instr.field t (a.eval x) f) (by simp [execOp, ho]) ?_ h3
  rw [he]; simp [Instr.field, run_underlying hu, hf, asAgg, h2]

theorem ok_ixgA (hS : Sim B0 lk σ st w) (hs : SlotRel lk σ N s a) (hg : GlobOk lk gl) {t e : TypeId} {n : Nat} {x y : Operand} {px py : Opd} {i : TypeInfo} {cs : List PV} {j : Nat} (ho : o.op = .index t x y) (hu : P.underlying t = some (.array n e)) (hi : P.info? e = some i) (ha : isAggT P e = true)
    (hx : opdC x = some px) (hy : opdC y = some py) (h : px.ev gl s = .agg cs) (hj : idx n (py.ev gl s) = some j) (hn : j * i.size + i.size ≤ cs.length) : OpOk B0 P lk σ st w o a (.agg ((cs.drop (j * i.size)).take i.size)) st := by
  have h1 := opdC_rel hs hg hx
  rw [h] at h1
  obtain ⟨vs, he, hr⟩ := h1.agg_iff
  obtain ⟨k, m, hm, h4, h5, rfl, h6⟩ := idx_run hj (opdC_rel hs hg hy)
  obtain ⟨u, h2, h3⟩ := part_agg (P := P) (w := w) ha hi hr hn
  refine OpOk.pure hS (x := Instr.index t (a.eval x) (a.eval y)) (by simp [execOp, ho]) ?_ h3
  rw [he, hm]; simp [Instr.index, run_underlying hu, asIntOf, h4, h5, run_sizeOf' hi, h2]
theorem ok_ixg1 (hS : Sim B0 lk σ st w) (hs : SlotRel lk σ N s a) (hg : GlobOk lk gl) {t e : TypeId} {n : Nat} {x y : Operand} {px py : Opd} {i : TypeInfo} {cs : List PV} {j : Nat} (ho : o.op = .index t x y) (hu : P.underlying t = some (.array n e)) (hi : P.info? e = some i) (ha : isAggT P e = false) (hun : (P.underlying e).isSome = true)
    (hx : opdC x = some px) (hy : opdC y = some py) (h : px.ev gl s = .agg cs) (hj : idx n (py.ev gl s) = some j) (hn : cs[j * i.size]? = some v) : OpOk B0 P lk σ st w o a v st := by
  have h1 := opdC_rel hs hg hx
  rw [h] at h1
  obtain ⟨vs, he, hr⟩ := h1.agg_iff
  obtain ⟨k, m, hm, h4, h5, rfl, h6⟩ := idx_run hj (opdC_rel hs hg hy)
  obtain ⟨u, h2, h3⟩ := part_one (P := P) (w := w) hun ha hr hn
  refine OpOk.pure hS (x := Instr.index t (a.eval x) (a.eval y)) (by simp [execOp, ho]) ?_ h3
  rw [he, hm]; simp [Instr.index, run_underlying hu, asIntOf, h4, h5, run_sizeOf' hi, h2]
theorem ok_ixs (hS : Sim B0 lk σ st w) (hs : SlotRel lk σ N s a) (hg : GlobOk lk gl) {t : TypeId} {x y : Operand} {px py : Opd} {l : List UInt8} {j : Nat} {b : UInt8} (ho : o.op = .index t x y) (hu : P.underlying t = some .string)
    (hx : opdC x = some px) (hy : opdC y = some py) (h : px.ev gl s = .str l) (hj : idx l.length (py.ev gl s) = some j) (hb : l[j]? = some b) : OpOk B0 P lk σ st w o a (.int .u8 b.toNat) st := by
  have h1 := opdC_rel hs hg hx
  rw [h] at h1
  generalize he : a.eval x = q at h1
  cases h1 with | str s' =>
  obtain ⟨k, m, hm, h4, h5, rfl, h6⟩ := idx_run hj (opdC_rel hs hg hy)
  refine OpOk.pure hS (u := .int .u8 b.toNat) (x := Instr.index t (a.eval x) (a.eval y)) (by simp [execOp, ho]) ?_ (.int _ _)
  have hb' : s'[m.toNat]? = some b := by
    have hlt : m.toNat < s'.size := by rw [len_data] at h6; exact h6
    rw [getElem?_pos s' m.toNat hlt]
    have : s'.data.toList[m.toNat]? = some (s'.data[m.toNat]) := by simp [hlt]
    rw [this] at hb; exact hb
  rw [he, hm]; simp [Instr.index, run_underlying hu, asIntOf, h4, hb']

theorem ok_ext (hS : Sim B0 lk σ st w) (hs : SlotRel lk σ N s a) (hg : GlobOk lk gl) {x : Operand} {px : Opd} {j : Nat} {vs : List PV} (ho : o.op = .extract x j) (hx : opdC x = some px) (h : px.ev gl s = .tup vs) (hj : vs[j]? = some v) : OpOk B0 P lk σ st w o a v st := by
  have h1 := opdC_rel hs hg hx
  rw [h] at h1
  obtain ⟨us, he, hr⟩ := h1.tup_iff
  have hlt : j < us.length := by have := (List.getElem?_eq_some_iff.1 hj).1; rw [← hr.1]; exact this
  refine OpOk.pure hS (u := us[j]) (x := Instr.extract (a.eval x) j) (by simp [execOp, ho]) ?_ (hr.2 j v _ hj (List.getElem?_eq_getElem hlt))
  rw [he]; simp [Instr.extract, hlt]
end
end Go.Vs
