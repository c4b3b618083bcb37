/-
  The model's code turned into the small language; operations that touch no memory. Under no condition.
-/
import Derived.Test.YtachdfhodbdoiaaDoorVsE
import Derived.Laws.Strings
import Derived.Lib.Strings
namespace Go.Vs
open Go

/-! ### the turning -/
def toPV1 : Value → Option PV
  | .bool b => some (.bool b)
  | .int k n => some (.int k n)
  | .string s => some (.str s.data.toList)
  | .pointer none => some .nilp
  | .slice none 0 0 => some .nilsl
  | .nilIface => some .nilif
  | _ => none
def toPVs : List Value → Option (List PV)
  | [] => some []
  | v :: r => (toPV1 v).bind fun p => (toPVs r).bind fun ps => some (p :: ps)
def toPV : Value → Option PV
  | .agg cs => (toPVs cs.toList).bind fun ps => some (.agg ps)
  | v => toPV1 v

def opdC : Operand → Option Opd
  | .tmp t => some (.tmp t)
  | .const v => (toPV v).bind fun p => some (.const p)
  | .global g => some (.glob g)
  | .func f => some (.const (.fn f []))
def opdsC : List Operand → Option (List Opd)
  | [] => some []
  | x :: r => (opdC x).bind fun p => (opdsC r).bind fun ps => some (p :: ps)
def opdO : Option Operand → Option (Option Opd)
  | none => some none
  | some x => (opdC x).bind fun p => some (some p)

def isAggT (P : Program) (t : TypeId) : Bool := match P.underlying t with
  | some (.struct _) | some (.array _ _) => true
  | _ => false
def zeroC (P : Program) (t : TypeId) : Option (List PV) := (P.info? t).bind fun i => i.zero.bind fun z => toPVs z.cells.toList
def partsS (places : List (Nat × Nat)) : List (Nat × Operand) → Option (List (Nat × Nat × Opd))
  | [] => some []
  | (i, x) :: r => (places[i]?).bind fun f => (opdC x).bind fun p => (partsS places r).bind fun ps => some ((f.1, f.2, p) :: ps)
def placesC (P : Program) (fields : Array Field) : Option (List (Nat × Nat)) := fields.toList.mapM fun f => (P.info? f.type).map fun i => (f.offset, i.size)
def partsA (size : Nat) : List (Nat × Operand) → Option (List (Nat × Nat × Opd))
  | [] => some []
  | (i, x) :: r => (opdC x).bind fun p => (partsA size r).bind fun ps => some ((i * size, size, p) :: ps)
def partsR : List (Nat × Operand) → Option (List (Nat × Opd))
  | [] => some []
  | (i, x) :: r => (opdC x).bind fun p => (partsR r).bind fun ps => some ((i, p) :: ps)
def isNilP : Operand → Bool
  | .const (.pointer none) => true
  | _ => false
def isNilS : Operand → Bool
  | .const (.slice none 0 0) => true
  | _ => false

def isU8 (P : Program) (e : TypeId) : Bool := match P.underlying e with
  | some (.int .u8) => true
  | _ => false

def callC (P : Program) (c : Call) : Option COp :=
  match c.callee with
  | .value (.func f) => (opdsC c.args.toList).bind fun as => some (.callf f as)
  | .value (.tmp t) => (opdsC c.args.toList).bind fun as => some (.callv (.tmp t) as)
  | .builtin .len => match c.args.toList, c.argTypes.toList with
    | [x], [t] => match P.underlying t with
      | some .string => (opdC x).bind fun x => some (.len true x)
      | some (.slice _) => (opdC x).bind fun x => some (.len false x)
      | _ => none
    | _, _ => none
  | .builtin .append => match c.args.toList, c.argTypes.toList with
    | [x, y], [t, u] => match P.underlying t with
      | some (.slice e) => (P.info? e).bind fun i => match P.underlying u with
        | some (.slice _) => if t = u then (opdC x).bind fun x => (opdC y).bind fun y => i.zero.bind fun z => if z.cells.size = i.size then some (.app false e i.size i.bytes x y) else none else none
        | some .string => if i.size = 1 ∧ i.bytes = 1 ∧ isU8 P e = true then (opdC x).bind fun x => (opdC y).bind fun y => match i.zero with
            | some (.int .u8 0) => some (.app true e 1 1 x y)
            | _ => none
          else none
        | _ => none
      | _ => none
    | _, _ => none
  | .builtin .max => match c.args.toList with
    | [x, y] => (opdC x).bind fun x => (opdC y).bind fun y => some (.maxmin true x y)
    | _ => none
  | .builtin .min => match c.args.toList with
    | [x, y] => (opdC x).bind fun x => (opdC y).bind fun y => some (.maxmin false x y)
    | _ => none
  | .builtin .unsafeSliceData => match c.args.toList with
    | [x] => (opdC x).bind fun x => some (.usd x)
    | _ => none
  | .builtin .unsafeString => match c.args.toList, c.argTypes.toList with
    | [p, n], [t, _] => match P.underlying t with
      | some (.pointer e) => if isU8 P e = true ∧ (P.info? e).map (·.size) = some 1 ∧ 0 < P.depth then (opdC p).bind fun p => (opdC n).bind fun n => some (.ustr e p n) else none
      | _ => none
    | _, _ => none
  | _ => none

/-- The kinds of a type's cells, where its values are the same just if their cells are. -/
def fieldsK (P : Program) (rec : TypeId → Option (List Nat)) : List Field → Nat → Nat → Option (List Nat)
  | [], o, n => if o = n then some [] else none
  | f :: fs, o, n => if f.offset = o ∧ f.name ≠ "_" ∧ (P.info? f.type).isSome = true then (rec f.type).bind fun ks => if ks.length = P.cellsOf f.type then (fieldsK P rec fs (o + P.cellsOf f.type) n).bind fun r => some (ks ++ r) else none else none
def itemsK (ks : List Nat) : Nat → List Nat
  | 0 => []
  | n + 1 => ks ++ itemsK ks n
def flatK (P : Program) : Nat → TypeId → Option (List Nat)
  | 0, _ => none
  | d + 1, t => match P.underlying t with
    | some .bool => if P.cellsOf t = 1 then some [0] else none
    | some (.int _) => if P.cellsOf t = 1 then some [1] else none
    | some .string => if P.cellsOf t = 1 then some [2] else none
    | some (.struct fs) => if P.stoodInHeld t = false then fieldsK P (flatK P d) fs.toList 0 (P.cellsOf t) else none
    | some (.array n e) => if (P.info? e).isSome = true ∧ P.cellsOf t = n * P.cellsOf e then (flatK P d e).bind fun ks => if ks.length = P.cellsOf e then some (itemsK ks n) else none else none
    | _ => none

def binC (P : Program) (op : BinOp) (t : TypeId) (x y : Operand) : Option COp :=
  match P.underlying t with
  | some (.int _) | some .string => (opdC x).bind fun x => (opdC y).bind fun y => some (.bin op x y)
  | some .bool => match op with
    | .eql => (opdC x).bind fun x => (opdC y).bind fun y => some (.eqb false x y)
    | .neq => (opdC x).bind fun x => (opdC y).bind fun y => some (.eqb true x y)
    | _ => none
  | some (.slice _) => if isNilS y then match op with
    | .eql => (opdC x).bind fun x => some (.eqnil true false x)
    | .neq => (opdC x).bind fun x => some (.eqnil true true x)
    | _ => none
    else none
  | some (.struct _) | some (.array _ _) => if P.eqGuardType P.depth t = false then match op with
    | .eql => (flatK P 99 t).bind fun ks => (opdC x).bind fun x => (opdC y).bind fun y => some (.eqs ks false x y)
    | .neq => (flatK P 99 t).bind fun ks => (opdC x).bind fun x => (opdC y).bind fun y => some (.eqs ks true x y)
    | _ => none
    else none
  | some (.pointer e) => (P.info? e).bind fun i => if i.size ≠ 0 then match op with
    | .eql => if isNilP y then (opdC x).bind fun x => some (.eqnil false false x) else (opdC x).bind fun x => (opdC y).bind fun y => some (.eqp false x y)
    | .neq => if isNilP y then (opdC x).bind fun x => some (.eqnil false true x) else (opdC x).bind fun x => (opdC y).bind fun y => some (.eqp true x y)
    | _ => none
    else none
  | _ => none

def convC (P : Program) (src dst : TypeId) (x : Operand) : Option COp :=
  match P.underlying src, P.underlying dst with
  | some (.int _), some (.int k) => (opdC x).bind fun x => some (.cvi k x)
  | some .string, some .string => (opdC x).bind fun x => some (.cvid x)
  | some (.slice e), some .string => match P.underlying e with
    | some (.int .u8) => (opdC x).bind fun x => some (.cvbs x)
    | _ => none
  | some (.pointer t), some .unsafePointer => (P.info? t).bind fun i => if i.size ≠ 0 then (opdC x).bind fun x => some (.cvp none x) else none
  | some .unsafePointer, some (.pointer u) => (P.info? u).bind fun i => if i.size ≠ 0 then (opdC x).bind fun x => some (.cvp (some (u, i.size)) x) else none
  | _, _ => none

def opC (P : Program) : Op → Option COp
  | .move x | .assign x => (opdC x).bind fun x => some (.mov x)
  | .pick c a b => (opdC c).bind fun c => (opdC a).bind fun a => (opdC b).bind fun b => some (.pick c a b)
  | .alloc e => (zeroC P e).bind fun z => some (.alloc e z)
  | .box e x => (opdC x).bind fun x => some (.box e x)
  | .build t parts => (zeroC P t).bind fun z => match P.underlying t with
    | some (.struct fields) => (placesC P fields).bind fun pl => (partsS pl parts.toList).bind fun ps => some (.build z ps)
    | some (.array _ e) => (P.info? e).bind fun i => (partsA i.size parts.toList).bind fun ps => some (.build z ps)
    | _ => none
  | .buildSlice t len parts => match P.underlying t with
    | some (.slice e) => (P.info? e).bind fun i => (zeroC P e).bind fun z => if z.length = i.size ∧ 0 < i.size ∧ 0 < len ∧ len * i.size ≤ 16777216 then (partsR parts.toList).bind fun ps => some (.bslice e i.size len z ps) else none
    | _ => none
  | .load t x => (opdC x).bind fun x => if isAggT P t then (P.info? t).bind fun i => some (.lda i.size x) else if (P.underlying t).isSome then some (.ldc x) else none
  | .store t p x => (opdC p).bind fun p => (opdC x).bind fun x => (P.info? t).bind fun i => some (.st i.size p x)
  | .nilCheck x => (opdC x).bind fun x => some (.nilck x)
  | .binOp op t x y _ => binC P op t x y
  | .unOp op _ x => (opdC x).bind fun x => some (.un op x)
  | .convert src dst x => convC P src dst x
  | .makeFunc (.func f) first caps => if first.size = 0 then (opdsC caps.toList).bind fun cs => some (.mkfn f cs) else none
  | .slice t x lo hi none => (opdC x).bind fun x => (opdO lo).bind fun lo => (opdO hi).bind fun hi => match P.underlying t with
    | some .string => some (.sls x lo hi)
    | some (.slice e) => (P.info? e).bind fun i => some (.slv i.size x lo hi)
    | some (.array n e) => if (P.info? e).map (·.size) = some 1 then some (.sla n x lo hi) else none
    | _ => none
  | .fieldAddr t x f => (opdC x).bind fun x => match P.underlying t with
    | some (.struct fields) => (fields[f]?).bind fun fd => (P.info? fd.type).bind fun i => if i.size = 0 then none else some (.fa fd.offset x)
    | _ => none
  | .field t x f => (opdC x).bind fun x => match P.underlying t with
    | some (.struct fields) => (fields[f]?).bind fun fd => if isAggT P fd.type then (P.info? fd.type).bind fun i => some (.fld fd.offset (some i.size) x) else if (P.underlying fd.type).isSome then some (.fld fd.offset none x) else none
    | _ => none
  | .indexAddr t x i => (opdC x).bind fun x => (opdC i).bind fun i => match P.underlying t with
    | some (.slice e) => (P.info? e).bind fun inf => some (.ixa inf.size x i)
    | some (.array n e) => (P.info? e).bind fun inf => some (.ixaa n inf.size x i)
    | _ => none
  | .index t x i => (opdC x).bind fun x => (opdC i).bind fun i => match P.underlying t with
    | some .string => some (.ixs x i)
    | some (.array n e) => (P.info? e).bind fun inf => if isAggT P e then some (.ixg n inf.size false x i) else if (P.underlying e).isSome then some (.ixg n inf.size true x i) else none
    | _ => none
  | .extract x j => (opdC x).bind fun x => some (.ext j x)
  | .call c => callC P c
  | _ => none

/-! ### operands -/
def GlobOk (lk : Locks) (gl : Nat → List PV) : Prop := ∀ g (j : Nat) v, (gl g)[j]? = some v → ∃ u, lk ⟨g, j, none⟩ = some u ∧ Rel lk sig0 v u

section
variable {lk lk' : Locks} {σ : Sig} {gl : Nat → List PV}
theorem GlobOk.mono (h : GlobOk lk gl) (hl : ∀ a u, lk a = some u → lk' a = some u) : GlobOk lk' gl := fun g j v hv => by
  obtain ⟨u, h1, h2⟩ := h g j v hv
  exact ⟨u, hl _ _ h1, h2.mono hl (fun _ _ _ h => h)⟩
theorem toPV1_rel {v : Value} {p : PV} (h : toPV1 v = some p) : Rel lk σ p v := by
  unfold toPV1 at h
  split at h <;> first | (obtain rfl := Option.some.inj h; constructor) | cases h
theorem toPVs_rel : ∀ {vs : List Value} {ps : List PV}, toPVs vs = some ps → RelL lk σ ps vs
  | [], ps, h => by
    simp only [toPVs, Option.some.injEq] at h
    subst h; exact RelL.nil
  | v :: r, ps, h => by
    simp only [toPVs] at h
    obtain ⟨p, h1, h⟩ := bind_some h
    obtain ⟨qs, h2, h⟩ := bind_some h
    obtain rfl := Option.some.inj h
    exact .cons (toPV1_rel h1) (toPVs_rel h2)
theorem toPV_rel {v : Value} {p : PV} (h : toPV v = some p) : Rel lk σ p v := by
  unfold toPV at h
  split at h
  · rename_i cs
    obtain ⟨ps, h1, h⟩ := bind_some h
    obtain rfl := Option.some.inj h
    simpa using Rel.mk_agg (toPVs_rel h1)
  · exact toPV1_rel h
theorem opdC_rel {N : Nat} {s : Slots} {a : Act} (hs : SlotRel lk σ N s a) (hg : GlobOk lk gl) {x : Operand} {p : Opd} (h : opdC x = some p) : Rel lk σ (p.ev gl s) (a.eval x) := by
  cases x with
  | tmp t => obtain rfl := Option.some.inj h; exact hs.rel t
  | const v =>
    simp only [opdC] at h
    obtain ⟨q, h1, h⟩ := bind_some h
    obtain rfl := Option.some.inj h
    exact toPV_rel h1
  | global g =>
    obtain rfl := Option.some.inj h
    refine .pf (fun j => (lk ⟨g, j, none⟩).getD undef) (fun j v hv => ?_) (fun j v hv => ?_)
    · obtain ⟨u, h1, _⟩ := hg g j v hv
      rw [Nat.zero_add]; simp only [h1]; rfl
    · obtain ⟨u, h1, h2⟩ := hg g j v hv
      simp only [h1]; exact h2
  | func f => obtain rfl := Option.some.inj h; exact .fn (by simp) (fun j c v hc _ => by simp at hc)
theorem opdsC_rel {N : Nat} {s : Slots} {a : Act} (hs : SlotRel lk σ N s a) (hg : GlobOk lk gl) : ∀ {xs : List Operand} {ps : List Opd}, opdsC xs = some ps → RelL lk σ (ps.map (·.ev gl s)) (xs.map a.eval)
  | [], ps, h => by
    simp only [opdsC, Option.some.injEq] at h
    subst h; exact RelL.nil
  | x :: r, ps, h => by
    simp only [opdsC] at h
    obtain ⟨p, h1, h⟩ := bind_some h
    obtain ⟨qs, h2, h⟩ := bind_some h
    obtain rfl := Option.some.inj h
    exact .cons (opdC_rel hs hg h1) (opdsC_rel hs hg h2)

/-! ### operations on numbers, bools, texts -/
variable {P : Program} {w : World}
theorem toList_eq (s : ByteArray) : s.toList = s.data.toList := ByteArray.toList_eq s
theorem beq_dec {α : Type _} [BEq α] [LawfulBEq α] [DecidableEq α] (a b : α) : (a == b) = decide (a = b) := by rw [Bool.eq_iff_iff]; simp

def valOf : PV → Value
  | .bool b => .bool b
  | .int k n => .int k n
  | _ => undef
theorem binInt_run {op : BinOp} {t : TypeId} {k k' : IntKind} {m n : Int} {v : PV} (h : binE op (.int k m) (.int k' n) = some v) :
    (binOp op t (.int k m) (.int k' n)).run P w = .ok (valOf v) w ∧ Rel lk σ v (valOf v) := by
  by_cases hs : op = .shl ∨ op = .shr
  · rcases hs with rfl | rfl
    · simp only [binE] at h
      by_cases hn : n < 0
      · rw [if_pos hn] at h; cases h
      · rw [if_neg hn] at h
        obtain rfl := Option.some.inj h
        exact ⟨by simp [binOp, Op.shift, hn, valOf], .int _ _⟩
    · simp only [binE] at h
      by_cases hn : n < 0
      · rw [if_pos hn] at h; cases h
      · rw [if_neg hn] at h
        obtain rfl := Option.some.inj h
        exact ⟨by simp [binOp, Op.shift, hn, valOf], .int _ _⟩
  · have hk : k = k' := by
      cases op <;> simp only [binE] at h <;> first | (exact absurd (Or.inl rfl) hs) | (exact absurd (Or.inr rfl) hs) | (by_cases hk : k = k'; exact hk; rw [if_neg hk] at h; cases h)
    subst hk
    cases op <;> simp only [binE, if_true] at h <;> first
      | (exact absurd (Or.inl rfl) hs)
      | (exact absurd (Or.inr rfl) hs)
      | (obtain rfl := Option.some.inj h; exact ⟨by simp [binOp, Op.intArith, Op.intBits, Op.intCmp, valOf, beq_dec, bne], by constructor⟩)
      | (by_cases hn : n = 0
         · rw [if_pos hn] at h; cases h
         · rw [if_neg hn] at h; obtain rfl := Option.some.inj h; exact ⟨by simp [binOp, Op.intDiv, hn, valOf], by constructor⟩)
      | cases h
theorem len_data (s : ByteArray) : s.data.toList.length = s.size := Array.length_toList
theorem binStr_run {op : BinOp} {t : TypeId} {s s' : ByteArray} {v : PV} (h : binE op (.str s.data.toList) (.str s'.data.toList) = some v) :
    ∃ u, (binOp op t (.string s) (.string s')).run P w = .ok u w ∧ Rel lk σ v u := by
  cases op <;> simp only [binE] at h <;> try (cases h; done)
  · rw [len_data, len_data] at h
    by_cases hn : s.size + s'.size ≤ 9223372036854775807
    · rw [if_pos hn] at h
      obtain rfl := Option.some.inj h
      refine ⟨.string (s ++ s'), ?_, ?_⟩
      · have h3 : IntKind.i64.max = 9223372036854775807 := by decide
        have : ¬ ((s.size + s'.size : Nat) : Int) > IntKind.i64.max := by rw [h3]; omega
        simp only [binOp, Op.stringOp]
        rw [if_neg this]
        rfl
      · have := Rel.str (lk := lk) (σ := σ) (s ++ s')
        simpa using this
    · rw [if_neg hn] at h; cases h
  · obtain rfl := Option.some.inj h
    refine ⟨.bool (s.toList == s'.toList), by simp [binOp, Op.stringOp], ?_⟩
    rw [toList_eq, toList_eq, beq_dec]; exact .bool _
  · obtain rfl := Option.some.inj h
    refine ⟨.bool (!(s.toList == s'.toList)), by simp [binOp, Op.stringOp], ?_⟩
    rw [toList_eq, toList_eq, beq_dec]; exact .bool _
theorem bin_run {op : BinOp} {t : TypeId} {p q v : PV} {a b : Value} (h : binE op p q = some v) (hp : Rel lk σ p a) (hq : Rel lk σ q b) :
    ∃ u, (binOp op t a b).run P w = .ok u w ∧ Rel lk σ v u := by
  cases p with
  | int k m =>
    cases q with
    | int k' n =>
      cases hp; cases hq
      exact ⟨_, binInt_run h⟩
    | _ => simp [binE] at h
  | str l =>
    cases q with
    | str l' =>
      cases hp with | str s => cases hq with | str s' =>
      exact binStr_run h
    | _ => simp [binE] at h
  | _ => simp [binE] at h
end
end Go.Vs
