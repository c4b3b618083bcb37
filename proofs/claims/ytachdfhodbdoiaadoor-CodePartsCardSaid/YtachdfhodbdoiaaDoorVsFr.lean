/-
  Moving the store's boxes about: how pure values, boxes and stores are the same but for where the boxes lie. Under no condition.
-/
import Derived.Test.YtachdfhodbdoiaaDoorVsCl
namespace Go.Vs
open Go

/-- Names no box at all, however deep. -/
inductive Free : PV → Prop
  | undef : Free .undef
  | bool (b : Bool) : Free (.bool b)
  | int (k : IntKind) (n : Int) : Free (.int k n)
  | str (s : List UInt8) : Free (.str s)
  | nilp : Free .nilp
  | nilsl : Free .nilsl
  | nilif : Free .nilif
  | pf {cs : List PV} (h : ∀ c ∈ cs, Free c) : Free (.pf cs)
  | sl {es : List (List PV)} (h : ∀ e ∈ es, ∀ c ∈ e, Free c) : Free (.sl es)
  | fn {f : FuncId} {cs : List PV} (h : ∀ c ∈ cs, Free c) : Free (.fn f cs)
  | iface {t : TypeId} {v : PV} (h : Free v) : Free (.iface t v)
  | agg {cs : List PV} (h : ∀ c ∈ cs, Free c) : Free (.agg cs)
  | tup {cs : List PV} (h : ∀ c ∈ cs, Free c) : Free (.tup cs)

/-- The same, box i lying at ρ i. -/
inductive Sh (ρ : List Nat) : PV → PV → Prop
  | free {v : PV} (h : Free v) : Sh ρ v v
  | ptr {id id' g i off : Nat} (h : ρ[id]? = some id') : Sh ρ (.ptr id g i off) (.ptr id' g i off)
  | row {id id' g : Nat} (h : ρ[id]? = some id') : Sh ρ (.row id g) (.row id' g)
  | arr {id id' off n : Nat} (h : ρ[id]? = some id') : Sh ρ (.arr id off n) (.arr id' off n)
  | fn {f : FuncId} {cs ds : List PV} (hl : cs.length = ds.length) (h : ∀ (j : Nat) c d, cs[j]? = some c → ds[j]? = some d → Sh ρ c d) : Sh ρ (.fn f cs) (.fn f ds)
  | iface {t : TypeId} {v w : PV} (h : Sh ρ v w) : Sh ρ (.iface t v) (.iface t w)
  | agg {cs ds : List PV} (hl : cs.length = ds.length) (h : ∀ (j : Nat) c d, cs[j]? = some c → ds[j]? = some d → Sh ρ c d) : Sh ρ (.agg cs) (.agg ds)
  | tup {cs ds : List PV} (hl : cs.length = ds.length) (h : ∀ (j : Nat) c d, cs[j]? = some c → ds[j]? = some d → Sh ρ c d) : Sh ρ (.tup cs) (.tup ds)

def ShL (ρ : List Nat) (cs ds : List PV) : Prop := cs.length = ds.length ∧ ∀ (j : Nat) c d, cs[j]? = some c → ds[j]? = some d → Sh ρ c d
def EsR (ρ : List Nat) (es fs : List (List PV)) : Prop := es.length = fs.length ∧ ∀ (j : Nat) c d, es[j]? = some c → fs[j]? = some d → ShL ρ c d

section
variable {ρ ρ' : List Nat}

/-! ### lists -/
theorem ShL.nil : ShL ρ [] [] := ⟨rfl, fun j c d h => by simp at h⟩
theorem ShL.cons {c d : PV} {cs ds : List PV} (h : Sh ρ c d) (hl : ShL ρ cs ds) : ShL ρ (c :: cs) (d :: ds) := by
  refine ⟨by simp [hl.1], fun j x y hx hy => ?_⟩
  cases j with
  | zero =>
    simp only [List.getElem?_cons_zero, Option.some.injEq] at hx hy
    subst hx; subst hy; exact h
  | succ j => exact hl.2 j x y (by simpa using hx) (by simpa using hy)
theorem ShL.uncons {c : PV} {cs ds : List PV} (h : ShL ρ (c :: cs) ds) : ∃ d ds', ds = d :: ds' ∧ Sh ρ c d ∧ ShL ρ cs ds' := by
  cases ds with
  | nil => exact absurd h.1 (by simp)
  | cons d r => exact ⟨d, r, rfl, h.2 0 c d rfl rfl, by simpa using h.1, fun j x y hx hy => h.2 (j + 1) x y (by simpa using hx) (by simpa using hy)⟩
theorem ShL.nil_inv {ds : List PV} (h : ShL ρ [] ds) : ds = [] := List.eq_nil_of_length_eq_zero h.1.symm
theorem ShL.get {cs ds : List PV} (h : ShL ρ cs ds) {j : Nat} {c : PV} (hc : cs[j]? = some c) : ∃ d, ds[j]? = some d ∧ Sh ρ c d := by
  have hj : j < ds.length := by rw [← h.1]; exact (List.getElem?_eq_some_iff.1 hc).1
  exact ⟨ds[j], List.getElem?_eq_getElem hj, h.2 j c _ hc (List.getElem?_eq_getElem hj)⟩
theorem ShL.append {a b c d : List PV} (h : ShL ρ a b) (h' : ShL ρ c d) : ShL ρ (a ++ c) (b ++ d) := by
  induction a generalizing b with
  | nil => rw [h.nil_inv]; exact h'
  | cons x r ih =>
    obtain ⟨y, r', rfl, h1, h2⟩ := h.uncons
    exact .cons h1 (ih h2)
theorem ShL.take {a b : List PV} (h : ShL ρ a b) (n : Nat) : ShL ρ (a.take n) (b.take n) := by
  refine ⟨by simp [h.1], fun j c d hc hd => ?_⟩
  rw [List.getElem?_take] at hc hd
  split at hc
  · rename_i hj; rw [if_pos hj] at hd; exact h.2 j c d hc hd
  · cases hc
theorem ShL.drop {a b : List PV} (h : ShL ρ a b) (n : Nat) : ShL ρ (a.drop n) (b.drop n) := by
  refine ⟨by simp [h.1], fun j c d hc hd => ?_⟩
  rw [List.getElem?_drop] at hc hd
  exact h.2 _ c d hc hd
theorem ShL.set {a b : List PV} (h : ShL ρ a b) (n : Nat) {c d : PV} (hc : Sh ρ c d) : ShL ρ (a.set n c) (b.set n d) := by
  refine ⟨by simp [h.1], fun j x y hx hy => ?_⟩
  by_cases hj : n = j
  · subst hj
    have h1 : n < a.length := by have := (List.getElem?_eq_some_iff.1 hx).1; simpa using this
    rw [List.getElem?_set_self h1] at hx
    rw [List.getElem?_set_self (by rw [← h.1]; exact h1)] at hy
    obtain rfl := Option.some.inj hx
    obtain rfl := Option.some.inj hy
    exact hc
  · rw [List.getElem?_set_ne hj] at hx hy
    exact h.2 j x y hx hy
theorem EsR.nil : EsR ρ [] [] := ⟨rfl, fun j c d h => by simp at h⟩
theorem EsR.cons {c d : List PV} {cs ds : List (List PV)} (h : ShL ρ c d) (hl : EsR ρ cs ds) : EsR ρ (c :: cs) (d :: ds) := by
  refine ⟨by simp [hl.1], fun j x y hx hy => ?_⟩
  cases j with
  | zero =>
    simp only [List.getElem?_cons_zero, Option.some.injEq] at hx hy
    subst hx; subst hy; exact h
  | succ j => exact hl.2 j x y (by simpa using hx) (by simpa using hy)
theorem EsR.uncons {c : List PV} {cs ds : List (List PV)} (h : EsR ρ (c :: cs) ds) : ∃ d ds', ds = d :: ds' ∧ ShL ρ c d ∧ EsR ρ cs ds' := by
  cases ds with
  | nil => exact absurd h.1 (by simp)
  | cons d r => exact ⟨d, r, rfl, h.2 0 c d rfl rfl, by simpa using h.1, fun j x y hx hy => h.2 (j + 1) x y (by simpa using hx) (by simpa using hy)⟩
theorem EsR.nil_inv {ds : List (List PV)} (h : EsR ρ [] ds) : ds = [] := List.eq_nil_of_length_eq_zero h.1.symm
theorem EsR.get {cs ds : List (List PV)} (h : EsR ρ cs ds) {j : Nat} {c : List PV} (hc : cs[j]? = some c) : ∃ d, ds[j]? = some d ∧ ShL ρ c d := by
  have hj : j < ds.length := by rw [← h.1]; exact (List.getElem?_eq_some_iff.1 hc).1
  exact ⟨ds[j], List.getElem?_eq_getElem hj, h.2 j c _ hc (List.getElem?_eq_getElem hj)⟩
theorem EsR.append {a b c d : List (List PV)} (h : EsR ρ a b) (h' : EsR ρ c d) : EsR ρ (a ++ c) (b ++ d) := by
  induction a generalizing b with
  | nil => rw [h.nil_inv]; exact h'
  | cons x r ih =>
    obtain ⟨y, r', rfl, h1, h2⟩ := h.uncons
    exact .cons h1 (ih h2)
theorem EsR.set {a b : List (List PV)} (h : EsR ρ a b) (n : Nat) {c d : List PV} (hc : ShL ρ c d) : EsR ρ (a.set n c) (b.set n d) := by
  refine ⟨by simp [h.1], fun j x y hx hy => ?_⟩
  by_cases hj : n = j
  · subst hj
    have h1 : n < a.length := by have := (List.getElem?_eq_some_iff.1 hx).1; simpa using this
    rw [List.getElem?_set_self h1] at hx
    rw [List.getElem?_set_self (by rw [← h.1]; exact h1)] at hy
    obtain rfl := Option.some.inj hx
    obtain rfl := Option.some.inj hy
    exact hc
  · rw [List.getElem?_set_ne hj] at hx hy
    exact h.2 j x y hx hy
theorem EsR.take {a b : List (List PV)} (h : EsR ρ a b) (n : Nat) : EsR ρ (a.take n) (b.take n) := by
  refine ⟨by simp [h.1], fun j c d hc hd => ?_⟩
  rw [List.getElem?_take] at hc hd
  split at hc
  · rename_i hj; rw [if_pos hj] at hd; exact h.2 j c d hc hd
  · cases hc
theorem EsR.drop {a b : List (List PV)} (h : EsR ρ a b) (n : Nat) : EsR ρ (a.drop n) (b.drop n) := by
  refine ⟨by simp [h.1], fun j c d hc hd => ?_⟩
  rw [List.getElem?_drop] at hc hd
  exact h.2 _ c d hc hd

/-! ### free -/
theorem ShL.free {cs : List PV} (h : ∀ c ∈ cs, Free c) : ShL ρ cs cs := ⟨rfl, fun j c d hc hd => by
  rw [hc] at hd; obtain rfl := Option.some.inj hd; exact .free (h c (List.mem_of_getElem? hc))⟩
theorem EsR.free {es : List (List PV)} (h : ∀ e ∈ es, ∀ c ∈ e, Free c) : EsR ρ es es := ⟨rfl, fun j c d hc hd => by
  rw [hc] at hd; obtain rfl := Option.some.inj hd; exact .free (h c (List.mem_of_getElem? hc))⟩

/-! ### what it must be -/
theorem Sh.bool_inv {b : Bool} {v : PV} (h : Sh ρ (.bool b) v) : v = .bool b := by cases h; rfl
theorem Sh.int_inv {k : IntKind} {n : Int} {v : PV} (h : Sh ρ (.int k n) v) : v = .int k n := by cases h; rfl
theorem Sh.str_inv {s : List UInt8} {v : PV} (h : Sh ρ (.str s) v) : v = .str s := by cases h; rfl
theorem Sh.undef_inv {v : PV} (h : Sh ρ .undef v) : v = .undef := by cases h; rfl
theorem Sh.nilp_inv {v : PV} (h : Sh ρ .nilp v) : v = .nilp := by cases h; rfl
theorem Sh.nilsl_inv {v : PV} (h : Sh ρ .nilsl v) : v = .nilsl := by cases h; rfl
theorem Sh.nilif_inv {v : PV} (h : Sh ρ .nilif v) : v = .nilif := by cases h; rfl
theorem Sh.pf_inv {cs : List PV} {v : PV} (h : Sh ρ (.pf cs) v) : v = .pf cs ∧ ∀ c ∈ cs, Free c := by cases h with | free h => cases h with | pf h => exact ⟨rfl, h⟩
theorem Sh.sl_inv {es : List (List PV)} {v : PV} (h : Sh ρ (.sl es) v) : v = .sl es ∧ ∀ e ∈ es, ∀ c ∈ e, Free c := by cases h with | free h => cases h with | sl h => exact ⟨rfl, h⟩
theorem Sh.ptr_inv {id g i off : Nat} {v : PV} (h : Sh ρ (.ptr id g i off) v) : ∃ id', v = .ptr id' g i off ∧ ρ[id]? = some id' := by
  cases h with
  | free h => cases h
  | ptr h => exact ⟨_, rfl, h⟩
theorem Sh.row_inv {id g : Nat} {v : PV} (h : Sh ρ (.row id g) v) : ∃ id', v = .row id' g ∧ ρ[id]? = some id' := by
  cases h with
  | free h => cases h
  | row h => exact ⟨_, rfl, h⟩
theorem Sh.arr_inv {id off n : Nat} {v : PV} (h : Sh ρ (.arr id off n) v) : ∃ id', v = .arr id' off n ∧ ρ[id]? = some id' := by
  cases h with
  | free h => cases h
  | arr h => exact ⟨_, rfl, h⟩
theorem Sh.fn_inv {f : FuncId} {cs : List PV} {v : PV} (h : Sh ρ (.fn f cs) v) : ∃ ds, v = .fn f ds ∧ ShL ρ cs ds := by
  cases h with
  | free h => cases h with | fn h => exact ⟨_, rfl, ShL.free h⟩
  | fn hl h => exact ⟨_, rfl, hl, h⟩
theorem Sh.iface_inv {t : TypeId} {p : PV} {v : PV} (h : Sh ρ (.iface t p) v) : ∃ q, v = .iface t q ∧ Sh ρ p q := by
  cases h with
  | free h => cases h with | iface h => exact ⟨_, rfl, .free h⟩
  | iface h => exact ⟨_, rfl, h⟩
theorem Sh.agg_inv {cs : List PV} {v : PV} (h : Sh ρ (.agg cs) v) : ∃ ds, v = .agg ds ∧ ShL ρ cs ds := by
  cases h with
  | free h => cases h with | agg h => exact ⟨_, rfl, ShL.free h⟩
  | agg hl h => exact ⟨_, rfl, hl, h⟩
theorem Sh.tup_inv {cs : List PV} {v : PV} (h : Sh ρ (.tup cs) v) : ∃ ds, v = .tup ds ∧ ShL ρ cs ds := by
  cases h with
  | free h => cases h with | tup h => exact ⟨_, rfl, ShL.free h⟩
  | tup hl h => exact ⟨_, rfl, hl, h⟩
theorem Sh.mk_agg {cs ds : List PV} (h : ShL ρ cs ds) : Sh ρ (.agg cs) (.agg ds) := .agg h.1 h.2
theorem Sh.mk_tup {cs ds : List PV} (h : ShL ρ cs ds) : Sh ρ (.tup cs) (.tup ds) := .tup h.1 h.2
theorem Sh.mk_fn {f : FuncId} {cs ds : List PV} (h : ShL ρ cs ds) : Sh ρ (.fn f cs) (.fn f ds) := .fn h.1 h.2

theorem Sh.mono {v w : PV} (h : Sh ρ v w) (hp : ∀ (i x : Nat), ρ[i]? = some x → ρ'[i]? = some x) : Sh ρ' v w := by
  induction h with
  | free h => exact .free h
  | ptr h => exact .ptr (hp _ _ h)
  | row h => exact .row (hp _ _ h)
  | arr h => exact .arr (hp _ _ h)
  | fn hl _ ih => exact .fn hl ih
  | iface _ ih => exact .iface ih
  | agg hl _ ih => exact .agg hl ih
  | tup hl _ ih => exact .tup hl ih
theorem ShL.mono {v w : List PV} (h : ShL ρ v w) (hp : ∀ (i x : Nat), ρ[i]? = some x → ρ'[i]? = some x) : ShL ρ' v w := ⟨h.1, fun j c d hc hd => (h.2 j c d hc hd).mono hp⟩
theorem EsR.mono {v w : List (List PV)} (h : EsR ρ v w) (hp : ∀ (i x : Nat), ρ[i]? = some x → ρ'[i]? = some x) : EsR ρ' v w := ⟨h.1, fun j c d hc hd => (h.2 j c d hc hd).mono hp⟩

theorem list_ext2 {cs ds ds' : List PV} (h1 : cs.length = ds.length) (h2 : cs.length = ds'.length) (h : ∀ (j : Nat) c d d', cs[j]? = some c → ds[j]? = some d → ds'[j]? = some d' → d = d') : ds = ds' := by
  apply List.ext_getElem (by omega)
  intro j hj hj'
  exact h j _ _ _ (List.getElem?_eq_getElem (by omega)) (List.getElem?_eq_getElem hj) (List.getElem?_eq_getElem hj')
theorem Sh.of_free {v w : PV} (h : Sh ρ v w) : Free v → w = v := by
  induction h with
  | free _ => exact fun _ => rfl
  | ptr _ => exact fun hf => by cases hf
  | row _ => exact fun hf => by cases hf
  | arr _ => exact fun hf => by cases hf
  | fn hl _ ih => exact fun hf => by cases hf with | fn hf => rw [list_ext2 hl rfl (fun j c d d' hc hd hd' => by rw [hc] at hd'; cases hd'; exact ih j c d hc hd (hf c (List.mem_of_getElem? hc)))]
  | iface _ ih => exact fun hf => by cases hf with | iface hf => rw [ih hf]
  | agg hl _ ih => exact fun hf => by cases hf with | agg hf => rw [list_ext2 hl rfl (fun j c d d' hc hd hd' => by rw [hc] at hd'; cases hd'; exact ih j c d hc hd (hf c (List.mem_of_getElem? hc)))]
  | tup hl _ ih => exact fun hf => by cases hf with | tup hf => rw [list_ext2 hl rfl (fun j c d d' hc hd hd' => by rw [hc] at hd'; cases hd'; exact ih j c d hc hd (hf c (List.mem_of_getElem? hc)))]
theorem Sh.of_free_r {v w : PV} (h : Sh ρ v w) : Free w → v = w := by
  induction h with
  | free _ => exact fun _ => rfl
  | ptr _ => exact fun hf => by cases hf
  | row _ => exact fun hf => by cases hf
  | arr _ => exact fun hf => by cases hf
  | fn hl _ ih => exact fun hf => by cases hf with | fn hf => rw [list_ext2 hl.symm rfl (fun j c d d' hc hd hd' => by rw [hc] at hd'; cases hd'; exact ih j d c hd hc (hf c (List.mem_of_getElem? hc)))]
  | iface _ ih => exact fun hf => by cases hf with | iface hf => rw [ih hf]
  | agg hl _ ih => exact fun hf => by cases hf with | agg hf => rw [list_ext2 hl.symm rfl (fun j c d d' hc hd hd' => by rw [hc] at hd'; cases hd'; exact ih j d c hd hc (hf c (List.mem_of_getElem? hc)))]
  | tup hl _ ih => exact fun hf => by cases hf with | tup hf => rw [list_ext2 hl.symm rfl (fun j c d d' hc hd hd' => by rw [hc] at hd'; cases hd'; exact ih j d c hd hc (hf c (List.mem_of_getElem? hc)))]
/-- It is one alone. -/
theorem Sh.func {v w : PV} (h : Sh ρ v w) : ∀ {u : PV}, Sh ρ v u → w = u := by
  induction h with
  | free h => intro u hu; exact (hu.of_free h).symm
  | ptr h => intro u hu; obtain ⟨x, rfl, hx⟩ := hu.ptr_inv; rw [h] at hx; cases hx; rfl
  | row h => intro u hu; obtain ⟨x, rfl, hx⟩ := hu.row_inv; rw [h] at hx; cases hx; rfl
  | arr h => intro u hu; obtain ⟨x, rfl, hx⟩ := hu.arr_inv; rw [h] at hx; cases hx; rfl
  | fn hl _ ih => intro u hu; obtain ⟨x, rfl, hx⟩ := hu.fn_inv; rw [list_ext2 hl hx.1 (fun j c d d' hc hd hd' => ih j c d hc hd (hx.2 j c d' hc hd'))]
  | iface _ ih => intro u hu; obtain ⟨x, rfl, hx⟩ := hu.iface_inv; rw [ih hx]
  | agg hl _ ih => intro u hu; obtain ⟨x, rfl, hx⟩ := hu.agg_inv; rw [list_ext2 hl hx.1 (fun j c d d' hc hd hd' => ih j c d hc hd (hx.2 j c d' hc hd'))]
  | tup hl _ ih => intro u hu; obtain ⟨x, rfl, hx⟩ := hu.tup_inv; rw [list_ext2 hl hx.1 (fun j c d d' hc hd hd' => ih j c d hc hd (hx.2 j c d' hc hd'))]
theorem ShL.func {cs ds ds' : List PV} (h : ShL ρ cs ds) (h' : ShL ρ cs ds') : ds = ds' := list_ext2 h.1 h'.1 (fun j c d d' hc hd hd' => (h.2 j c d hc hd).func (h'.2 j c d' hc hd'))
theorem EsR.func {cs ds ds' : List (List PV)} (h : EsR ρ cs ds) (h' : EsR ρ cs ds') : ds = ds' := by
  apply List.ext_getElem (by rw [← h.1, h'.1])
  intro j hj hj'
  have hc : cs[j]? = some (cs[j]'(by rw [h.1]; exact hj)) := List.getElem?_eq_getElem _
  exact (h.2 j _ _ hc (List.getElem?_eq_getElem hj)).func (h'.2 j _ _ hc (List.getElem?_eq_getElem hj'))
def Inj (ρ : List Nat) : Prop := ∀ (i j x : Nat), ρ[i]? = some x → ρ[j]? = some x → i = j
theorem Sh.inj (hi : Inj ρ) {v w : PV} (h : Sh ρ v w) : ∀ {u : PV}, Sh ρ u w → v = u := by
  induction h with
  | free h => intro u hu; exact (hu.of_free_r h).symm
  | ptr h => intro u hu; cases hu with
    | free h => cases h
    | ptr h' => rw [hi _ _ _ h h']
  | row h => intro u hu; cases hu with
    | free h => cases h
    | row h' => rw [hi _ _ _ h h']
  | arr h => intro u hu; cases hu with
    | free h => cases h
    | arr h' => rw [hi _ _ _ h h']
  | fn hl h ih => intro u hu; cases hu with
    | free hf => exact (Sh.mk_fn ⟨hl, h⟩).of_free_r hf
    | fn hl' h' => rw [list_ext2 hl.symm hl'.symm (fun j c d d' hc hd hd' => ih j d c hd hc (h' j d' c hd' hc))]
  | iface h ih => intro u hu; cases hu with
    | free hf => exact (Sh.iface h).of_free_r hf
    | iface h' => rw [ih h']
  | agg hl h ih => intro u hu; cases hu with
    | free hf => exact (Sh.mk_agg ⟨hl, h⟩).of_free_r hf
    | agg hl' h' => rw [list_ext2 hl.symm hl'.symm (fun j c d d' hc hd hd' => ih j d c hd hc (h' j d' c hd' hc))]
  | tup hl h ih => intro u hu; cases hu with
    | free hf => exact (Sh.mk_tup ⟨hl, h⟩).of_free_r hf
    | tup hl' h' => rw [list_ext2 hl.symm hl'.symm (fun j c d d' hc hd hd' => ih j d c hd hc (h' j d' c hd' hc))]
theorem ShL.inj (hi : Inj ρ) {cs cs' ds : List PV} (h : ShL ρ cs ds) (h' : ShL ρ cs' ds) : cs = cs' := list_ext2 h.1.symm h'.1.symm (fun j c d d' hc hd hd' => (h.2 j d c hd hc).inj hi (h'.2 j d' c hd' hc))
theorem EsR.inj (hi : Inj ρ) {cs cs' ds : List (List PV)} (h : EsR ρ cs ds) (h' : EsR ρ cs' ds) : cs = cs' := by
  apply List.ext_getElem (by rw [h.1, h'.1])
  intro j hj hj'
  have hc : ds[j]? = some (ds[j]'(by rw [← h.1]; exact hj)) := List.getElem?_eq_getElem _
  exact (h.2 j _ _ (List.getElem?_eq_getElem hj) hc).inj hi (h'.2 j _ _ (List.getElem?_eq_getElem hj') hc)

/-! ### what does not hang on where -/
theorem Sh.oneP {v w : PV} (h : Sh ρ v w) : oneP w = oneP v := by cases h <;> rfl
theorem Sh.isUndef {v w : PV} (h : Sh ρ v w) : w.isUndef = v.isUndef := by cases h <;> rfl
theorem ShL.all {cs ds : List PV} (h : ShL ρ cs ds) {p q : PV → Bool} (hp : ∀ c d, Sh ρ c d → q d = p c) : ds.all q = cs.all p := by
  induction cs generalizing ds with
  | nil => rw [h.nil_inv]; rfl
  | cons c r ih => obtain ⟨d, ds', rfl, h1, h2⟩ := h.uncons; simp only [List.all_cons, ih h2, hp c d h1]
theorem EsR.all {cs ds : List (List PV)} (h : EsR ρ cs ds) {p q : List PV → Bool} (hp : ∀ c d, ShL ρ c d → q d = p c) : ds.all q = cs.all p := by
  induction cs generalizing ds with
  | nil => rw [h.nil_inv]; rfl
  | cons c r ih => obtain ⟨d, ds', rfl, h1, h2⟩ := h.uncons; simp only [List.all_cons, ih h2, hp c d h1]
theorem Sh.cellsOf {v w : PV} (h : Sh ρ v w) : ShL ρ (cellsOf v) (cellsOf w) := by
  cases h with
  | agg hl h => exact ⟨hl, h⟩
  | free h => cases h with
    | agg h => exact ShL.free h
    | undef => exact .cons (.free .undef) .nil
    | bool b => exact .cons (.free (.bool b)) .nil
    | int k n => exact .cons (.free (.int k n)) .nil
    | str s => exact .cons (.free (.str s)) .nil
    | nilp => exact .cons (.free .nilp) .nil
    | nilsl => exact .cons (.free .nilsl) .nil
    | nilif => exact .cons (.free .nilif) .nil
    | pf h => exact .cons (.free (.pf h)) .nil
    | sl h => exact .cons (.free (.sl h)) .nil
    | fn h => exact .cons (.free (.fn h)) .nil
    | iface h => exact .cons (.free (.iface h)) .nil
    | tup h => exact .cons (.free (.tup h)) .nil
  | ptr h => exact .cons (.ptr h) .nil
  | row h => exact .cons (.row h) .nil
  | arr h => exact .cons (.arr h) .nil
  | fn hl h => exact .cons (.fn hl h) .nil
  | iface h => exact .cons (.iface h) .nil
  | tup hl h => exact .cons (.tup hl h) .nil
/-- Where the first m boxes lie below m', and no others. -/
def Low (ρ : List Nat) (m m' : Nat) : Prop := ∀ (i x : Nat), ρ[i]? = some x → (i < m ↔ x < m')
theorem Low.zero : Low ρ 0 0 := fun i x _ => by omega
theorem Free.ref0 {n m : Nat} {v : PV} (h : Free v) : Vs.ref0 n v = Vs.ref0 m v := by cases h <;> rfl
theorem Sh.ref0 {m m' : Nat} (hm : Low ρ m m') {v w : PV} (h : Sh ρ v w) : ref0 m' w = ref0 m v := by
  cases h with
  | free h => exact h.ref0
  | ptr h => simp only [Vs.ref0, hm _ _ h]
  | row h => simp only [Vs.ref0, hm _ _ h]
  | arr h => simp only [Vs.ref0, hm _ _ h]
  | fn hl h => simp only [Vs.ref0]; rw [Bool.eq_iff_iff]; simp only [List.isEmpty_iff, ← List.length_eq_zero_iff, hl]
  | iface h => rfl
  | agg hl h => rfl
  | tup hl h => rfl
theorem Sh.ref1 {m m' : Nat} (hm : Low ρ m m') {v w : PV} (h : Sh ρ v w) : ref1 m' w = ref1 m v := by
  cases h with
  | free h => cases h with
    | fn h => simp only [Vs.ref1]; exact (ShL.free h).all (fun c d hs => hs.ref0 hm)
    | iface h => simp only [Vs.ref1]; exact (Sh.free h).ref0 hm
    | _ => rfl
  | fn hl h => simp only [Vs.ref1]; exact ShL.all ⟨hl, h⟩ (fun c d hs => hs.ref0 hm)
  | iface h => simp only [Vs.ref1]; exact h.ref0 hm
  | ptr h => simp only [Vs.ref1, Vs.ref0, hm _ _ h]
  | row h => simp only [Vs.ref1, Vs.ref0, hm _ _ h]
  | arr h => simp only [Vs.ref1, Vs.ref0, hm _ _ h]
  | agg hl h => rfl
  | tup hl h => rfl
theorem Sh.ref2 {m m' : Nat} (hm : Low ρ m m') {v w : PV} (h : Sh ρ v w) : ref2 m' w = ref2 m v := by
  cases v with
  | agg cs => obtain ⟨ds, rfl, h1⟩ := h.agg_inv; simp only [Vs.ref2]; exact h1.all (fun c d hs => hs.ref1 hm)
  | _ => have := h.ref1 hm; cases h <;> exact this
theorem Sh.ref3 {m m' : Nat} (hm : Low ρ m m') {v w : PV} (h : Sh ρ v w) : ref3 m' w = ref3 m v := by
  cases v with
  | tup cs => obtain ⟨ds, rfl, h1⟩ := h.tup_inv; simp only [Vs.ref3]; exact h1.all (fun c d hs => hs.ref2 hm)
  | _ => have := h.ref2 hm; cases h <;> exact this
/-- What names nothing is moved to itself, and is free. -/
theorem Sh.ref1_free {v w : PV} (h : Sh ρ v w) (hr : Vs.ref1 0 v = true) : Free v := by
  have r0 : ∀ {v w : PV}, Sh ρ v w → Vs.ref0 0 v = true → Free v := by
    intro v w h hr
    cases h with
    | free h => exact h
    | ptr h => simp [Vs.ref0] at hr
    | row h => simp [Vs.ref0] at hr
    | arr h => simp [Vs.ref0] at hr
    | fn hl h => exact .fn (fun c hc => by simp only [Vs.ref0, List.isEmpty_iff] at hr; rw [hr] at hc; simp at hc)
    | iface h => simp [Vs.ref0] at hr
    | agg hl h => simp [Vs.ref0] at hr
    | tup hl h => simp [Vs.ref0] at hr
  cases h with
  | free h => exact h
  | ptr h => simp [Vs.ref1, Vs.ref0] at hr
  | row h => simp [Vs.ref1, Vs.ref0] at hr
  | arr h => simp [Vs.ref1, Vs.ref0] at hr
  | @fn _ cs ds hl h =>
    refine .fn (fun c hc => ?_)
    obtain ⟨j, hj⟩ := List.getElem?_of_mem hc
    obtain ⟨d, _, hs⟩ := ShL.get (ds := ds) ⟨hl, h⟩ hj
    exact r0 hs (List.all_eq_true.1 hr c hc)
  | iface h => exact .iface (r0 h hr)
  | agg hl h => simp [Vs.ref1, Vs.ref0] at hr
  | tup hl h => simp [Vs.ref1, Vs.ref0] at hr
theorem EsR.ref1_free {es fs : List (List PV)} (h : EsR ρ es fs) (hr : (es.all fun e => e.all (Vs.ref1 0)) = true) : ∀ e ∈ es, ∀ c ∈ e, Free c := fun e he c hc => by
  obtain ⟨i, hi⟩ := List.getElem?_of_mem he
  obtain ⟨f, _, hf⟩ := h.get hi
  obtain ⟨j, hj⟩ := List.getElem?_of_mem hc
  obtain ⟨d, _, hs⟩ := hf.get hj
  exact hs.ref1_free (List.all_eq_true.1 (List.all_eq_true.1 hr e he) c hc)
theorem EsR.same {es fs : List (List PV)} (h : EsR ρ es fs) (hf : ∀ e ∈ es, ∀ c ∈ e, Free c) : fs = es := h.func (EsR.free hf)
end

/-! ### stores -/
structure BR (ρ : List Nat) (B B' : Box) : Prop where
  es : EsR ρ B.es B'.es
  isRow : B'.isRow = B.isRow
  size : B'.size = B.size
  e : B'.e = B.e
  lk : B'.lk = B.lk
  fz : B'.fz = B.fz
structure SR (ρ : List Nat) (st big : Store) : Prop where
  len : ρ.length = st.length
  inj : Inj ρ
  box : ∀ (i x : Nat), ρ[i]? = some x → ∃ B B' : Box, st[i]? = some B ∧ big[x]? = some B' ∧ BR ρ B B'
structure Grow (ρ : List Nat) (big : Store) (ρ' : List Nat) (big' : Store) : Prop where
  pre : ∀ (i x : Nat), ρ[i]? = some x → ρ'[i]? = some x
  len : big.length ≤ big'.length
  new : ∀ (i x : Nat), ρ'[i]? = some x → ρ.length ≤ i → big.length ≤ x
  frame : ∀ x, x < big.length → (∀ i : Nat, ρ[i]? ≠ some x) → big'[x]? = big[x]?
  seq : ∃ m, ρ' = ρ ++ List.range' big.length m ∧ big'.length = big.length + m

section
variable {ρ ρ' ρ'' : List Nat} {st st' big big' big'' : Store} {s s' : Slots} {v w : PV}
theorem Grow.refl : Grow ρ big ρ big := ⟨fun _ _ h => h, Nat.le_refl _, fun i x h hi => by have := (List.getElem?_eq_some_iff.1 h).1; omega, fun _ _ _ => rfl, 0, by simp, rfl⟩
theorem Grow.trans (h : Grow ρ big ρ' big') (h' : Grow ρ' big' ρ'' big'') : Grow ρ big ρ'' big'' := by
  refine ⟨fun i x hx => h'.pre i x (h.pre i x hx), Nat.le_trans h.len h'.len, fun i x hx hi => ?_, fun x hx hn => ?_, ?_⟩
  · by_cases hi' : i < ρ'.length
    · have h1 : ρ'[i]? = some ρ'[i] := List.getElem?_eq_getElem hi'
      have h2 := h'.pre i _ h1
      rw [h2] at hx
      exact h.new i x (by rw [h1, hx]) hi
    · exact Nat.le_trans h.len (h'.new i x hx (by omega))
  · rw [h'.frame x (Nat.lt_of_lt_of_le hx h.len) (fun i hi => ?_), h.frame x hx hn]
    by_cases hl : i < ρ.length
    · have h1 : ρ[i]? = some ρ[i] := List.getElem?_eq_getElem hl
      have h2 := h.pre i _ h1
      rw [h2] at hi
      exact hn i (by rw [h1, hi])
    · exact absurd (h.new i x hi (by omega)) (by omega)
  · obtain ⟨m, h1, h2⟩ := h.seq
    obtain ⟨m', h3, h4⟩ := h'.seq
    refine ⟨m + m', ?_, by omega⟩
    rw [h3, h1, h2, List.append_assoc]
    have := List.range'_append (s := big.length) (m := m) (n := m') (step := 1)
    simp only [Nat.one_mul] at this
    rw [this]

def SlotR (ρ : List Nat) (s s' : Slots) : Prop := ∀ k, Sh ρ (s k) (s' k)
theorem SlotR.mono (h : SlotR ρ s s') (he : Grow ρ big ρ' big') : SlotR ρ' s s' := fun k => (h k).mono he.pre
theorem SlotR.upd (h : SlotR ρ s s') {d : Option Nat} (hv : Sh ρ v w) : SlotR ρ (updO s d v) (updO s' d w) := by
  intro k
  cases d with
  | none => exact h k
  | some d =>
    simp only [updO, Vs.upd]
    by_cases hk : k = d
    · rw [if_pos hk, if_pos hk]; exact hv
    · rw [if_neg hk, if_neg hk]; exact h k
theorem BR.mono {B B' : Box} (h : BR ρ B B') (hp : ∀ (i x : Nat), ρ[i]? = some x → ρ'[i]? = some x) : BR ρ' B B' := ⟨h.es.mono hp, h.isRow, h.size, h.e, h.lk, h.fz⟩
theorem BR.gen {B B' : Box} (h : BR ρ B B') : B'.gen = B.gen := by simp only [Box.gen, h.isRow, h.es.1]

theorem SR.lt (h : SR ρ st big) {i x : Nat} (hx : ρ[i]? = some x) : x < big.length := by
  obtain ⟨_, B', _, h2, _⟩ := h.box i x hx
  exact (List.getElem?_eq_some_iff.1 h2).1
theorem SR.at (h : SR ρ st big) {i x : Nat} (hx : ρ[i]? = some x) {B : Box} (hB : st[i]? = some B) : ∃ B', big[x]? = some B' ∧ BR ρ B B' := by
  obtain ⟨B0, B', h1, h2, h3⟩ := h.box i x hx
  rw [hB] at h1; cases h1
  exact ⟨B', h2, h3⟩
/-- One box more. -/
theorem SR.alloc (h : SR ρ st big) {B B' : Box} (hb : BR ρ B B') : SR (ρ ++ [big.length]) (st ++ [B]) (big ++ [B']) ∧ Grow ρ big (ρ ++ [big.length]) (big ++ [B']) ∧ (ρ ++ [big.length])[st.length]? = some big.length := by
  have hpre : ∀ (i x : Nat), ρ[i]? = some x → (ρ ++ [big.length])[i]? = some x := fun i x hx => by rw [List.getElem?_append_left (List.getElem?_eq_some_iff.1 hx).1]; exact hx
  have hinv : ∀ (i x : Nat), (ρ ++ [big.length])[i]? = some x → ρ[i]? = some x ∨ (i = ρ.length ∧ x = big.length) := fun i x hx => by
    by_cases hi : i < ρ.length
    · rw [List.getElem?_append_left hi] at hx; exact .inl hx
    · rw [List.getElem?_append_right (by omega)] at hx
      have h1 : i - ρ.length = 0 := by have := (List.getElem?_eq_some_iff.1 hx).1; simp at this; omega
      rw [h1] at hx
      simp at hx
      exact .inr ⟨by omega, hx.symm⟩
  refine ⟨⟨by simp [h.len], fun i j x hi hj => ?_, fun i x hx => ?_⟩, ⟨hpre, by simp, fun i x hx hi => ?_, fun x hx _ => by rw [List.getElem?_append_left hx], 1, by simp [List.range'], by simp⟩, by rw [List.getElem?_append_right (by rw [h.len]; exact Nat.le_refl _), h.len]; simp⟩
  · rcases hinv i x hi with h1 | ⟨h1, h2⟩ <;> rcases hinv j x hj with h3 | ⟨h3, h4⟩
    · exact h.inj i j x h1 h3
    · have := h.lt h1; omega
    · have := h.lt h3; omega
    · omega
  · rcases hinv i x hx with h1 | ⟨h1, h2⟩
    · obtain ⟨C, C', c1, c2, c3⟩ := h.box i x h1
      exact ⟨C, C', by rw [List.getElem?_append_left (List.getElem?_eq_some_iff.1 c1).1]; exact c1, by rw [List.getElem?_append_left (List.getElem?_eq_some_iff.1 c2).1]; exact c2, c3.mono hpre⟩
    · subst h1; subst h2
      exact ⟨B, B', by rw [h.len]; simp, by simp, hb.mono hpre⟩
  · rcases hinv i x hx with h1 | ⟨_, h2⟩
    · have := (List.getElem?_eq_some_iff.1 h1).1; omega
    · omega
/-- A box changed. -/
theorem SR.set (h : SR ρ st big) {i x : Nat} (hx : ρ[i]? = some x) {B B' : Box} (hb : BR ρ B B') : SR ρ (st.set i B) (big.set x B') ∧ Grow ρ big ρ (big.set x B') := by
  refine ⟨⟨by simp [h.len], h.inj, fun j y hy => ?_⟩, ⟨fun _ _ h => h, by simp, fun j y hy hj => by have := (List.getElem?_eq_some_iff.1 hy).1; omega, fun y hy hn => by rw [List.getElem?_set_ne (fun e => hn i (by rw [hx, e]))], 0, by simp, by simp⟩⟩
  have hi : i < st.length := by rw [← h.len]; exact (List.getElem?_eq_some_iff.1 hx).1
  by_cases hj : i = j
  · subst hj
    rw [hx] at hy; cases hy
    exact ⟨B, B', List.getElem?_set_self hi, List.getElem?_set_self (h.lt hx), hb⟩
  · obtain ⟨C, C', c1, c2, c3⟩ := h.box j y hy
    have hxy : x ≠ y := fun e => hj (h.inj i j x hx (by rw [e]; exact hy))
    exact ⟨C, C', by rw [List.getElem?_set_ne hj]; exact c1, by rw [List.getElem?_set_ne hxy]; exact c2, c3⟩
end
end Go.Vs
