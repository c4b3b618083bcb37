/-
  How a law's row is closed: the law's function answers true and leaves what stood. Under no condition.
-/
import Derived.Test.YtachdfhodbdoiaaDoorVsW
namespace Go.Vs
open Go Go.ChangeShapes Go.RowKit
section
variable {P : Program} {H : Type} {enc : TypeId × Value → H} {prog : FuncId → Option CFunc} {gl : Nat → List PV}

/-- The pure values of a parameter's type. -/
def ArgTy (P : Program) (t : TypeId) (p : PV) : Prop :=
  match P.underlying t with
  | some (.struct _) | some (.array _ _) => ∃ n ps, p = .agg ps ∧ Ty P n t ps
  | _ => ∃ n, Ty P n t [p]
def ArgsTy (P : Program) : List TypeId → List PV → Prop
  | [], [] => True
  | t :: ts, p :: ps => ArgTy P t p ∧ ArgsTy P ts ps
  | _, _ => False

theorem okWide_agg {w : World} {r : Reach} {base : Nat} {t : TypeId} {cs : Array Value} (h : Cell.okWide P w r base t (.agg cs)) : False := by
  unfold Cell.okWide at h
  split at h <;> simp_all [Cell.ok]

theorem cells_one {v : Value} (h : ∀ cs, v ≠ .agg cs) : v.cells.toList = [v] := by
  cases v with
  | agg cs => exact absurd rfl (h cs)
  | _ => rfl

theorem arg_rel {w : World} {base b0 : Nat} {sp : Nat → Bool} {held : Bool} {T : TypeId → Prop} (K : Kids P T) {t : TypeId} {v : Value} {d : DataW H} {ps : List MemPlace} (hT : T t) (hv : Value.okWide P w .any b0 t v) (h : DataW.Trod enc P w base sp held t v d ps) :
    ∃ p, Rel (lkOf w) sig0 p v ∧ ArgTy P t p := by
  obtain ⟨n, hn⟩ := h
  obtain ⟨qs, h1, h2⟩ := trod_rel K n t _ _ hT hn
  have agg : (∃ cs, v = .agg cs) → ∃ p, Rel (lkOf w) sig0 p v ∧ p = .agg qs := by
    rintro ⟨cs, rfl⟩
    refine ⟨.agg qs, ?_, rfl⟩
    have h3 : RelL (lkOf w) sig0 qs cs.toList := h1
    have := Rel.mk_agg h3
    simpa using this
  have cell : Cell.okWide P w .any b0 t v → ∃ p, Rel (lkOf w) sig0 p v ∧ qs = [p] := by
    intro hc
    have hne : ∀ cs, v ≠ .agg cs := fun cs e => by subst e; exact okWide_agg hc
    rw [cells_one hne] at h1
    match qs, h1 with
    | [p], h1 => exact ⟨p, h1.2 0 p v rfl rfl, rfl⟩
    | [], h1 => exact absurd h1.1 (by simp)
    | _ :: _ :: _, h1 => exact absurd h1.1 (by simp)
  unfold Value.okWide at hv
  unfold ArgTy
  split at hv
  · rename_i fs hu
    obtain ⟨p, h3, h4⟩ := agg (by obtain ⟨cs, e, _⟩ := hv; exact ⟨cs, e⟩)
    rw [hu]
    exact ⟨p, h3, n, qs, h4, h2⟩
  · rename_i m e hu
    obtain ⟨p, h3, h4⟩ := agg (by obtain ⟨cs, e, _⟩ := hv; exact ⟨cs, e⟩)
    rw [hu]
    exact ⟨p, h3, n, qs, h4, h2⟩
  · rename_i hn1 hn2
    obtain ⟨p, h3, h4⟩ := cell hv
    subst h4
    refine ⟨p, h3, ?_⟩
    split
    · rename_i fs hu; exact absurd hu (hn1 fs)
    · rename_i m e hu; exact absurd hu (hn2 m e)
    · exact ⟨n, h2⟩

theorem args_rel {w : World} {b0 : Nat} {sp : Nat → Bool} {held : Bool} (hl : laidOutB P = true) : ∀ {ts : List TypeId} {vs : List Value} {ds : List (DataW H)} {ps : List MemPlace} (_ : ∀ t ∈ ts, t < P.types.size ∧ P.readableRec t = true)
    (_ : ∀ (j : Nat) t v, ts[j]? = some t → vs[j]? = some v → Value.okWide P w .any b0 t v) (_ : DataW.TrodAll enc P w 0 sp held ts vs ds ps), ∃ pvs, RelL (lkOf w) sig0 pvs vs ∧ ArgsTy P ts pvs
  | [], [], [], _, _, _, _ => ⟨[], RelL.nil, trivial⟩
  | t :: ts, v :: vs, d :: ds, _, ht, hv, h => by
    obtain ⟨p, q, h1, h2, _⟩ := h
    obtain ⟨pv, h3, h4⟩ := arg_rel (kids_book hl (ht t List.mem_cons_self).2) ⟨(ht t List.mem_cons_self).1, book_self t⟩ (hv 0 t v rfl rfl) h1
    obtain ⟨pvs, h5, h6⟩ := args_rel hl (fun t' h => ht t' (List.mem_cons_of_mem _ h)) (fun j t' v' a b => hv (j + 1) t' v' (by simpa using a) (by simpa using b)) h2
    exact ⟨pv :: pvs, .cons h3 h5, h4, h6⟩

/-- A law's function, run. -/
theorem law_run (hP : ∀ f cf, prog f = some cf → FnOk P f cf) {f : FuncId} {cf : CFunc} (hf : prog f = some cf) (hx : cf.ext = none) {W : World} {args : Array Value} {pvs : List PV} (hr : RelL (lkOf W) sig0 pvs args.toList) (hg : GlobOk (lkOf W) gl)
    {r : Res} (he : EE prog gl (.call f pvs []) = some r) (hv : r.val = .bool true) : Calls P f args W fun e W' => e = .returned (.bool true) ∧ Below W.heap.size W W' := by
  have hS : Sim W.heap.size (lkOf W) sig0 [] W := by
    refine ⟨fun id g L h => (by cases h), fun id g L B h => (by cases h), fun id g L B h => (by cases h), fun id B L h => (by simp at h), fun id id' B B' L L' h => (by simp at h), fun a v h => ?_, Nat.le_refl _⟩
    unfold lkOf at h
    by_cases hs : a.spot = none
    · rw [if_pos hs] at h; exact ⟨hs, h⟩
    · rw [if_neg hs] at h; cases h
  have hc := EE_sound (B0 := W.heap.size) (P := P) hP f pvs [] r he (lkOf W) sig0 W args hr hS hg
  obtain ⟨fn, code, q1, q2, q3, _⟩ := (hP f cf hf).own hx
  have henter : (callFunc f args).run P W = .ok (.enter f args) W := by
    simp only [callFunc, Sem.run_bind, run_program, Result.andThen_ok, q1, q2, q3, Option.isNone_some, Bool.false_eq_true, if_false, Sem.run_pure]
  rcases hc with ⟨_, hc⟩ | ⟨v, w', hc, _⟩
  · refine hc.mono fun e W' he => ?_
    obtain ⟨v, rfl, lk', σ', hrel, hS', hst⟩ := he
    rw [hv] at hrel
    cases hrel
    exact ⟨rfl, hst.os, hst.tape, hst.output, hst.size, fun k hk => hst.frame k hk (by rintro ⟨id, B, L, hB, _⟩; simp at hB)⟩
  · rw [henter] at hc; cases hc

theorem below_kept {W W' : World} (h : Below W.heap.size W W') (may : MemPlace → Prop) : W.keptBut W' may := by
  refine ⟨h.os, h.output, fun i hi => ?_⟩
  rw [h.block i hi]
  cases W.heap[i]? with
  | none => rfl
  | some o => cases o with
    | cells c t fr => exact ⟨rfl, rfl, rfl, fun _ _ => rfl⟩
    | map es clock => exact .inr ⟨rfl, rfl⟩
    | _ => rfl

theorem trodAll_below {W W' : World} (hl : laidOutB P = true) (hb : Below W.heap.size W W') : ∀ {ts : List TypeId} {vs : List Value} {ds : List (DataW H)} {ps : List MemPlace} (_ : ∀ t ∈ ts, t < P.types.size ∧ P.readableRec t = true)
    (_ : DataW.TrodAll enc P W 0 (fun _ => true) true ts vs ds ps) (_ : ∀ x ∈ ps, x.block < W.heap.size), DataW.TrodAll enc P W' 0 (fun b => decide (b < W.heap.size)) true ts vs ds ps
  | [], [], [], _, _, h, _ => h
  | t :: ts, v :: vs, d :: ds, ps, ht, h, hlt => by
    obtain ⟨p, q, h1, h2, rfl⟩ := h
    exact ⟨p, q, Below.trod hl (ht t List.mem_cons_self).2 (ht t List.mem_cons_self).1 h1 hb (fun x hx => hlt x (List.mem_append_left _ hx)),
      trodAll_below hl hb (fun t' h => ht t' (List.mem_cons_of_mem _ h)) h2 (fun x hx => hlt x (List.mem_append_right _ hx)), rfl⟩

theorem trodAll_len {w : World} {sp : Nat → Bool} {held : Bool} {base : Nat} : ∀ {ts : List TypeId} {vs : List Value} {ds : List (DataW H)} {ps : List MemPlace}, DataW.TrodAll enc P w base sp held ts vs ds ps → ds.length = ts.length
  | [], [], [], _, _ => rfl
  | _ :: _, _ :: _, _ :: _, _, ⟨_, _, _, h, _⟩ => by simp [trodAll_len h]

/-- The law's post: true, and every argument reads as it read. -/
theorem post_true {fn : Func} {s : ChangeSpec} {apart : Bool} {W W' : World} {args : Array Value} {ds gs : List (DataW H)} {before : List MemPlace} {tb : TypeId} (hl : laidOutB P = true) (hres : fn.resultTypes = #[tb]) (htb : P.underlying tb = some .bool)
    (hparams : ∀ t ∈ fn.params.toList, t < P.types.size ∧ P.readableRec t = true) (hvars : s.vars = []) (hspec : ∀ ds : List (DataW H), ds.length = fn.params.size → s.fn H ds = { results := [.lit (.bool true)], args := ds })
    (hW : DataW.Whole enc P fn.params.toList s.vars apart W args.toList ds gs before) (hb : Below W.heap.size W W') : s.post enc P fn apart true false false W args (.bool true) W' := by
  have hW' := hW
  obtain ⟨p, q, hA, hV, rfl, _, _⟩ := hW'
  rw [hvars] at hV
  obtain ⟨rfl, rfl⟩ := trodVars_none hV
  have hlen : ds.length = fn.params.size := by have := trodAll_len hA; simpa using this
  have hs : s.fn H (ds ++ []) = { results := [.lit (.bool true)], args := ds } := by rw [List.append_nil]; exact hspec ds hlen
  refine ⟨ds, [], p ++ [], [], p, [], hW, ?_, ?_, ?_, below_kept hb _, fun h => by cases h⟩
  · rw [hs, hres]
    exact trodAll_mk1 (shut_bool htb true)
  · rw [hs]
    exact trodAll_below hl hb hparams hA (fun x hx => hW.lt x (List.mem_append_left _ hx))
  · rw [hs, hvars]; rfl
end
end Go.Vs
