import Derived.Test.YtllmddkakimloaaAbSimp
/-! Tools for functions' proofs. -/
namespace Go.Ab
set_option linter.all false
open Go
theorem all_map {α : Type} (f : α → D) (l : List α) (i : Nat) (p : D → Prop) : (∀ x, (List.map f l)[i]? = some x → p x) = ∀ y, l[i]? = some y → p (f y) := by
  apply propext
  constructor
  · intro h y hy; exact h (f y) (by simp [hy])
  · intro h x hx
    simp only [List.getElem?_map, Option.map_eq_some_iff] at hx
    obtain ⟨y, hy, rfl⟩ := hx
    exact h y hy
attribute [go_sem ↓] all_map
@[go_sem] theorem cast_n (n : Nat) : ((no_index (OfNat.ofNat n) : Nat) : Int) = OfNat.ofNat n := rfl
theorem wrap_i64 {x : Int} (h1 : -9223372036854775808 ≤ x) (h2 : x ≤ 9223372036854775807) : IntKind.i64.wrap x = x := by
  simp only [IntKind.wrap, IntKind.bits, IntKind.signed]; simp; omega
theorem wrap_u64 {x : Int} : IntKind.u64.wrap x = x % 18446744073709551616 := by
  simp only [IntKind.wrap, IntKind.bits, IntKind.signed]; simp
theorem drop_get {α : Type} {l : List α} {k : Nat} {x : α} (h : l[k]? = some x) : l.drop k = x :: l.drop (k + 1) := by
  obtain ⟨hk, e⟩ := List.getElem?_eq_some_iff.1 h
  rw [← e]; exact List.drop_eq_getElem_cons hk
theorem get_lt {α : Type} {l : List α} {k : Nat} {x : α} (h : l[k]? = some x) : k < l.length := (List.getElem?_eq_some_iff.1 h).1
theorem wf_encL {α : Type} (f : α → D) (l : List α) : (encL f l).wf ↔ l.length ≤ 9223372036854775807 ∧ ∀ x ∈ l, (f x).wf := by
  have e : ∀ l : List α, D.wfL (l.map f) ↔ ∀ x ∈ l, (f x).wf := by
    intro l
    induction l with
    | nil => simp [D.wfL]
    | cons x l ih => simp [D.wfL, ih]
  rw [encL, D.wf, e, List.length_map]
theorem wf_i (n : Int) : (D.i n).wf ↔ -9223372036854775808 ≤ n ∧ n ≤ 9223372036854775807 := by simp [D.wf, okLeaf, inR]
theorem wf_u (n : Int) : (D.u n).wf ↔ 0 ≤ n ∧ n ≤ 18446744073709551615 := by simp [D.wf, okLeaf, inR]
theorem wf_b (b : Bool) : (D.b b).wf ↔ True := by simp [D.wf, okLeaf]
theorem wf_all {ds : List D} (h : ∀ i (hi : i < ds.length), ds[i].wf) : D.wfL ds := wfL_iff.2 h
theorem PureOK.of_body' {P : Program} {f : FuncId} {fn : Func} {c : Code} {ds rs : List D} (q : Name) (hf : P.funcs[f]? = some fn) (hb : fn.body = some c) (hle : ds.length ≤ fn.ntmps)
    (h : D.wfL ds → ev P (sems P) q c (s0 fn.ntmps ds) (Out P fn.results.toList rs)) : PureOK P f ds rs := PureOK.of_body q hf hb hle fun hwf => h (wf_all hwf)
theorem PureOK.eq {P : Program} {f : FuncId} {ds rs rs' : List D} (h : PureOK P f ds rs) (e : rs = rs') : PureOK P f ds rs' := e ▸ h
end Go.Ab
