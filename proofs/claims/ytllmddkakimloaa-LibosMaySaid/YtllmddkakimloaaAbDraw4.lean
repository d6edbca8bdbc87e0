import Derived.Test.YtllmddkakimloaaAbDraw3
namespace Go.Ab
set_option linter.all false
open Go Go.RowKit
variable {P : Program} {a : Act} {w : World} {n : Nat} {Mo : Cells} {m : Mp} {s : Sa} {p : Name} {k : Sa → Prop} {Q : Exit → Act → World → Prop} {sv : List Act} {ops : Array Oper}

inductive Seg where
  | calm (l : List Nat)
  | bar (i : Nat)
def Seg.idx : Seg → List Nat
  | .calm l => l
  | .bar i => [i]
def flat : List Seg → List Nat
  | [] => []
  | x :: rest => x.idx ++ flat rest

def evPlan (P : Program) (p : Name) (ops : Array Oper) : List Seg → Sa → (Sa → Prop) → Prop
  | [], s, k => k s
  | .calm l :: rest, s, k => evSeg P p ops l s fun s' => evPlan P p ops rest s' k
  | .bar i :: rest, s, k => match ops[i]? with
    | some o => evOps P (sems P) p ops [o] s fun s' => evPlan P p ops rest s' k
    | none => False

def okAft (ops : Array Oper) (i : Nat) (f : List Nat → Bool) : Bool := match ops[i]? with | some o => f (aft o) | none => false
theorem okAft_inv {i : Nat} {f : List Nat → Bool} (h : okAft ops i f = true) : ∃ o, ops[i]? = some o ∧ f (aft o) = true := by
  unfold okAft at h
  split at h
  · rename_i o ho; exact ⟨o, ho, h⟩
  · cases h
def calmOK (ops : Array Oper) (l : List Nat) (i : Nat) : Bool := match ops[i]? with
  | some o => calm o.op && (o.dst.isSome && l.all fun j => j == i || (dstOf ops j != o.dst && ((opReads ops o).all (fun t => dstOf ops j != some t) || (aft o).contains j)))
  | none => false
def orderOK (ops : Array Oper) : List Nat → List Nat → Bool
  | _, [] => true
  | done, i :: rest => okAft ops i (fun l => l.all done.contains) && (!done.contains i && orderOK ops (i :: done) rest)
def aftOf (ops : Array Oper) (i : Nat) : List Nat := match ops[i]? with | some o => aft o | none => []
/-- What has to come ahead. -/
def need (ops : Array Oper) : List Nat → List Nat → List Nat
  | [], S => S
  | j :: rest, S => need ops rest (if S.contains j then aftOf ops j ++ S else S)
theorem need_all {q : Nat → Prop} : ∀ {l S : List Nat}, (∀ j ∈ S, q j) → (∀ j ∈ l, q j → ∀ x ∈ aftOf ops j, q x) → ∀ j ∈ need ops l S, q j := by
  intro l
  induction l with
  | nil => intro S h _ j hj; exact h j hj
  | cons i l ih =>
    intro S h hc j hj
    simp only [need] at hj
    refine ih ?_ (fun a ha => hc a (List.mem_cons_of_mem _ ha)) j hj
    intro x hx
    split at hx
    · rename_i hi
      rcases List.mem_append.1 hx with hx | hx
      · exact hc i List.mem_cons_self (h i (by simpa using hi)) x hx
      · exact h x hx
    · exact h x hx
def planOK (ops : Array Oper) : List Nat → List Seg → Bool
  | done, [] => (List.range ops.size).all done.contains && done.length == ops.size
  | done, .calm l :: rest => l.all (calmOK ops l) && (orderOK ops done l && ((flat rest).all (fun i => okAft ops i fun al => al.any (flat rest).contains || l.all (need ops l.reverse al).contains) && planOK ops (l.reverse ++ done) rest))
  | done, .bar i :: rest => orderOK ops done [i] && ((flat rest).all (fun j => okAft ops j fun al => al.any (i :: flat rest).contains) && planOK ops (i :: done) rest)

theorem orderOK_split : ∀ (pre : List Nat) {done post : List Nat} {i : Nat}, orderOK ops done (pre ++ i :: post) = true →
    (∃ o, ops[i]? = some o ∧ ∀ j ∈ aft o, j ∈ done ∨ j ∈ pre) ∧ i ∉ done ∧ i ∉ pre := by
  intro pre
  induction pre with
  | nil =>
    intro done post i h
    simp only [List.nil_append, orderOK, Bool.and_eq_true, Bool.not_eq_true', List.contains_eq_mem, decide_eq_false_iff_not] at h
    obtain ⟨o, ho, h1⟩ := okAft_inv h.1
    refine ⟨⟨o, ho, fun j hj => .inl ?_⟩, h.2.1, by simp⟩
    simpa using List.all_eq_true.1 h1 j hj
  | cons x pre ih =>
    intro done post i h
    simp only [List.cons_append, orderOK, Bool.and_eq_true] at h
    obtain ⟨⟨o, ho, h1⟩, h2, h3⟩ := ih h.2.2
    refine ⟨⟨o, ho, fun j hj => ?_⟩, fun hc => h2 (List.mem_cons_of_mem _ hc), ?_⟩
    · rcases h1 j hj with h | h
      · rcases List.mem_cons.1 h with h | h
        · exact .inr (by rw [h]; exact List.mem_cons_self)
        · exact .inl h
      · exact .inr (List.mem_cons_of_mem _ h)
    · intro hc
      rcases List.mem_cons.1 hc with h | h
      · exact h2 (by rw [h]; exact List.mem_cons_self)
      · exact h3 h
theorem orderOK_nodup : ∀ {l done : List Nat}, orderOK ops done l = true → l.Nodup ∧ ∀ i ∈ l, i ∉ done ∧ i < ops.size := by
  intro l
  induction l with
  | nil => intro done _; exact ⟨List.nodup_nil, by simp⟩
  | cons x l ih =>
    intro done h
    have h0 := h
    simp only [orderOK, Bool.and_eq_true, Bool.not_eq_true', List.contains_eq_mem, decide_eq_false_iff_not] at h
    obtain ⟨o, ho, _⟩ := okAft_inv h.1
    obtain ⟨h1, h2⟩ := ih h.2.2
    refine ⟨List.nodup_cons.2 ⟨fun hc => (h2 x hc).1 List.mem_cons_self, h1⟩, fun i hi => ?_⟩
    rcases List.mem_cons.1 hi with e | e
    · subst e; exact ⟨h.2.1, (Array.getElem?_eq_some_iff.1 ho).1⟩
    · exact ⟨fun hc => (h2 i e).1 (List.mem_cons_of_mem _ hc), (h2 i e).2⟩
theorem planOK_fresh : ∀ {plan : List Seg} {done : List Nat}, planOK ops done plan = true → (∀ j ∈ flat plan, j ∉ done) ∧ (∀ j < ops.size, j ∈ done ∨ j ∈ flat plan) ∧ done.length + (flat plan).length = ops.size := by
  intro plan
  induction plan with
  | nil =>
    intro done h
    simp only [planOK, Bool.and_eq_true, beq_iff_eq] at h
    refine ⟨by simp [flat], fun j hj => .inl ?_, by simpa [flat] using h.2⟩
    simpa using List.all_eq_true.1 h.1 j (List.mem_range.2 hj)
  | cons x rest ih =>
    intro done h
    cases x with
    | calm l =>
      simp only [planOK, Bool.and_eq_true] at h
      obtain ⟨h1, h2, h3⟩ := ih h.2.2.2
      obtain ⟨h4, h5⟩ := orderOK_nodup h.2.1
      refine ⟨fun j hj => ?_, fun j hj => ?_, ?_⟩
      · simp only [flat, Seg.idx, List.mem_append] at hj
        rcases hj with hj | hj
        · exact (h5 j hj).1
        · exact fun hc => h1 j hj (List.mem_append_right _ hc)
      · simp only [flat, Seg.idx, List.mem_append]
        rcases h2 j hj with h | h
        · simp only [List.mem_append, List.mem_reverse] at h
          rcases h with h | h
          · exact .inr (.inl h)
          · exact .inl h
        · exact .inr (.inr h)
      · simp only [flat, Seg.idx, List.length_append, List.length_reverse] at h3 ⊢; omega
    | bar i =>
      simp only [planOK, Bool.and_eq_true] at h
      obtain ⟨h1, h2, h3⟩ := ih h.2.2
      obtain ⟨h4, h5⟩ := orderOK_nodup h.1
      refine ⟨fun j hj => ?_, fun j hj => ?_, ?_⟩
      · simp only [flat, Seg.idx, List.cons_append, List.nil_append, List.mem_cons] at hj
        rcases hj with hj | hj
        · subst hj; exact (h5 j (by simp)).1
        · exact fun hc => h1 j hj (List.mem_cons_of_mem _ hc)
      · simp only [flat, Seg.idx, List.cons_append, List.nil_append, List.mem_cons]
        rcases h2 j hj with h | h
        · rcases List.mem_cons.1 h with h | h
          · exact .inr (.inl h)
          · exact .inl h
        · exact .inr (.inr h)
      · simp only [flat, Seg.idx, List.length_append, List.length_cons, List.length_nil] at h3 ⊢; omega

theorem evSeg_run : ∀ (l : List Nat) {s : Sa}, (∀ i ∈ l, ∃ o, ops[i]? = some o ∧ calm o.op = true) → evSeg P p ops l s k →
    ∃ (ivs : List (Nat × V)) (s' : Sa), ivs.map Prod.fst = l ∧ Like s' (putAll ops s ivs) ∧ k s' ∧ ∀ pre i v post, ivs = pre ++ (i, v) :: post → OpFact P p ops i v (putAll ops s pre) := by
  intro l
  induction l with
  | nil => intro s _ h; exact ⟨[], s, rfl, Like.refl s, h, fun pre i v post e => by simp at e⟩
  | cons i l ih =>
    intro s hc h
    obtain ⟨o, ho, hcalm⟩ := hc i List.mem_cons_self
    simp only [evSeg, ho] at h
    obtain ⟨v, s1, hl, hk, hf⟩ := evSeg_op ho hcalm h.1 h.2
    obtain ⟨ivs, s', h1, h2, h3, h4⟩ := ih (fun j hj => hc j (List.mem_cons_of_mem _ hj)) hk
    have e : ∀ l', putAll ops s ((i, v) :: l') = putAll ops (s.put o.dst v) l' := fun l' => by show putAll ops (s.put (dstOf ops i) v) l' = _; rw [dstOf_eq ho]
    refine ⟨(i, v) :: ivs, s', by simp [h1], ?_, h3, fun pre j u post he => ?_⟩
    · rw [e]; exact h2.trans ((hl.put _ _).putAll ivs)
    · cases pre with
      | nil => simp only [List.nil_append, List.cons.injEq, Prod.mk.injEq] at he; obtain ⟨⟨rfl, rfl⟩, _⟩ := he; exact hf
      | cons x pre =>
        simp only [List.cons_append, List.cons.injEq] at he
        obtain ⟨rfl, he⟩ := he
        rw [e]
        exact (h4 pre j u post he).like (((hl.put _ _).putAll pre).symm)
end Go.Ab
