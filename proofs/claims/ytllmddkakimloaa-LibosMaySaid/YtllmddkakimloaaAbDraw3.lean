import Derived.Test.YtllmddkakimloaaAbDraw2
namespace Go.Ab
set_option linter.all false
open Go Go.RowKit
variable {P : Program} {a : Act} {w : World} {n : Nat} {Mo : Cells} {m : Mp} {s : Sa} {p : Name} {k : Sa → Prop} {Q : Exit → Act → World → Prop} {sv : List Act} {ops : Array Oper}

def aft (o : Oper) : List Nat := (o.after.toList.filter (fun e => Region.binds .any e)).map (fun e => e.on)
def tmpOf : Operand → Option Nat | .tmp t => some t | _ => none
def opReads (ops : Array Oper) (o : Oper) : List Nat := o.op.operands.toList.filterMap tmpOf ++ (match o.guard with | some (j, _) => ((ops[j]?).bind (·.dst)).toList | none => [])
def dstOf (ops : Array Oper) (i : Nat) : Option Nat := (ops[i]?).bind (·.dst)
theorem dstOf_eq {i : Nat} {o : Oper} (h : ops[i]? = some o) : dstOf ops i = o.dst := by simp [dstOf, h]

def evSeg (P : Program) (p : Name) (ops : Array Oper) : List Nat → Sa → (Sa → Prop) → Prop
  | [], s, k => k s
  | i :: rest, s, k => match ops[i]? with
    | some o => nilOK s o.op = true ∧ evOps P (semsP P) p ops [o] s fun s' => evSeg P p ops rest s' k
    | none => False

/-- What an operation that only looks answers at a state, it answers at each that says the same of what it reads. -/
def OpFact (P : Program) (p : Name) (ops : Array Oper) (i : Nat) (v : V) (s : Sa) : Prop :=
  ∃ o, ops[i]? = some o ∧ ∀ s' : Sa, s'.bx = s.bx → s'.n = s.n → (∀ t ∈ opReads ops o, lkT t s'.ts = lkT t s.ts) →
    ∀ k' : Sa → Prop, (∀ s1, Like s1 s' → k' (s1.put o.dst v)) → evOps P (sems P) p ops [o] s' k'
theorem OpFact.like {i : Nat} {v : V} {s s1 : Sa} (h : OpFact P p ops i v s) (hl : Like s1 s) : OpFact P p ops i v s1 := by
  obtain ⟨o, ho, h⟩ := h
  exact ⟨o, ho, fun s' hb hn ht k' hk => h s' (hb.trans hl.bx) (hn.trans hl.n) (fun t htm => (ht t htm).trans (hl.ts t)) k' hk⟩

theorem reads_get {o : Oper} {s s' : Sa} (h : ∀ t ∈ opReads ops o, lkT t s'.ts = lkT t s.ts) : ∀ x ∈ o.op.operands, s'.get x = s.get x := by
  intro x hx
  cases x with
  | tmp t => exact h t (List.mem_append_left _ (List.mem_filterMap.2 ⟨.tmp t, by simpa using hx, rfl⟩))
  | const v => rfl
  | global g => rfl
  | func g => rfl

theorem evSeg_op {i : Nat} {o : Oper} (hi : ops[i]? = some o) (hc : calm o.op = true) (hn : nilOK s o.op = true) (h : evOps P (semsP P) p ops [o] s k) :
    ∃ v s1, Like s1 s ∧ k (s1.put o.dst v) ∧ OpFact P p ops i v s := by
  simp only [evOps] at h
  obtain ⟨hd, h⟩ := h
  have run : ∀ s1 : Sa, Like s1 s → nilOK s1 o.op = true → evOp P (semsP P) p o s1 k → ∃ v, k (s1.put o.dst v) ∧ ∀ s2 : Sa, s2.bx = s.bx → s2.n = s.n → (∀ t ∈ opReads ops o, lkT t s2.ts = lkT t s.ts) → ∀ k' : Sa → Prop, k' (s2.put o.dst v) → evOp P (sems P) p o s2 k' := by
    intro s1 hl hn1 h1
    obtain ⟨v, hv, hh⟩ := calm_congr hc hn1 h1
    refine ⟨v, hv, fun s2 hb hnn ht k' hk' => evOp_semsP (hh s2 (hb.trans hl.bx.symm) (hnn.trans hl.n.symm) (fun x hx => ?_) k' hk')⟩
    exact reads_get (ops := ops) (fun t htm => (ht t htm).trans (hl.ts t).symm) x hx
  have nil1 : ∀ s1 : Sa, Like s1 s → nilOK s1 o.op = true := by
    intro s1 hl
    have : ∀ x, s1.get x = s.get x := fun x => by cases x <;> first | exact hl.ts _ | rfl
    cases hop : o.op <;> simp only [nilOK, hop] at hn ⊢
    rw [this]; exact hn
  split at h
  · rename_i hg
    obtain ⟨v, hv, hh⟩ := run s (Like.refl s) hn h
    refine ⟨v, s, Like.refl s, hv, o, hi, fun s' hb hnn ht k' hk' => ?_⟩
    simp only [evOps, hg]
    exact ⟨by rw [hnn]; exact hd, hh s' hb hnn ht k' (hk' s' (Like.refl s'))⟩
  · rename_i j want hg
    split at h
    · rename_i t hjt
      have htr : t ∈ opReads ops o := List.mem_append_right _ (by rw [hg]; simp only [hjt]; simp)
      split at h
      · rename_i b hb
        cases b with
        | true =>
          have h := h.1 rfl
          have hl := Like.literal hb
          cases want with
          | true =>
            obtain ⟨v, hv, hh⟩ := run _ hl (nil1 _ hl) (by simpa using h)
            refine ⟨v, _, hl, hv, o, hi, fun s' hb' hnn ht k' hk' => ?_⟩
            have hb2 := (ht t htr).trans hb
            simp only [evOps, hg, hjt, hb2]
            refine ⟨by rw [hnn]; exact hd, ⟨fun _ => ?_, fun e => (by cases e)⟩⟩
            have hl2 := Like.literal hb2
            simp only [if_true]
            exact hh _ (hl2.bx.trans hb') (hl2.n.trans hnn) (fun t' ht' => (hl2.ts t').trans (ht t' ht')) k' (hk' _ hl2)
          | false =>
            refine ⟨.tup [], _, hl, by simpa using h, o, hi, fun s' hb' hnn ht k' hk' => ?_⟩
            have hb2 := (ht t htr).trans hb
            simp only [evOps, hg, hjt, hb2]
            refine ⟨by rw [hnn]; exact hd, ⟨fun _ => ?_, fun e => (by cases e)⟩⟩
            simpa using hk' _ (Like.literal hb2)
        | false =>
          have h := h.2 rfl
          have hl := Like.literal hb
          cases want with
          | false =>
            obtain ⟨v, hv, hh⟩ := run _ hl (nil1 _ hl) (by simpa using h)
            refine ⟨v, _, hl, hv, o, hi, fun s' hb' hnn ht k' hk' => ?_⟩
            have hb2 := (ht t htr).trans hb
            simp only [evOps, hg, hjt, hb2]
            refine ⟨by rw [hnn]; exact hd, ⟨fun e => (by cases e), fun _ => ?_⟩⟩
            have hl2 := Like.literal hb2
            simp only [Bool.false_eq_true, if_false]
            exact hh _ (hl2.bx.trans hb') (hl2.n.trans hnn) (fun t' ht' => (hl2.ts t').trans (ht t' ht')) k' (hk' _ hl2)
          | true =>
            refine ⟨.tup [], _, hl, by simpa using h, o, hi, fun s' hb' hnn ht k' hk' => ?_⟩
            have hb2 := (ht t htr).trans hb
            simp only [evOps, hg, hjt, hb2]
            refine ⟨by rw [hnn]; exact hd, ⟨fun e => (by cases e), fun _ => ?_⟩⟩
            simpa using hk' _ (Like.literal hb2)
      · rename_i hb
        refine ⟨.tup [], s, Like.refl s, h, o, hi, fun s' hb' hnn ht k' hk' => ?_⟩
        have hb2 := (ht t htr).trans hb
        simp only [evOps, hg, hjt, hb2]
        exact ⟨by rw [hnn]; exact hd, hk' _ (Like.refl s')⟩
      · exact h.elim
    · exact h.elim

def putAll (ops : Array Oper) (s : Sa) (l : List (Nat × V)) : Sa := l.foldl (fun s x => s.put (dstOf ops x.1) x.2) s
theorem Like.putAll {s s' : Sa} (h : Like s s') (l : List (Nat × V)) : Like (putAll ops s l) (putAll ops s' l) := by
  induction l generalizing s s' with
  | nil => exact h
  | cons x l ih => exact ih (h.put _ _)
theorem putAll_append (l l' : List (Nat × V)) : putAll ops s (l ++ l') = putAll ops (putAll ops s l) l' := by simp [putAll]
theorem putAll_fields (l : List (Nat × V)) : (putAll ops s l).rd = s.rd ∧ (putAll ops s l).n = s.n ∧ (putAll ops s l).sv = s.sv ∧ (putAll ops s l).bx = s.bx ∧ (putAll ops s l).lp = s.lp ∧ (putAll ops s l).ow = s.ow := by
  induction l generalizing s with
  | nil => exact ⟨rfl, rfl, rfl, rfl, rfl, rfl⟩
  | cons x l ih =>
    have := ih (s := s.put (dstOf ops x.1) x.2)
    have e : ∀ d v, (s.put d v).rd = s.rd ∧ (s.put d v).n = s.n ∧ (s.put d v).sv = s.sv ∧ (s.put d v).bx = s.bx ∧ (s.put d v).lp = s.lp ∧ (s.put d v).ow = s.ow := fun d v => by cases d <;> exact ⟨rfl, rfl, rfl, rfl, rfl, rfl⟩
    obtain ⟨e1, e2, e3, e4, e5, e6⟩ := e (dstOf ops x.1) x.2
    exact ⟨this.1.trans e1, this.2.1.trans e2, this.2.2.1.trans e3, this.2.2.2.1.trans e4, this.2.2.2.2.1.trans e5, this.2.2.2.2.2.trans e6⟩
theorem lk_not {t : Nat} {l : List (Nat × V)} (h : ∀ x ∈ l, dstOf ops x.1 ≠ some t) : lkT t (putAll ops s l).ts = lkT t s.ts := by
  induction l generalizing s with
  | nil => rfl
  | cons x l ih =>
    have e : putAll ops s (x :: l) = putAll ops (s.put (dstOf ops x.1) x.2) l := rfl
    rw [e, ih (fun y hy => h y (List.mem_cons_of_mem _ hy))]
    have hx := h x List.mem_cons_self
    cases hd : dstOf ops x.1 with
    | none => rfl
    | some d => rw [hd] at hx; simp only [Sa.put, lkT_setT']; rw [if_neg (fun e => hx (by rw [e]))]
/-- No two write one slot. -/
def Apart (ops : Array Oper) (l : List (Nat × V)) : Prop := ∀ x ∈ l, ∀ y ∈ l, ∀ t, dstOf ops x.1 = some t → dstOf ops y.1 = some t → x = y
theorem lk_mem {t : Nat} {l : List (Nat × V)} (ha : Apart ops l) {x : Nat × V} (hx : x ∈ l) (hd : dstOf ops x.1 = some t) : lkT t (putAll ops s l).ts = x.2 := by
  induction l generalizing s with
  | nil => cases hx
  | cons y l ih =>
    have e : putAll ops s (y :: l) = putAll ops (s.put (dstOf ops y.1) y.2) l := rfl
    rw [e]
    by_cases hxl : x ∈ l
    · exact ih (fun a ha' b hb => ha a (List.mem_cons_of_mem _ ha') b (List.mem_cons_of_mem _ hb)) hxl
    · have hxy : x = y := by
        rcases List.mem_cons.1 hx with h | h
        · exact h
        · exact absurd h hxl
      subst hxy
      rw [lk_not (fun z hz e => hxl (by rw [ha x List.mem_cons_self z (List.mem_cons_of_mem _ hz) t hd e]; exact hz)), hd]
      simp [Sa.put, lkT_setT']
end Go.Ab
