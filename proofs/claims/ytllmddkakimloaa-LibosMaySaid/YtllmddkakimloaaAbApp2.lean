import Derived.Test.YtllmddkakimloaaAbApp
/-! append, on states. -/
namespace Go.Ab
set_option linter.all false
open Go Go.RowKit
variable {P : Program} {o : Oper} {a : Act} {w : World} {K : Act → World → Prop} {Q : Exit → Act → World → Prop} {n : Nat} {Mo : Cells} {m : Mp} {s : Sa} {sv : List Act} {k : Sa → Prop} {p : Name} {S : Sems}

theorem RepV.nil_inv {M : Cells} {c : Value} (h : RepV w M m .nil c) : c = .slice none 0 0 := by cases h; rfl
theorem mut_map {bx : List (Name × V)} {ow : List Name} {i : Name} {b j : Nat} : Mut (bx.map (fun x => (x.1, x.2.strip i))) ow m b j ↔ Mut bx ow m b j := by
  constructor
  · rintro (⟨nm, c, hn, e⟩ | h)
    · rw [lookN_map] at hn
      cases hc : lookN nm bx with
      | none => simp [hc] at hn
      | some c' => exact .inl ⟨nm, c', hc, e⟩
    · exact .inr h
  · rintro (⟨nm, c, hn, e⟩ | h)
    · exact .inl ⟨nm, c.strip i, by rw [lookN_map, hn]; rfl, e⟩
    · exact .inr h
theorem look_map_inv {bx : List (Name × V)} {i nm : Name} {c : V} (h : lookN nm (bx.map (fun x => (x.1, x.2.strip i))) = some c) : ∃ c', lookN nm bx = some c' := by
  rw [lookN_map] at h
  cases hc : lookN nm bx with
  | none => simp [hc] at h
  | some c' => exact ⟨c', rfl⟩

theorem getD_append_left' {l r : List Value} {i : Nat} (h : i < l.length) : (l ++ r).getD i undef = l.getD i undef := by
  simp [List.getD_eq_getElem?_getD, List.getElem?_append_left h]
theorem getD_append_right' {l r : List Value} {i : Nat} (h : l.length ≤ i) : (l ++ r).getD i undef = r.getD (i - l.length) undef := by
  simp [List.getD_eq_getElem?_getD, List.getElem?_append_right h]

/-- Old rows and new ones, one behind the other, in one place. -/
theorem row_append {M : Cells} {xs ys : List D} {sz b off : Nat} {old L : List Value} (hx : ListOK w M xs sz old) (hy : ListOK w M ys sz L)
    (hcell : ∀ q, q < old.length + L.length → w.cell? ⟨b, off + q, none⟩ = some ((old ++ L).getD q undef) ∧ ¬ M b (off + q)) :
    RowOK w M (xs ++ ys) sz b off (fun i j => (old ++ L).getD (i * sz + j) undef) := by
  have hlen : ∀ i (hi : i < (xs ++ ys).length), (xs ++ ys)[i].cells.length = sz := by
    intro i hi
    have := List.getElem_mem hi
    rcases List.mem_append.1 this with h | h
    · exact hx.row _ h
    · exact hy.row _ h
  have hlt : ∀ i j, i < (xs ++ ys).length → j < sz → i * sz + j < old.length + L.length := by
    intro i j hi hj
    rw [hx.len, hy.len, ← Nat.add_mul]
    exact mul_lt (by simpa using hi) hj
  refine ⟨hlen, fun i hi j hj => ?_, fun i hi j hj => ?_⟩
  · have h1 := hcell _ (hlt i j hi hj)
    rw [Nat.add_assoc]
    refine ⟨h1.1, ?_, h1.2⟩
    have h2 := hlt i j hi hj
    rw [List.getD_eq_getElem?_getD, List.getElem?_eq_getElem (by simpa using h2)]
    have := List.getElem_mem (l := old ++ L) (n := i * sz + j) (by simpa using h2)
    rcases List.mem_append.1 this with h | h
    · exact hx.leafs _ h
    · exact hy.leafs _ h
  · have hj' : j < sz := by rw [← hlen i hi]; exact hj
    by_cases h : i < xs.length
    · have e : (xs ++ ys)[i] = xs[i] := List.getElem_append_left h
      simp only [e] at hj ⊢
      rw [getD_append_left' (by rw [hx.len]; exact mul_lt h hj')]
      exact hx.rep i h j hj
    · have h' : xs.length ≤ i := Nat.le_of_not_lt h
      have e : (xs ++ ys)[i] = ys[i - xs.length]'(by simp at hi; omega) := List.getElem_append_right h'
      simp only [e] at hj ⊢
      have e2 : i * sz + j = old.length + ((i - xs.length) * sz + j) := by
        rw [hx.len, ← Nat.add_assoc, ← Nat.add_mul]
        congr 2; omega
      rw [e2, getD_append_right' (by omega), Nat.add_sub_cancel_left]
      exact hy.rep _ (by simp at hi; omega) j hj
theorem ListOK.stab {M M' : Cells} {w' : World} {ys : List D} {sz : Nat} {L : List Value} (hs : Stab w M w' M') (h : ListOK w M ys sz L) : ListOK w' M' ys sz L :=
  ⟨h.len, h.row, h.leafs, fun i hi j hj => (h.rep i hi j hj).mono hs⟩

theorem append_core {t u e : TypeId} {ty : TypeId} {ts : Array TypeId} {args : Array Value} {as : List Act} (hR : Rel Mo m s as w) (i : Name) (xs ys : List D) (base : Option Addr) (cap : Nat) (y : Value)
    (ht : ts[0]? = some t) (hu : ts[1]? = some u) (hut : P.underlying t = some (.slice e)) (huu : P.underlying u = some (.slice e)) (hez : tsz P e ≠ 0)
    (hzc : isCells (tzero P e) = true) (hzl : (tzero P e).cells.length = tsz P e)
    (h0 : args[0]? = some (.slice base xs.length cap)) (h1 : args[1]? = some y)
    (hx : RepD w (Tot Mo s.bx s.ow m) (.sl xs) (.slice base xs.length cap)) (hxr : ∀ x ∈ xs, x.cells.length = tsz P e)
    (hsp : (i ∈ s.ow ∧ Spare w m i (tsz P e) (.slice base xs.length cap)) ∨ (base = none ∧ cap = 0))
    (hy : RepD w (Tot Mo s.bx s.ow m) (.sl ys) y) (hyr : ∀ x ∈ ys, x.cells.length = tsz P e)
    (hb : (xs.length + ys.length) * tbytes P e ≤ 140737488355328) (hmx : xs.length + ys.length ≤ 9223372036854775807) :
    ∃ m' v w', (Builtin.append_ ts ty args).run P w = .ok v w' ∧ Rel Mo m' { s.strip i with ow := i :: (s.strip i).ow } as w' ∧
      RepV w' (Tot Mo (s.strip i).bx (i :: (s.strip i).ow) m') m' (.own i (tsz P e) (xs ++ ys)) v ∧ Step m s w m' { s.strip i with ow := i :: (s.strip i).ow } w' ∧ m'.lp = m.lp := by
  obtain ⟨zi, z, hzi, hzz, hzcv⟩ := tzero_inv hzc
  have hzs : z.cells.size = tsz P e := by
    have := (repV_const (w := w) (M := fun _ _ => False) (m := m) z).csOK (by rw [← hzcv]; exact hzc)
    rw [this.size, ← hzcv]; exact hzl
  have hnone : base = none → cap = 0 := by
    rcases hsp with ⟨_, h⟩ | ⟨_, h⟩
    · intro e'; subst e'; exact h.1
    · exact fun _ => h
  have hlenof : (Builtin.lenOf y).run P w = .ok ys.length w := by
    obtain ⟨_, _, _, _, _, _, e', _⟩ := hy.sl_inv
    rw [e']; rfl
  obtain ⟨old, hold, okx, atx⟩ := run_firstCells (P := P) hx hxr hez
  obtain ⟨L, hnew, oky, aty⟩ := run_firstCells (P := P) hy hyr hez
  -- the state without the slice's ownership, its region still kept
  have hR2 := hR.dropOw i s.ow (fun _ h => h)
  have hno : AllV (fun v => i ∉ v.ows) { s with ts := mapT (V.strip i) s.ts, sv := s.sv.map (fun f => { f with ts := mapT (V.strip i) f.ts }), bx := s.bx.map (fun x => (x.1, x.2.strip i)), ow := s.ow } :=
    ⟨(Sa.strip_all s i).ts, (Sa.strip_all s i).sv, (Sa.strip_all s i).bx⟩
  have htot : ∀ b j, Tot Mo (s.bx.map (fun x => (x.1, x.2.strip i))) s.ow m b j ↔ Tot Mo s.bx s.ow m b j := fun b j => or_congr Iff.rfl mut_map
  have hstep0 : ∀ (m' : Mp) (w' : World), Keeps w w' (Mut s.bx s.ow m) (LpB s.lp m) → (∀ b j, b < w.heap.size → Mut (s.bx.map (fun x => (x.1, x.2.strip i))) (i :: s.ow.filter (fun j => j != i)) m' b j → Mut s.bx s.ow m b j) → m'.lp = m.lp →
      Step m s w m' { s.strip i with ow := i :: (s.strip i).ow } w' := fun m' w' h1 h2 h3 => ⟨h1, h2, fun b _ hl => by obtain ⟨l, p, hl, e⟩ := hl; exact ⟨l, p, hl, by rw [e, h3]⟩, rfl, by simp [Sa.strip, List.map_map, Function.comp_def], fun _ _ => by rw [h3]⟩
  -- the new region's cells, seen from outside
  have hregs0 : ∀ (reg : Nat × Nat × Nat) (b j : Nat), Mut (s.bx.map (fun x => (x.1, x.2.strip i))) (i :: s.ow.filter (fun j => j != i)) { m with ow := fun j => if j = i then reg else m.ow j } b j →
      (∃ nm c, lookN nm s.bx = some c ∧ b = m.bx nm) ∨ (∃ j' ∈ s.ow, j' ≠ i ∧ (m.ow j').1 = b ∧ (m.ow j').2.1 ≤ j ∧ j < (m.ow j').2.2) ∨ (reg.1 = b ∧ reg.2.1 ≤ j ∧ j < reg.2.2) := by
    intro reg b j hm
    rcases hm with ⟨nm, c, hn, e'⟩ | ⟨j', hj', h3⟩
    · obtain ⟨c', hc'⟩ := look_map_inv hn
      exact .inl ⟨nm, c', hc', e'⟩
    · rcases List.mem_cons.1 hj' with e' | hj'
      · subst e'; simp only [if_true] at h3; exact .inr (.inr h3)
      · have hj'' : j' ∈ s.ow ∧ j' ≠ i := by simpa using hj'
        simp only [hj''.2, if_false] at h3
        exact .inr (.inl ⟨j', hj''.1, hj''.2, h3⟩)
  have hregs : ∀ (reg : Nat × Nat × Nat) (b j : Nat), Mut (s.bx.map (fun x => (x.1, x.2.strip i))) (i :: s.ow.filter (fun j => j != i)) { m with ow := fun j => if j = i then reg else m.ow j } b j →
      Mut s.bx s.ow m b j ∨ (reg.1 = b ∧ reg.2.1 ≤ j ∧ j < reg.2.2) := by
    intro reg b j hm
    rcases hregs0 reg b j hm with h | ⟨j', h1, _, h3⟩ | h
    · exact .inl (.inl h)
    · exact .inl (.inr ⟨j', h1, h3⟩)
    · exact .inr h
  have happ := run_append (P := P) (ty := ty) (L := L) (old := old) ht hu hut huu hez ⟨zi, hzi, hzz⟩ h0 h1 hlenof hb hmx hnew hold (by
    intro hc ad had
    subst had
    rcases hsp with ⟨_, h⟩ | ⟨h, _⟩
    · obtain ⟨hspot, hnc, hreg, c, T, hblk, hsz⟩ := h
      have e0 : ad = ⟨ad.block, ad.off, none⟩ := by cases ad; simp at hspot; subst hspot; rfl
      rw [e0, addr_add]
      have := run_storeCells (P := P) L oky.leafs w ad.block (ad.off + xs.length * tsz P e) 0 c T hblk (by
        rw [oky.len, Nat.add_zero, Nat.add_assoc, ← Nat.add_mul]
        have : (xs.length + ys.length) * tsz P e ≤ cap * tsz P e := Nat.mul_le_mul_right _ hc
        omega)
      simpa using this
    · cases h)
  rcases happ with ⟨hc, hrun⟩ | ⟨hc, nc, rest, hnc, hrun, hrest⟩
  · -- in place
    cases base with
    | none =>
      have := hnone rfl
      have hx0 : xs = [] := List.eq_nil_of_length_eq_zero (by omega)
      have hy0 : ys = [] := List.eq_nil_of_length_eq_zero (by omega)
      subst hx0; subst hy0; subst this
      simp only at hrun
      have hR3 := hR2.reown (w' := w) i (0, 0, 0) hno (fun b c T h => ⟨c, h, rfl⟩) (fun _ _ h _ => h) (Nat.le_refl _) (fun _ _ _ => rfl)
        (fun b j c hcell hm => ⟨hcell, fun hx => hm (by
          rcases hx with hx | hx
          · exact .inl hx
          · rcases hregs _ b j hx with hx | hx
            · exact .inr (mut_map.2 hx)
            · exact absurd (Nat.lt_of_le_of_lt hx.2.1 hx.2.2) (Nat.lt_irrefl _))⟩) (fun hn => absurd hn (by simp [nonempty]))
      refine ⟨_, _, w, hrun, hR3, .own ?_ (by simp) ⟨rfl, by simp⟩, hstep0 _ _ (.of_below (Below.refl _ _)) (fun b j _ hm => ?_) rfl, rfl⟩
      · exact RepD.sl (xs := []) (a := none) (cap := 0) 0 0 0 (fun _ _ => undef) (by simp) (by simp) (by simp) (by simp) (by simp) (by simp)
      · rcases hregs _ b j hm with hx | hx
        · exact hx
        · exact absurd (Nat.lt_of_le_of_lt hx.2.1 hx.2.2) (Nat.lt_irrefl _)
    | some ad =>
      simp only at hrun
      rcases hsp with ⟨hi, h⟩ | ⟨h, _⟩
      · obtain ⟨hspot, hncap, hreg, c, T, hblk, hsz⟩ := h
        have hcapm : (xs.length + ys.length) * tsz P e ≤ cap * tsz P e := Nat.mul_le_mul_right _ hc
        have hadd : (xs.length + ys.length) * tsz P e = xs.length * tsz P e + ys.length * tsz P e := Nat.add_mul _ _ _
        have hLl := oky.len
        have hOl := okx.len
        have hin : ∀ j, ad.off + xs.length * tsz P e ≤ j → j < ad.off + cap * tsz P e → Mut s.bx s.ow m ad.block j := fun j h1 h2 => .inr ⟨i, hi, by rw [hreg], by rw [hreg]; exact h1, by rw [hreg]; exact h2⟩
        have hne : ∀ j, ad.off + xs.length * tsz P e ≤ j → j < ad.off + cap * tsz P e → nonempty (m.ow i) := fun j h1 h2 => by rw [hreg]; simp only [nonempty]; omega
        obtain ⟨c', q1, q2, q3, q4, q5, q6, q7, q8, q9⟩ := putCells_spec L w ad.block (ad.off + xs.length * tsz P e) c T hblk (by omega)
        have hst : Stab w (Tot Mo (s.bx.map (fun x => (x.1, x.2.strip i))) s.ow m) (putCells w ad.block (ad.off + xs.length * tsz P e) L)
            (Tot Mo (s.bx.map (fun x => (x.1, x.2.strip i))) (i :: s.ow.filter (fun j => j != i)) { m with ow := fun j => if j = i then (ad.block, ad.off + (xs.length + ys.length) * tsz P e, ad.off + cap * tsz P e) else m.ow j }) := by
          intro b j x hcell hm
          rw [htot] at hm
          refine ⟨?_, fun ht => ?_⟩
          · by_cases e' : b = ad.block
            · subst e'
              rw [cell_of_block q1, q3 j (by
                by_cases hj : j < ad.off + xs.length * tsz P e
                · exact .inl hj
                · by_cases hj2 : j < ad.off + cap * tsz P e
                  · exact absurd (.inr (hin j (by omega) hj2)) hm
                  · right; omega), ← cell_of_block hblk]; exact hcell
            · rw [World.cell?_of_block (w := w) (q5 b e')]; exact hcell
          · rcases ht with ht | ht
            · exact hm (.inl ht)
            · rcases hregs _ b j ht with ht | ⟨h1, h2, h3⟩
              · exact hm (.inr ht)
              · simp only at h1 h2 h3
                subst h1
                exact hm (.inr (hin j (by omega) h3))
        have hsh : Shape w (putCells w ad.block (ad.off + xs.length * tsz P e) L) := by
          intro b d T' hd
          by_cases e' : b = ad.block
          · subst e'; rw [hblk] at hd; cases hd; exact ⟨c', q1, q2⟩
          · exact ⟨d, by rw [q5 b e']; exact hd, rfl⟩
        have hR3 := hR2.reown i (ad.block, ad.off + (xs.length + ys.length) * tsz P e, ad.off + cap * tsz P e) hno hsh
          (fun b x hx' hnx => by
            have e' : b ≠ ad.block := fun e' => by subst e'; rw [hblk] at hx'; cases hx'; exact hnx _ _ _ rfl
            rw [q5 b e']; exact hx') (by rw [q9]; exact Nat.le_refl _) (fun nm d hn => by
            by_cases e' : m.bx nm = ad.block
            · by_cases hL : L = []
              · subst hL; rfl
              · exfalso
                have hpos : 0 < L.length := List.length_pos_iff.2 hL
                obtain ⟨d', hd'⟩ := look_map_inv hn
                have := hR.owb i hi (hne (ad.off + xs.length * tsz P e) (Nat.le_refl _) (by omega)) nm d' hd'
                rw [hreg] at this; exact this e'.symm
            · exact q5 _ e') hst (fun hn => by
            simp only [nonempty] at hn
            have hne' := hne (ad.off + (xs.length + ys.length) * tsz P e) (by omega) hn
            refine ⟨⟨c', T, q1, by simp only; omega⟩, fun j hj hji hjn e' => ?_, fun nm d hd e' => ?_, fun o' ho => ?_⟩
            · have := hR.owx j hj i hi hjn hne' (by rw [hreg]; exact e')
              exact hji this
            · obtain ⟨d', hd'⟩ := look_map_inv hd
              have := hR.owb i hi hne' nm d' hd'
              rw [hreg] at this; exact this e'
            · have := hR.owm i hi hne' o'
              rw [hreg] at this; exact this ho)
        refine ⟨_, _, _, hrun, hR3, .own ?_ (fun x hx' => ?_) ?_, hstep0 _ _ ⟨q6, q7, q8, by rw [q9]; exact Nat.le_refl _, fun b _ hC _ => ?_, fun b d T' f hd _ => ?_⟩ (fun b j _ hm => ?_) rfl, rfl⟩
        · have hrow := row_append (w := putCells w ad.block (ad.off + xs.length * tsz P e) L) (b := ad.block) (off := ad.off) ((okx.stab (fun b j x hcell hm => ⟨hcell, fun ht => hm ((htot b j).1 ht)⟩)).stab hst) ((oky.stab (fun b j x hcell hm => ⟨hcell, fun ht => hm ((htot b j).1 ht)⟩)).stab hst) (fun q hq => by
            by_cases hq1 : q < old.length
            · obtain ⟨ad', cap', e1, e2, e3, e4⟩ := atx q hq1
              cases e1
              rw [getD_append_left' hq1]
              exact hst _ _ _ e3 (fun ht => e4 ((htot _ _).1 ht))
            · have hq2 : q - old.length < L.length := by omega
              have e5 : ad.off + q = ad.off + xs.length * tsz P e + (q - old.length) := by omega
              rw [getD_append_right' (by omega)]
              have h4 := q4 (q - old.length) hq2
              rw [← e5] at h4
              refine ⟨?_, fun ht => ?_⟩
              · rw [cell_of_block q1, h4, List.getD_eq_getElem?_getD, List.getElem?_eq_getElem hq2]; rfl
              · have hne' := hne (ad.off + q) (by omega) (by omega)
                rcases ht with ht | ht
                · have := hR.owm i hi hne' (ad.off + q)
                  rw [hreg] at this; exact this ht
                · rcases hregs0 _ _ _ ht with ⟨nm, d, hd, e'⟩ | ⟨j', h1, h2, h3, h4', h5⟩ | ⟨h1, h2, h3⟩
                  · have := hR.owb i hi hne' nm d hd
                    rw [hreg] at this; exact this e'
                  · exact h2 (hR.owx j' h1 i hi (by simp only [nonempty]; omega) hne' (by rw [hreg]; exact h3))
                  · simp only at h2; omega)
          have e0 : ad = ⟨ad.block, ad.off, none⟩ := by cases ad; simp at hspot; subst hspot; rfl
          have := hrow.repD (ad := some ad) (cap := cap) (by simp; omega) (by simp; omega) (fun _ => by rw [← e0])
          rw [List.length_append] at this; exact this
        · rcases List.mem_append.1 hx' with h | h
          · exact hxr _ h
          · exact hyr _ h
        · exact ⟨hspot, hc, by simp, c', T, q1, by omega⟩
        · by_cases e' : b = ad.block
          · by_cases hL : L = []
            · subst hL; rfl
            · have hpos : 0 < L.length := List.length_pos_iff.2 hL
              subst e'
              exact absurd (hin (ad.off + xs.length * tsz P e) (Nat.le_refl _) (by omega)) (hC _)
          · exact q5 b e'
        · by_cases e' : b = ad.block
          · subst e'
            rw [hblk] at hd; cases hd
            refine ⟨c', q1, q2, fun o' ho => q3 o' ?_⟩
            by_cases hj : o' < ad.off + xs.length * tsz P e
            · exact .inl hj
            · by_cases hj2 : o' < ad.off + cap * tsz P e
              · exact absurd (hin o' (by omega) hj2) ho
              · right; omega
          · exact ⟨d, by rw [q5 b e']; exact hd, rfl, fun _ _ => rfl⟩
        · rcases hregs _ b j hm with hm | ⟨h1, h2, h3⟩
          · exact hm
          · simp only at h1 h2 h3
            subst h1
            exact hin j (by omega) h3
      · cases h
  · -- a new block
    have hLl := oky.len
    have hOl := okx.len
    have hadd : (xs.length + ys.length) * tsz P e = xs.length * tsz P e + ys.length * tsz P e := Nat.add_mul _ _ _
    have hbl : Below w.heap.size w (w.drew.alloc (.cells (old.toArray ++ L.toArray ++ rest) e)) := ((Below.refl _ w).drew).alloc (Nat.le_refl _) _
    have hnew : (w.drew.alloc (.cells (old.toArray ++ L.toArray ++ rest) e)).heap[w.heap.size]? = some (.cells (old.toArray ++ L.toArray ++ rest) e (0, 0)) := World.alloc_heap_new w.drew _
    have hnn : (nc - (xs.length + ys.length)) * tsz P e + (xs.length + ys.length) * tsz P e = nc * tsz P e := by rw [← Nat.add_mul]; congr 1; omega
    rw [hzs] at hrest
    have hsize : (old.toArray ++ L.toArray ++ rest).size = nc * tsz P e := by simp; omega
    have hst : Stab w (Tot Mo (s.bx.map (fun x => (x.1, x.2.strip i))) s.ow m) (w.drew.alloc (.cells (old.toArray ++ L.toArray ++ rest) e))
        (Tot Mo (s.bx.map (fun x => (x.1, x.2.strip i))) (i :: s.ow.filter (fun j => j != i)) { m with ow := fun j => if j = i then (w.heap.size, (xs.length + ys.length) * tsz P e, nc * tsz P e) else m.ow j }) := by
      intro b j x hcell hm
      rw [htot] at hm
      have hb := World.block_lt_of_cell? w _ hcell
      simp only at hb
      refine ⟨(stab_below (fun _ _ => False) hbl b j x hcell (fun h => h)).1, fun ht => ?_⟩
      rcases ht with ht | ht
      · exact hm (.inl ht)
      · rcases hregs _ b j ht with ht | ⟨h1, _, _⟩
        · exact hm (.inr ht)
        · simp only at h1; omega
    have hR3 := hR2.reown i (w.heap.size, (xs.length + ys.length) * tsz P e, nc * tsz P e) hno (.of_below hbl) (fun b x hx' _ => heap_below hbl hx') hbl.size
      (fun nm d hd => by
        obtain ⟨d', hd'⟩ := look_map_inv hd
        obtain ⟨cs, T, hbx⟩ := hR.box nm d' hd'
        exact hbl.block _ (Array.getElem?_eq_some_iff.1 hbx.heap).1) hst (fun _ => by
        refine ⟨⟨_, e, hnew, by simp only; omega⟩, fun j hj hji hjn e' => ?_, fun nm d hd e' => ?_, fun o' ho => ?_⟩
        · obtain ⟨c, T, h1, _⟩ := hR.oww j hj hjn
          have := (Array.getElem?_eq_some_iff.1 h1).1
          simp only at e'; omega
        · obtain ⟨d', hd'⟩ := look_map_inv hd
          obtain ⟨cs, T, hbx⟩ := hR.box nm d' hd'
          have := (Array.getElem?_eq_some_iff.1 hbx.heap).1
          simp only at e'; omega
        · have := hR.mo _ _ ho
          simp only at this; omega)
    refine ⟨_, _, _, hrun, hR3, .own ?_ (fun x hx' => ?_) ?_, hstep0 _ _ (.of_below hbl) (fun b j hb hm => ?_) rfl, rfl⟩
    · have hrow := row_append (w := w.drew.alloc (.cells (old.toArray ++ L.toArray ++ rest) e)) (b := w.heap.size) (off := 0) ((okx.stab (fun b j x hcell hm => ⟨hcell, fun ht => hm ((htot b j).1 ht)⟩)).stab hst) ((oky.stab (fun b j x hcell hm => ⟨hcell, fun ht => hm ((htot b j).1 ht)⟩)).stab hst) (fun q hq => by
        refine ⟨?_, fun ht => ?_⟩
        · rw [Nat.zero_add, cell_of_block hnew, Array.getElem?_append_left (by simpa using hq)]
          rw [List.getD_eq_getElem?_getD, List.getElem?_eq_getElem (by simpa using hq)]
          rw [show old.toArray ++ L.toArray = (old ++ L).toArray from by simp]
          simp only [List.getElem?_toArray, Option.getD_some]
          exact List.getElem?_eq_getElem (by simpa using hq)
        · rcases ht with ht | ht
          · have := hR.mo _ _ ht; omega
          · rcases hregs _ _ _ ht with ht | ⟨_, h2, _⟩
            · have := tot_lt hR (.inr ht); omega
            · simp only at h2; omega)
      have := hrow.repD (ad := some ⟨w.heap.size, 0, none⟩) (cap := nc) (by simp; omega) (by simp; omega) (fun _ => rfl)
      rw [List.length_append] at this; exact this
    · rcases List.mem_append.1 hx' with h | h
      · exact hxr _ h
      · exact hyr _ h
    · exact ⟨rfl, hnc, by simp, _, e, hnew, by simp only [Nat.zero_add]; omega⟩
    · rcases hregs _ b j hm with hm | ⟨h1, _, _⟩
      · exact hm
      · simp only at h1; omega

theorem op_append (hR : Rel Mo m s (a :: sv) w) (hd : ∀ d, o.dst = some d → d < s.n) (hK : OpNext Mo m s o.dst a sv w k K) (h : evOp P S p o s k)
    {c : Call} (hop : o.op = .call c) (hc : c.callee = .builtin .append) : o.wpIn (Wd (rdOf m s)) n P a w K Q := by
  simp only [evOp, hop, hc] at h
  split at h
  · rename_i x y t u ts hargs htys
    obtain ⟨ha1, ha2⟩ := args_inv hargs
    simp only [List.length_cons, List.length_nil] at ha1
    have h0 := ha2 0 (by omega) (by simp)
    have h1 := ha2 1 (by omega) (by simp)
    simp only [List.getElem_cons_zero, List.getElem_cons_succ] at h0 h1
    have v0 := hR.operand (c.args[0]'(by omega))
    have v1 := hR.operand (c.args[1]'(by omega))
    rw [h0] at v0
    rw [h1] at v1
    have ht0 : c.argTypes[0]? = some t := by rw [← Array.getElem?_toList, htys]; rfl
    have hu0 : c.argTypes[1]? = some u := by rw [← Array.getElem?_toList, htys]; rfl
    have harg0 : (c.args.map a.eval)[0]? = some (a.eval (c.args[0]'(by omega))) := by
      rw [Array.getElem?_map, Array.getElem?_eq_getElem (by omega)]; rfl
    have harg1 : (c.args.map a.eval)[1]? = some (a.eval (c.args[1]'(by omega))) := by
      rw [Array.getElem?_map, Array.getElem?_eq_getElem (by omega)]; rfl
    split at h
    · rename_i e ys he hys
      obtain ⟨hue, hez, hzc, hzl, hyr, h⟩ := h
      have hy := v1.slice hys
      split at h
      · rename_i i sz xs
        obtain ⟨hi, rfl, hb, hmx, h⟩ := h
        cases v0 with
        | own hx hxr hsp =>
          obtain ⟨ad, cap, _, _, _, _, ec, _⟩ := hx.sl_inv
          rw [ec] at hx hsp
          rw [ec] at harg0
          obtain ⟨m', v, w', hrun, hR', hv, hst, hlp⟩ := append_core (ty := o.type) hR i xs ys ad cap _ ht0 hu0 (telem_inv he) (telem_inv hue) hez hzc hzl harg0 harg1 hx hxr (.inl ⟨hi, hsp⟩) hy hyr hb hmx
          exact op_value (by simp [hop]) (run_builtin hop hc rfl hrun) (next_put' hK hR' hd hst (by simp only [rdOf, Sa.strip, hlp]) hv h)
      · obtain ⟨hb, hmx, h⟩ := h
        have ec : a.eval c.args[0] = .slice none 0 0 := v0.nil_inv
        rw [ec] at harg0
        obtain ⟨m', v, w', hrun, hR', hv, hst, hlp⟩ := append_core (ty := o.type) (xs := []) hR (o.dst.getD 0 :: p) ys none 0 _ ht0 hu0 (telem_inv he) (telem_inv hue) hez hzc hzl harg0 harg1 repD_nil (by simp) (.inr ⟨rfl, rfl⟩) hy hyr (by simpa using hb) (by simpa using hmx)
        exact op_value (by simp [hop]) (run_builtin hop hc rfl hrun) (next_put' hK hR' hd hst (by simp only [rdOf, Sa.strip, hlp]) hv h)
      · exact h.elim
    · exact h.elim
  · exact h.elim
end Go.Ab
