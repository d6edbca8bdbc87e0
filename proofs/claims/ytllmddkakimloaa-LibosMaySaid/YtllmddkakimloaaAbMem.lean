import Derived.Test.YtllmddkakimloaaAbRun
/-! New variables, stores, appended slices: the relation goes on. -/
namespace Go.Ab
set_option linter.all false
open Go Go.RowKit

/-- Blocks of cells keep their size and kind. -/
def Shape (w w' : World) : Prop := ∀ (b : Nat) (c : Array Value) (T : TypeId), w.heap[b]? = some (.cells c T (0, 0)) → ∃ c', w'.heap[b]? = some (.cells c' T (0, 0)) ∧ c'.size = c.size
theorem Shape.of_below {w w' : World} (h : Below w.heap.size w w') : Shape w w' := fun _ c _ hb => ⟨c, heap_below h hb, rfl⟩
theorem spare_shape {w w' : World} {m m' : Mp} {i : Name} {sz : Nat} {v : Value} (h : Spare w m i sz v) (ho : m'.ow i = m.ow i) (hs : Shape w w') : Spare w' m' i sz v := by
  unfold Spare at h ⊢
  split at h
  · rw [ho]; exact h
  · rw [ho]; obtain ⟨h1, h2, h3, c, T, h4, h5⟩ := h
    obtain ⟨c', h6, h7⟩ := hs _ _ _ h4
    exact ⟨h1, h2, h3, c', T, h6, by omega⟩
  · exact h.elim
theorem below_alloc' (w : World) (o : Obj) : Below w.heap.size w (w.alloc o) := (Below.refl _ _).alloc (Nat.le_refl _) o

theorem Rel.newBox {Mo m s as w} (h : Rel Mo m s as w) {v : V} {c : Value} (hv : RepV w (Tot Mo s.bx s.ow m) m v c) (hd : isCells v = true) (f : Name)
    (hr : AllV (fun v => f ∉ v.bxs) s) (hn : lookN f s.bx = none) (hvb : f ∉ v.bxs) (T : TypeId) :
    Rel Mo { m with bx := fun n => if n = f then w.heap.size else m.bx n } { s with bx := (f, v) :: s.bx } as (w.alloc (.cells c.cells T)) ∧
      Step m s w { m with bx := fun n => if n = f then w.heap.size else m.bx n } { s with bx := (f, v) :: s.bx } (w.alloc (.cells c.cells T)) := by
  have hbl := below_alloc' w (.cells c.cells T)
  have hlt : ∀ n d, lookN n s.bx = some d → m.bx n < w.heap.size := fun n d hd => by
    obtain ⟨cs, T', hb⟩ := h.box n d hd
    exact (Array.getElem?_eq_some_iff.1 hb.heap).1
  have hne : ∀ n d, lookN n s.bx = some d → n ≠ f := fun n d hd e => by rw [e, hn] at hd; cases hd
  have hst : Stab w (Tot Mo s.bx s.ow m) (w.alloc (.cells c.cells T)) (Tot Mo ((f, v) :: s.bx) s.ow { m with bx := fun n => if n = f then w.heap.size else m.bx n }) := by
    intro b o x hx hm
    have hb := World.block_lt_of_cell? w _ hx
    simp only at hb
    refine ⟨(stab_below _ hbl b o x hx hm).1, fun ht => ?_⟩
    rcases ht with ht | ⟨n, d, hl, e⟩ | ht
    · exact hm (.inl ht)
    · simp only [lookN] at hl
      split at hl
      · rename_i e'
        simp only [← e', if_true] at e; omega
      · simp only [hne n d hl, if_false] at e
        exact hm (.inr (.inl ⟨n, d, hl, e⟩))
    · exact hm (.inr (.inr ht))
  have hall : ∀ x : V, f ∉ x.bxs → (∀ n ∈ x.bxs, (if n = f then w.heap.size else m.bx n) = m.bx n) ∧
      (∀ i ∈ x.ows, ∀ sz y, Spare w m i sz y → Spare (w.alloc (.cells c.cells T)) { m with bx := fun n => if n = f then w.heap.size else m.bx n } i sz y) ∧ (∀ l ∈ x.lps, m.lp l = m.lp l) := fun x hx =>
    ⟨fun n hn' => by have : n ≠ f := fun e => hx (e ▸ hn'); simp [this], fun i _ sz y hs => spare_shape hs rfl (.of_below hbl), fun _ _ => rfl⟩
  refine ⟨h.remap (s' := { s with bx := (f, v) :: s.bx }) rfl rfl rfl rfl rfl hst ⟨fun t => hall _ (hr.ts t), fun g hg t => hall _ (hr.sv g hg t), fun n d hd => hall _ (hr.bx n d hd)⟩
    (by simp) (fun b o ho _ => heap_below hbl ho) (fun _ _ _ => rfl) ?_ ?_ ?_ h.owx ?_ h.owm, ?_⟩
  · intro n d hl
    simp only [lookN] at hl
    by_cases e : f = n
    · subst e
      simp only [if_true, Option.some.injEq] at hl
      subst hl
      obtain ⟨h1, _, h3⟩ := hv.cells hd
      refine ⟨c.cells, T, by simp only [if_true]; exact World.alloc_heap_new w _, h1, (hv.cells hd).2.1, fun i hi => ?_⟩
      have ha := hall v hvb
      exact (h3 i hi).mono hst (fun k hk => ha.1 k (bxs_cells v i hi k hk)) (fun k hk => ha.2.1 k (ows_cells v i hi k hk)) (fun k hk => rfl)
    · simp only [e, if_false] at hl
      obtain ⟨cs, T', hb⟩ := h.box n d hl
      have ha := hall d (hr.bx n d hl)
      refine ⟨cs, T', ?_, hb.size, hb.leafs, fun i hi => (hb.rep i hi).mono hst (fun k hk => ha.1 k (bxs_cells d i hi k hk)) (fun k hk => ha.2.1 k (ows_cells d i hi k hk)) (fun k hk => rfl)⟩
      simp only [hne n d hl, if_false]
      exact heap_below hbl hb.heap
  · intro n d n' d' hl hl' e
    simp only [lookN] at hl hl'
    by_cases e1 : f = n <;> by_cases e2 : f = n'
    · exact e1.symm.trans e2
    · simp only [e2, if_false] at hl'
      simp only [← e1, if_true, hne n' d' hl', if_false] at e
      have := hlt n' d' hl'; omega
    · simp only [e1, if_false] at hl
      simp only [← e2, if_true, hne n d hl, if_false] at e
      have := hlt n d hl; omega
    · simp only [e1, e2, if_false] at hl hl'
      simp only [hne n d hl, hne n' d' hl', if_false] at e
      exact h.inj n d n' d' hl hl' e
  · intro i hi hn'
    obtain ⟨cs, T', h1, h2⟩ := h.oww i hi hn'
    exact ⟨cs, T', heap_below hbl h1, h2⟩
  · intro i hi hn' n d hl
    simp only [lookN] at hl
    by_cases e : f = n
    · obtain ⟨cs, T', h1, h2⟩ := h.oww i hi hn'
      have := (Array.getElem?_eq_some_iff.1 h1).1
      simp only [← e, if_true]
      omega
    · simp only [e, if_false] at hl
      simp only [hne n d hl, if_false]
      exact h.owb i hi hn' n d hl
  · refine ⟨.of_below hbl, fun b o hb hm => ?_, fun b _ hl => hl, rfl, rfl, fun _ _ => rfl⟩
    rcases hm with ⟨n, d, hl, e⟩ | hm
    · simp only [lookN] at hl
      split at hl
      · rename_i e'
        simp only [← e', if_true] at e; omega
      · simp only [hne n d hl, if_false] at e
        exact .inl ⟨n, d, hl, e⟩
    · exact .inr hm

/-- A store into a variable. -/
theorem Rel.storeBox {Mo m s as w} (h : Rel Mo m s as w) (f : Name) {c c' : V} (hf : lookN f s.bx = some c) (off : Nat) (vs : List Value)
    (hlv : ∀ v ∈ vs, leaf v = true) (hle : off + vs.length ≤ c.cells.length) (hlen : c'.cells.length = c.cells.length)
    (hrep : ∀ (cs cs' : Array Value), (∀ i (hi : i < c.cells.length), RepV w (Tot Mo s.bx s.ow m) m c.cells[i] (cs.getD i undef)) → cs.size = c.cells.length → cs'.size = cs.size →
      (∀ o, (o < off ∨ off + vs.length ≤ o) → cs'[o]? = cs[o]?) → (∀ j (hj : j < vs.length), cs'[off + j]? = some vs[j]) →
      ∀ i (hi : i < c'.cells.length), RepV w (Tot Mo s.bx s.ow m) m c'.cells[i] (cs'.getD i undef)) :
    Rel Mo m { s with bx := setN f c' s.bx } as (putCells w (m.bx f) off vs) ∧ Step m s w m { s with bx := setN f c' s.bx } (putCells w (m.bx f) off vs) := by
  obtain ⟨cs, T, hb⟩ := h.box f c hf
  obtain ⟨cs', h1, h2, h3, h4, h5, h6, h7, h8, h9⟩ := putCells_spec vs w (m.bx f) off cs T hb.heap (by rw [hb.size]; exact hle)
  have hlook : ∀ n d, lookN n (setN f c' s.bx) = some d → (n = f ∧ d = c') ∨ (n ≠ f ∧ lookN n s.bx = some d) := by
    intro n d hl
    rw [lookN_setN] at hl
    by_cases e : n = f
    · simp only [e, if_true, hf, Option.map_some, Option.some.injEq] at hl; exact .inl ⟨e, hl.symm⟩
    · simp only [e, if_false] at hl; exact .inr ⟨e, hl⟩
  have hlook' : ∀ n d, lookN n s.bx = some d → ∃ d', lookN n (setN f c' s.bx) = some d' := by
    intro n d hl
    rw [lookN_setN]
    by_cases e : n = f
    · exact ⟨c', by simp [e, hf]⟩
    · exact ⟨d, by simp [e, hl]⟩
  have hmut : ∀ b o, Mut (setN f c' s.bx) s.ow m b o ↔ Mut s.bx s.ow m b o := by
    intro b o
    constructor
    · rintro (⟨n, d, hl, e⟩ | hm)
      · rcases hlook n d hl with ⟨rfl, _⟩ | ⟨_, hl'⟩
        · exact .inl ⟨n, c, hf, e⟩
        · exact .inl ⟨n, d, hl', e⟩
      · exact .inr hm
    · rintro (⟨n, d, hl, e⟩ | hm)
      · obtain ⟨d', hd'⟩ := hlook' n d hl
        exact .inl ⟨n, d', hd', e⟩
      · exact .inr hm
  have hst : Stab w (Tot Mo s.bx s.ow m) (putCells w (m.bx f) off vs) (Tot Mo (setN f c' s.bx) s.ow m) := by
    intro b o x hx hm
    have hne : b ≠ m.bx f := fun e => hm (.inr (.inl ⟨f, c, hf, e⟩))
    refine ⟨?_, fun ht => hm (ht.imp id (hmut b o).1)⟩
    rw [World.cell?_of_block (w := w) (h5 b hne)]; exact hx
  have hsh : Shape w (putCells w (m.bx f) off vs) := by
    intro b d T' hd
    by_cases e : b = m.bx f
    · subst e
      rw [hb.heap] at hd; cases hd
      exact ⟨cs', h1, h2⟩
    · exact ⟨d, by rw [h5 b e]; exact hd, rfl⟩
  have hall : ∀ x : V, (∀ n ∈ x.bxs, m.bx n = m.bx n) ∧ (∀ i ∈ x.ows, ∀ sz y, Spare w m i sz y → Spare (putCells w (m.bx f) off vs) m i sz y) ∧ (∀ l ∈ x.lps, m.lp l = m.lp l) := fun x =>
    ⟨fun _ _ => rfl, fun i _ sz y hs => spare_shape hs rfl hsh, fun _ _ => rfl⟩
  refine ⟨h.remap (s' := { s with bx := setN f c' s.bx }) rfl rfl rfl rfl rfl hst ⟨fun t => hall _, fun g hg t => hall _, fun n d hd => hall _⟩
    (by rw [h9]; exact Nat.le_refl _) (fun b o ho hno => ?_) (fun _ _ _ => rfl) ?_ ?_ ?_ h.owx ?_ h.owm, ?_⟩
  · have hne : b ≠ m.bx f := fun e => by subst e; rw [hb.heap] at ho; cases ho; exact hno _ _ _ rfl
    rw [h5 b hne]; exact ho
  · intro n d hl
    rcases hlook n d hl with ⟨rfl, rfl⟩ | ⟨hne, hl'⟩
    · refine ⟨cs', T, h1, by rw [h2, hb.size, hlen], fun i hi => ?_, fun i hi => ?_⟩
      · by_cases ho : i < off ∨ off + vs.length ≤ i
        · have := hb.leafs i (by omega)
          rw [Array.getD_eq_getD_getElem?] at this ⊢
          rw [h3 i ho]; exact this
        · have h4' := h4 (i - off) (by omega)
          rw [show off + (i - off) = i from by omega] at h4'
          rw [Array.getD_eq_getD_getElem?, h4']; exact hlv _ (List.getElem_mem _)
      have := hrep cs cs' hb.rep hb.size h2 h3 h4 i hi
      exact this.mono hst (fun _ _ => rfl) (fun i _ sz y hs => spare_shape hs rfl hsh) (fun _ _ => rfl)
    · obtain ⟨ds, T', hd⟩ := h.box n d hl'
      have hne' : m.bx n ≠ m.bx f := fun e => hne (h.inj n d f c hl' hf e)
      exact ⟨ds, T', by rw [h5 _ hne']; exact hd.heap, hd.size, hd.leafs, fun i hi => (hd.rep i hi).mono hst (fun _ _ => rfl) (fun i _ sz y hs => spare_shape hs rfl hsh) (fun _ _ => rfl)⟩
  · intro n d n' d' hl hl' e
    have key : ∀ n d, lookN n (setN f c' s.bx) = some d → ∃ d', lookN n s.bx = some d' := fun n d hl => by
      rcases hlook n d hl with ⟨rfl, _⟩ | ⟨_, hl'⟩
      · exact ⟨c, hf⟩
      · exact ⟨d, hl'⟩
    obtain ⟨x, hx⟩ := key n d hl
    obtain ⟨y, hy⟩ := key n' d' hl'
    exact h.inj n x n' y hx hy e
  · intro i hi hn
    obtain ⟨d, T', hd, hle'⟩ := h.oww i hi hn
    obtain ⟨d', hd', hs'⟩ := hsh _ _ _ hd
    exact ⟨d', T', hd', by omega⟩
  · intro i hi hn n d hl
    rcases hlook n d hl with ⟨rfl, _⟩ | ⟨_, hl'⟩
    · exact h.owb i hi hn n c hf
    · exact h.owb i hi hn n d hl'
  · refine ⟨⟨h6, h7, h8, by rw [h9]; exact Nat.le_refl _, fun b hb' hC _ => ?_, fun b d T' g hd _ => ?_⟩, fun b o _ hm => (hmut b o).1 hm, fun b _ hl => hl, rfl, rfl, fun _ _ => rfl⟩
    · exact h5 b (fun e => hC 0 (.inl ⟨f, c, hf, e⟩))
    · by_cases e : b = m.bx f
      · subst e
        rw [hb.heap] at hd; cases hd
        exact ⟨cs', h1, h2, fun o ho => absurd (.inl ⟨f, c, hf, rfl⟩) ho⟩
      · exact ⟨d, by rw [h5 b e]; exact hd, rfl, fun _ _ => rfl⟩

/-- The region of a slice of its own turns; no value bears its name while it does. -/
theorem Rel.reown {Mo m s as w w'} (h : Rel Mo m s as w) (i : Name) (reg : Nat × Nat × Nat) (hno : AllV (fun v => i ∉ v.ows) s)
    (hsh : Shape w w') (hnc : ∀ (b : Nat) (o : Obj), w.heap[b]? = some o → (∀ c T f, o ≠ .cells c T f) → w'.heap[b]? = some o) (hsize : w.heap.size ≤ w'.heap.size)
    (hbx : ∀ n c, lookN n s.bx = some c → w'.heap[m.bx n]? = w.heap[m.bx n]?)
    (hst : Stab w (Tot Mo s.bx s.ow m) w' (Tot Mo s.bx (i :: s.ow.filter (fun j => j != i)) { m with ow := fun j => if j = i then reg else m.ow j }))
    (hreg : nonempty reg → (∃ c T, w'.heap[reg.1]? = some (.cells c T (0, 0)) ∧ reg.2.2 ≤ c.size) ∧
      (∀ j ∈ s.ow, j ≠ i → nonempty (m.ow j) → (m.ow j).1 ≠ reg.1) ∧ (∀ n c, lookN n s.bx = some c → reg.1 ≠ m.bx n) ∧ ∀ o, ¬ Mo reg.1 o) :
    Rel Mo { m with ow := fun j => if j = i then reg else m.ow j } { s with ow := i :: s.ow.filter (fun j => j != i) } as w' := by
  have hmem : ∀ j, j ∈ s.ow.filter (fun j => j != i) → j ∈ s.ow ∧ j ≠ i := fun j hj => by simpa using hj
  have hall : ∀ v : V, i ∉ v.ows → (∀ n ∈ v.bxs, m.bx n = m.bx n) ∧
      (∀ j ∈ v.ows, ∀ sz x, Spare w m j sz x → Spare w' { m with ow := fun j => if j = i then reg else m.ow j } j sz x) ∧ (∀ l ∈ v.lps, m.lp l = m.lp l) := fun v hv =>
    ⟨fun _ _ => rfl, fun j hj sz x hs => spare_shape hs (by have : j ≠ i := fun e => hv (e ▸ hj); simp [this]) hsh, fun _ _ => rfl⟩
  refine h.remap (s' := { s with ow := i :: s.ow.filter (fun j => j != i) }) rfl rfl rfl rfl rfl hst ⟨fun t => hall _ (hno.ts t), fun f hf t => hall _ (hno.sv f hf t), fun n c hn => hall _ (hno.bx n c hn)⟩
    hsize hnc (fun _ _ _ => rfl) ?_ h.inj ?_ ?_ ?_ (fun j hj hn => by
      rcases List.mem_cons.1 hj with e | hj
      · simp only [e, if_true] at hn ⊢; exact (hreg hn).2.2.2
      · have := hmem j hj
        simp only [this.2, if_false] at hn ⊢; exact h.owm j this.1 hn)
  · intro n c hn
    obtain ⟨cs, T, hb⟩ := h.box n c hn
    refine ⟨cs, T, by rw [hbx n c hn]; exact hb.heap, hb.size, hb.leafs, fun k hk => ?_⟩
    have hc := hall _ (hno.bx n c hn)
    exact (hb.rep k hk).mono hst (fun _ _ => rfl) (fun j hj => hc.2.1 j (ows_cells c k hk j hj)) (fun _ _ => rfl)
  · intro j hj hn
    rcases List.mem_cons.1 hj with e | hj
    · simp only [e, if_true] at hn ⊢; exact (hreg hn).1
    · have := hmem j hj
      simp only [this.2, if_false] at hn ⊢
      obtain ⟨d, T, hd, hle⟩ := h.oww j this.1 hn
      obtain ⟨d', hd', hs'⟩ := hsh _ _ _ hd
      exact ⟨d', T, hd', by omega⟩
  · intro j hj k hk h1 h2 e
    rcases List.mem_cons.1 hj with hj1 | hj1 <;> rcases List.mem_cons.1 hk with hk1 | hk1
    · rw [hj1, hk1]
    · have := hmem k hk1
      simp only [hj1, if_true, this.2, if_false] at h1 h2 e; exact absurd e.symm ((hreg h1).2.1 k this.1 this.2 h2)
    · have := hmem j hj1
      simp only [hk1, if_true, this.2, if_false] at h1 h2 e; exact absurd e ((hreg h2).2.1 j this.1 this.2 h1)
    · have h3 := hmem j hj1
      have h4 := hmem k hk1
      simp only [h3.2, h4.2, if_false] at h1 h2 e; exact h.owx j h3.1 k h4.1 h1 h2 e
  · intro j hj hn n c hc
    rcases List.mem_cons.1 hj with hj1 | hj1
    · simp only [hj1, if_true] at hn ⊢; exact (hreg hn).2.2.1 n c hc
    · have := hmem j hj1
      simp only [this.2, if_false] at hn ⊢; exact h.owb j this.1 hn n c hc
end Go.Ab
