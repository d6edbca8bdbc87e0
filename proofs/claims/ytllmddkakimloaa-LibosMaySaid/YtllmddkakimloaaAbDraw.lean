import Derived.Test.YtllmddkakimloaaAbPure
/-! Regions whose operations come in any order. -/
namespace Go.Ab
set_option linter.all false
open Go Go.RowKit
variable {P : Program} {w : World} {n : Nat} {Mo : Cells} {m : Mp} {s : Sa} {p : Name} {k : Sa → Prop}

/-- A call of a function on data. -/
def PCall (P : Program) (g : FuncId) (args : List V) (s : Sa) (k : V → Sa → Prop) : Prop := ∃ ds rs, toDs V.toD args = some ds ∧ PureOK P g ds rs ∧ k (mkRes (rs.map .d)) s
theorem PCall_pure {f : FuncId} {args : List V} {ds rs : List D} {k : V → Sa → Prop} (h : PureOK P f ds rs) (hd : toDs V.toD args = some ds) (hk : k (mkRes (rs.map .d)) s) : PCall P f args s k := ⟨ds, rs, hd, h, hk⟩
def semsP (P : Program) : Sems := { call := fun _ g args s k => PCall P g args s k, yld := fun _ _ _ _ _ => False, code := fun _ _ _ _ => False }

/-- What only looks. -/
def calm : Op → Bool
  | .move _ | .pick _ _ _ | .load _ _ | .fieldAddr _ _ _ | .field _ _ _ | .indexAddr _ _ _ | .binOp _ _ _ _ _ | .unOp _ _ _ | .convert _ _ _ | .build _ _ | .slice _ _ _ _ none | .extract _ _ | .nilCheck _ => true
  | .buildSlice _ l _ => l != 0
  | .call c => match c.callee with | .builtin .len => true | .value _ => true | _ => false
  | _ => false

theorem binV_ex {t : TypeId} {op : BinOp} {x y : Value} {k : V → Prop} (h : binV P t op x y k) : ∃ v, k v ∧ ∀ k' : V → Prop, k' v → binV P t op x y k' := by
  unfold binV at h ⊢
  split at h
  · cases op <;> simp only at h ⊢ <;> first
      | exact ⟨_, h.2, fun k' hk => ⟨h.1, hk⟩⟩
      | exact ⟨_, h.2.2, fun k' hk => ⟨h.1, h.2.1, hk⟩⟩
      | (simp only [cmpInt, arith] at h ⊢; exact ⟨_, h.2, fun k' hk => ⟨h.1, hk⟩⟩)
      | (simp only [cmpInt, arith] at h ⊢; exact h.2.elim)
  · cases op <;> simp only at h ⊢ <;> first
      | exact ⟨_, h.2, fun k' hk => ⟨h.1, hk⟩⟩
      | exact h.2.elim
  · cases op <;> simp only at h ⊢ <;> first
      | exact ⟨_, h, fun k' hk => hk⟩
      | exact h.elim
  · exact h.elim
theorem unV_ex {op : UnOp} {x : Value} {k : V → Prop} (h : unV op x k) : ∃ v, k v ∧ ∀ k' : V → Prop, k' v → unV op x k' := by
  unfold unV at h ⊢
  split at h
  · exact ⟨_, h, fun k' hk => hk⟩
  · exact ⟨_, h, fun k' hk => hk⟩
  · exact h.elim

def V.notNil : V → Bool
  | .nil => false
  | _ => true
/-- No slice is asked whether it is nil. -/
def nilOK (s : Sa) : Op → Bool
  | .binOp _ _ _ y _ => (s.get y).notNil
  | _ => true

/-- What only looks answers the same wherever its operands do. -/
theorem calm_congr {o : Oper} (hc : calm o.op = true) (hnil : nilOK s o.op = true) (h : evOp P (semsP P) p o s k) : ∃ v, k (s.put o.dst v) ∧
    ∀ s' : Sa, s'.bx = s.bx → s'.n = s.n → (∀ x ∈ o.op.operands, s'.get x = s.get x) → ∀ k' : Sa → Prop, k' (s'.put o.dst v) → evOp P (semsP P) p o s' k' := by
  cases hop : o.op with
  | move x =>
    simp only [evOp, hop] at h ⊢
    exact ⟨_, h, fun s' hb hn hg k' hk => by rw [hg x (by simp [Op.operands])]; exact hk⟩
  | pick c x y =>
    simp only [evOp, hop] at h ⊢
    split at h
    · rename_i t hct
      cases t with
      | true => exact ⟨_, h.1 rfl, fun s' hb hn hg k' hk => by
          rw [hg c (by simp [Op.operands]), hct, hg x (by simp [Op.operands])]; exact ⟨fun _ => hk, fun e => (by cases e)⟩⟩
      | false => exact ⟨_, h.2 rfl, fun s' hb hn hg k' hk => by
          rw [hg c (by simp [Op.operands]), hct, hg y (by simp [Op.operands])]; exact ⟨fun e => (by cases e), fun _ => hk⟩⟩
    · exact h.elim
  | load t x =>
    simp only [evOp, hop] at h ⊢
    split at h
    · rename_i ag hag
      obtain ⟨h0, h⟩ := h
      split at h
      · rename_i nm off hx
        split at h
        · rename_i c hcb
          exact ⟨_, h.2, fun s' hb hn hg k' hk => by simp only [hag, hg x (by simp [Op.operands]), hx, hb, hcb]; exact ⟨h0, h.1, hk⟩⟩
        · exact h.elim
      · rename_i cs hx
        exact ⟨_, h.2, fun s' hb hn hg k' hk => by simp only [hag, hg x (by simp [Op.operands]), hx]; exact ⟨h0, h.1, hk⟩⟩
      · exact h.elim
    · exact h.elim
  | fieldAddr t x i =>
    simp only [evOp, hop] at h ⊢
    split at h
    · rename_i off ft hf
      obtain ⟨h0, h⟩ := h
      split at h
      · rename_i nm o' hx
        exact ⟨_, h, fun s' hb hn hg k' hk => by simp only [hf, hg x (by simp [Op.operands]), hx]; exact ⟨h0, hk⟩⟩
      · rename_i cs hx
        exact ⟨_, h, fun s' hb hn hg k' hk => by simp only [hf, hg x (by simp [Op.operands]), hx]; exact ⟨h0, hk⟩⟩
      · exact h.elim
    · exact h.elim
  | field t x i =>
    simp only [evOp, hop] at h ⊢
    split at h
    · rename_i off ft hf
      split at h
      · rename_i ag hag
        exact ⟨_, h.2.2.2, fun s' hb hn hg k' hk => by simp only [hf, hag, hg x (by simp [Op.operands])]; exact ⟨h.1, h.2.1, h.2.2.1, hk⟩⟩
      · exact h.elim
    · exact h.elim
  | indexAddr t x ix =>
    simp only [evOp, hop] at h ⊢
    split at h
    · rename_i i hi
      split at h
      · rename_i e he
        split at h
        · rename_i xs hxs
          obtain ⟨h1, h2, h3, h4⟩ := h
          have hlt : i.toNat < xs.length := by omega
          obtain ⟨h5, h6⟩ := h4 _ (List.getElem?_eq_getElem hlt)
          refine ⟨_, h6, fun s' hb hn hg k' hk => ?_⟩
          simp only [hg x (by simp [Op.operands]), hg ix (by simp [Op.operands]), hi, he, hxs]
          refine ⟨h1, h2, h3, fun x hx => ?_⟩
          rw [List.getElem?_eq_getElem hlt] at hx
          cases hx
          exact ⟨h5, hk⟩
        · exact h.elim
      · rename_i he
        split at h
        · rename_i nn e hne
          obtain ⟨h1, h2, h3, h4, h⟩ := h
          split at h
          · rename_i b o' hx
            exact ⟨_, h, fun s' hb hn hg k' hk => by simp only [hg x (by simp [Op.operands]), hg ix (by simp [Op.operands]), hi, he, hne, hx]; exact ⟨h1, h2, h3, h4, hk⟩⟩
          · rename_i cs hx
            exact ⟨_, h, fun s' hb hn hg k' hk => by simp only [hg x (by simp [Op.operands]), hg ix (by simp [Op.operands]), hi, he, hne, hx]; exact ⟨h1, h2, h3, h4, hk⟩⟩
          · exact h.elim
        · exact h.elim
    · exact h.elim
  | binOp op t x y u =>
    simp only [evOp, hop] at h ⊢
    split at h
    · rename_i b hb
      split at h
      · rename_i a ha
        obtain ⟨v, hv, hk⟩ := binV_ex h
        exact ⟨v, hv, fun s' hb' hn hg k' hk' => by simp only [hg x (by simp [Op.operands]), hg y (by simp [Op.operands]), ha, hb]; exact hk (fun v => k' (s'.put o.dst v)) hk'⟩
      · exact h.elim
    · rename_i ys hys
      split at h
      · rename_i xs hxs
        split at h
        · rename_i ks hks
          split at h
          · rename_i r hr
            split at h
            · exact ⟨_, h, fun s' hb' hn hg k' hk' => by simp only [hg x (by simp [Op.operands]), hg y (by simp [Op.operands]), hxs, hys, hks, hr]; exact hk'⟩
            · exact ⟨_, h, fun s' hb' hn hg k' hk' => by simp only [hg x (by simp [Op.operands]), hg y (by simp [Op.operands]), hxs, hys, hks, hr]; exact hk'⟩
            · exact h.elim
          · exact h.elim
        · exact h.elim
      · exact h.elim
    · rename_i hy
      simp [hop, nilOK, hy, V.notNil] at hnil
    · exact h.elim
  | unOp op t x =>
    simp only [evOp, hop] at h ⊢
    split at h
    · rename_i a ha
      obtain ⟨v, hv, hk⟩ := unV_ex h
      exact ⟨v, hv, fun s' hb' hn hg k' hk' => by simp only [hg x (by simp [Op.operands]), ha]; exact hk (fun v => k' (s'.put o.dst v)) hk'⟩
    · exact h.elim
  | convert t u x =>
    simp only [evOp, hop] at h ⊢
    split at h
    · rename_i kd q c hu hx
      exact ⟨_, h.2, fun s' hb' hn hg k' hk' => by simp only [hg x (by simp [Op.operands]), hu, hx]; exact ⟨h.1, hk'⟩⟩
    · exact h.elim
  | build t ps =>
    simp only [evOp, hop] at h ⊢
    obtain ⟨h1, h2, h⟩ := h
    split at h
    · rename_i cs hcs
      refine ⟨_, h, fun s' hb' hn hg k' hk' => ?_⟩
      have e : (ps.toList.map fun x => (x.1, s'.get x.2)) = ps.toList.map fun x => (x.1, s.get x.2) := List.map_congr_left fun x hx => by
        rw [hg x.2 (by simp only [Op.operands, List.mem_toArray, List.mem_map]; exact ⟨x, hx, rfl⟩)]
      simp only [e, hcs]
      exact ⟨h1, h2, hk'⟩
    · exact h.elim
  | buildSlice t l ps =>
    have hl : l ≠ 0 := by simpa [calm, hop] using hc
    simp only [evOp, hop] at h ⊢
    split at h
    · rename_i e he
      obtain ⟨h1, h2, h3, h4, h⟩ := h
      split at h
      · rename_i xs hxs
        rw [if_neg hl] at h
        refine ⟨_, h.2, fun s' hb' hn hg k' hk' => ?_⟩
        have e' : (ps.toList.map fun x => s'.get x.2) = ps.toList.map fun x => s.get x.2 := List.map_congr_left fun x hx => by
          rw [hg x.2 (by simp only [Op.operands, List.mem_toArray, List.mem_map]; exact ⟨x, hx, rfl⟩)]
        simp only [he, e', hxs, if_neg hl]
        exact ⟨h1, h2, h3, h4, h.1, hk'⟩
      · exact h.elim
    · exact h.elim
  | slice t x lo hi mx =>
    cases mx with
    | some y => simp [calm, hop] at hc
    | none =>
      cases lo with
      | none =>
        cases hi with
        | none =>
          simp only [evOp, hop] at h ⊢
          split at h
          · rename_i e xs l he hxs hl
            exact ⟨_, h.2.2.2.2.2, fun s' hb' hn hg k' hk' => by simp only [hg x (by simp [Op.operands]), he, hxs, hl]; exact ⟨h.1, h.2.1, h.2.2.1, h.2.2.2.1, h.2.2.2.2.1, hk'⟩⟩
          · exact h.elim
        | some hi =>
          simp only [evOp, hop] at h ⊢
          split at h
          · rename_i e xs l he hxs hl
            split at h
            · rename_i hh hhi
              exact ⟨_, h.2.2.2.2.2, fun s' hb' hn hg k' hk' => by simp only [hg x (by simp [Op.operands]), hg hi (by simp [Op.operands]), he, hxs, hl, hhi]; exact ⟨h.1, h.2.1, h.2.2.1, h.2.2.2.1, h.2.2.2.2.1, hk'⟩⟩
            · exact h.elim
          · exact h.elim
      | some lo =>
        cases hi with
        | none =>
          simp only [evOp, hop] at h ⊢
          split at h
          · rename_i e xs l he hxs hl
            exact ⟨_, h.2.2.2.2.2, fun s' hb' hn hg k' hk' => by simp only [hg x (by simp [Op.operands]), hg lo (by simp [Op.operands]), he, hxs, hl]; exact ⟨h.1, h.2.1, h.2.2.1, h.2.2.2.1, h.2.2.2.2.1, hk'⟩⟩
          · exact h.elim
        | some hi =>
          simp only [evOp, hop] at h ⊢
          split at h
          · rename_i e xs l he hxs hl
            split at h
            · rename_i hh hhi
              exact ⟨_, h.2.2.2.2.2, fun s' hb' hn hg k' hk' => by simp only [hg x (by simp [Op.operands]), hg lo (by simp [Op.operands]), hg hi (by simp [Op.operands]), he, hxs, hl, hhi]; exact ⟨h.1, h.2.1, h.2.2.1, h.2.2.2.1, h.2.2.2.2.1, hk'⟩⟩
            · exact h.elim
          · exact h.elim
  | extract x i =>
    simp only [evOp, hop] at h ⊢
    split at h
    · rename_i vs hx
      split at h
      · rename_i v hv
        exact ⟨_, h, fun s' hb' hn hg k' hk' => by simp only [hg x (by simp [Op.operands]), hx, hv]; exact hk'⟩
      · exact h.elim
    · exact h.elim
  | nilCheck x =>
    simp only [evOp, hop] at h ⊢
    split at h
    · rename_i nm off hx
      exact ⟨_, h, fun s' hb' hn hg k' hk' => by simp only [hg x (by simp [Op.operands]), hx]; exact hk'⟩
    · rename_i cs hx
      exact ⟨_, h, fun s' hb' hn hg k' hk' => by simp only [hg x (by simp [Op.operands]), hx]; exact hk'⟩
    · exact h.elim
  | call c =>
    have eargs : ∀ s' : Sa, (∀ z ∈ (Op.call c).operands, s'.get z = s.get z) → c.args.toList.map s'.get = c.args.toList.map s.get := fun s' hg =>
      List.map_congr_left fun x hx => hg x (by simp only [Op.operands, Call.operands]; simp; exact .inr (by simpa using hx))
    cases hcc : c.callee with
    | value f =>
      simp only [evOp, hop, hcc] at h ⊢
      have hf : ∀ s' : Sa, (∀ z ∈ (Op.call c).operands, s'.get z = s.get z) → s'.get f = s.get f := fun s' hg => hg f (by simp only [Op.operands, Call.operands, hcc]; simp)
      split at h
      · rename_i g x y hg'
        obtain ⟨h1, ds, rs, h2, h3, h4, h5⟩ := h
        exact ⟨_, h5, fun s' hb' hn hg k' hk' => by simp only [hf s' hg, hg', eargs s' hg]; exact ⟨h1, ds, rs, h2, h3, fun d hd => by rw [hn]; exact h4 d hd, hk'⟩⟩
      · rename_i g cap hg'
        obtain ⟨h1, ds, rs, h2, h3, h4, h5⟩ := h
        exact ⟨_, h5, fun s' hb' hn hg k' hk' => by simp only [hf s' hg, hg', eargs s' hg]; exact ⟨h1, ds, rs, h2, h3, fun d hd => by rw [hn]; exact h4 d hd, hk'⟩⟩
      · exact h.elim
      · exact h.elim
    | invoke r nm => simp [evOp, hop, hcc] at h
    | builtin b =>
      cases b with
      | len =>
        simp only [evOp, hop, hcc] at h ⊢
        split at h
        · rename_i x t ts ha ht
          split at h
          · rename_i e xs he hxs
            exact ⟨_, h, fun s' hb' hn hg k' hk' => by rw [eargs s' hg]; simp only [ha, ht, he, hxs]; exact hk'⟩
          · rename_i hno
            split at h
            · rename_i b hu
              have hno' : telem P t = none := by unfold telem; rw [hu]
              refine ⟨_, h, fun s' hb' hn hg k' hk' => ?_⟩
              rw [eargs s' hg]
              simp only [ha, ht, hu, hno']
              exact hk'
            · rename_i nn e z hu
              have hno' : telem P t = none := by unfold telem; rw [hu]
              refine ⟨_, h.2, fun s' hb' hn hg k' hk' => ?_⟩
              rw [eargs s' hg]
              simp only [ha, ht, hu, hno']
              exact ⟨h.1, hk'⟩
            · exact h.elim
        · exact h.elim
      | _ => simp [calm, hop, hcc] at hc
  | _ => simp [calm, hop] at hc
end Go.Ab
