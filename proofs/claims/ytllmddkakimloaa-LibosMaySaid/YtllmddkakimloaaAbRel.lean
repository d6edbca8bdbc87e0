import Derived.Test.YtllmddkakimloaaAbEv
/-! What an abstract state says of a world. -/
namespace Go.Ab
set_option linter.all false
open Go Go.RowKit

abbrev Cells := Nat → Nat → Prop

structure Mp where
  bx : Name → Nat
  ow : Name → Nat × Nat × Nat
  lp : Name → Nat

def okLeaf : Value → Prop
  | .bool _ => True
  | .nilFunc => True
  | .pointer a => a = none
  | .map r => r = none
  | .nilIface => True
  | .int k n => inR k n = true
  | .string s => s.size ≤ 9223372036854775807
  | .func _ a b => a = #[] ∧ b = #[]
  | _ => False

/-- The value of one cell. -/
def leaf : Value → Bool
  | .agg _ => false
  | .tuple _ => false
  | _ => true

inductive RepD (w : World) (M : Cells) : D → Value → Prop
  | v {x : Value} (h : okLeaf x) : RepD w M (.v x) x
  | agg {ds : List D} {vs : Array Value} (hs : vs.size = ds.length) (hl : ∀ i, i < ds.length → leaf (vs.getD i undef) = true)
      (h : ∀ i (hi : i < ds.length), RepD w M ds[i] (vs.getD i undef)) : RepD w M (.agg ds) (.agg vs)
  | sl {xs : List D} {a : Option Addr} {cap : Nat} (sz b off : Nat) (cv : Nat → Nat → Value)
      (hc : xs.length ≤ cap) (hm : xs.length ≤ 9223372036854775807)
      (ha : xs ≠ [] → a = some ⟨b, off, none⟩)
      (hsz : ∀ i (hi : i < xs.length), xs[i].cells.length = sz)
      (hcell : ∀ i (hi : i < xs.length) j (hj : j < xs[i].cells.length), w.cell? ⟨b, off + i * sz + j, none⟩ = some (cv i j) ∧ leaf (cv i j) = true ∧ ¬ M b (off + i * sz + j))
      (hrep : ∀ i (hi : i < xs.length) j (hj : j < xs[i].cells.length), RepD w M (xs[i].cells)[j] (cv i j)) :
      RepD w M (.sl xs) (.slice a xs.length cap)

def Spare (w : World) (m : Mp) (id : Name) (sz : Nat) : Value → Prop
  | .slice none _ cap => cap = 0 ∧ m.ow id = (0, 0, 0)
  | .slice (some a) n cap => a.spot = none ∧ n ≤ cap ∧ m.ow id = (a.block, a.off + n * sz, a.off + cap * sz) ∧
      ∃ c T, w.heap[a.block]? = some (.cells c T (0, 0)) ∧ a.off + cap * sz ≤ c.size
  | _ => False

inductive RepV (w : World) (M : Cells) (m : Mp) : V → Value → Prop
  | d {x : D} {v : Value} (h : RepD w M x v) : RepV w M m (.d x) v
  | nil : RepV w M m .nil (.slice none 0 0)
  | own {id : Name} {sz : Nat} {xs : List D} {v : Value} (h : RepD w M (.sl xs) v) (hsz : ∀ x ∈ xs, x.cells.length = sz) (hs : Spare w m id sz v) : RepV w M m (.own id sz xs) v
  | ptr {n : Name} {off : Nat} : RepV w M m (.ptr n off) (.pointer (some ⟨m.bx n, off, none⟩))
  | ref {cs : List D} (b off : Nat) (cv : Nat → Value)
      (hcell : ∀ j (hj : j < cs.length), w.cell? ⟨b, off + j, none⟩ = some (cv j) ∧ leaf (cv j) = true ∧ ¬ M b (off + j))
      (hrep : ∀ j (hj : j < cs.length), RepD w M cs[j] (cv j)) : RepV w M m (.ref cs) (.pointer (some ⟨b, off, none⟩))
  | fn {f : FuncId} {cap : List V} {vs : Array Value} (hs : vs.size = cap.length)
      (h : ∀ i (hi : i < cap.length), RepV w M m cap[i] (vs.getD i undef)) : RepV w M m (.fn f cap) (.func (.func f) #[] vs)
  | yld {l : Name} : RepV w M m (.yld l) (.func (.yield (m.lp l)) #[] #[])
  | agg {cs : List V} {vs : Array Value} (hs : vs.size = cs.length) (hl : ∀ i, i < cs.length → leaf (vs.getD i undef) = true)
      (h : ∀ i (hi : i < cs.length), RepV w M m cs[i] (vs.getD i undef)) : RepV w M m (.agg cs) (.agg vs)
  | tup {cs : List V} {vs : Array Value} (hs : vs.size = cs.length)
      (h : ∀ i (hi : i < cs.length), RepV w M m cs[i] (vs.getD i undef)) : RepV w M m (.tup cs) (.tuple vs)
  | dead {v : Value} : RepV w M m .dead v

/-! ### Data stays as long as its cells do -/
/-- What lies outside M in w lies in w', outside M'. -/
def Stab (w : World) (M : Cells) (w' : World) (M' : Cells) : Prop :=
  ∀ b o c, w.cell? ⟨b, o, none⟩ = some c → ¬ M b o → w'.cell? ⟨b, o, none⟩ = some c ∧ ¬ M' b o
theorem Stab.refl (w : World) (M : Cells) : Stab w M w M := fun _ _ _ h h' => ⟨h, h'⟩
theorem Stab.trans {w M w' M' w'' M''} (h : Stab w M w' M') (h' : Stab w' M' w'' M'') : Stab w M w'' M'' :=
  fun b o c hc hm => let ⟨a, e⟩ := h b o c hc hm; h' b o c a e
theorem RepD.mono {w M w' M' x v} (hs : Stab w M w' M') (h : RepD w M x v) : RepD w' M' x v := by
  induction h with
  | v h => exact .v h
  | agg hs' hl _ ih => exact .agg hs' hl ih
  | sl sz b off cv hc hm ha hsz hcell _ ih =>
    exact .sl sz b off cv hc hm ha hsz (fun i hi j hj => ⟨(hs _ _ _ (hcell i hi j hj).1 (hcell i hi j hj).2.2).1, (hcell i hi j hj).2.1, (hs _ _ _ (hcell i hi j hj).1 (hcell i hi j hj).2.2).2⟩) ih
/-- The names that a value bears mean the same. -/
structure Same (w : World) (m : Mp) (w' : World) (m' : Mp) (B O L : Name → Prop) : Prop where
  bx : ∀ n, B n → m'.bx n = m.bx n
  ow : ∀ i sz v, O i → Spare w m i sz v → Spare w' m' i sz v
  lp : ∀ l, L l → m'.lp l = m.lp l

mutual
def V.bxs : V → List Name
  | .ptr m _ => [m]
  | .fn _ c => V.bxsL c
  | .agg c => V.bxsL c
  | .tup c => V.bxsL c
  | _ => []
def V.bxsL : List V → List Name
  | [] => []
  | v :: vs => v.bxs ++ V.bxsL vs
end
mutual
def V.ows : V → List Name
  | .own i _ _ => [i]
  | .fn _ c => V.owsL c
  | .agg c => V.owsL c
  | .tup c => V.owsL c
  | _ => []
def V.owsL : List V → List Name
  | [] => []
  | v :: vs => v.ows ++ V.owsL vs
end
mutual
def V.lps : V → List Name
  | .yld l => [l]
  | .fn _ c => V.lpsL c
  | .agg c => V.lpsL c
  | .tup c => V.lpsL c
  | _ => []
def V.lpsL : List V → List Name
  | [] => []
  | v :: vs => v.lps ++ V.lpsL vs
end
theorem mem_bxsL {n : Name} {vs : List V} {i : Nat} (hi : i < vs.length) (h : n ∈ (vs[i]).bxs) : n ∈ V.bxsL vs := by
  induction vs generalizing i with
  | nil => simp at hi
  | cons v vs ih => cases i with
    | zero => simp [V.bxsL]; exact .inl h
    | succ i => simp [V.bxsL]; exact .inr (ih (by simpa using hi) h)
theorem mem_owsL {n : Name} {vs : List V} {i : Nat} (hi : i < vs.length) (h : n ∈ (vs[i]).ows) : n ∈ V.owsL vs := by
  induction vs generalizing i with
  | nil => simp at hi
  | cons v vs ih => cases i with
    | zero => simp [V.owsL]; exact .inl h
    | succ i => simp [V.owsL]; exact .inr (ih (by simpa using hi) h)
theorem mem_lpsL {n : Name} {vs : List V} {i : Nat} (hi : i < vs.length) (h : n ∈ (vs[i]).lps) : n ∈ V.lpsL vs := by
  induction vs generalizing i with
  | nil => simp at hi
  | cons v vs ih => cases i with
    | zero => simp [V.lpsL]; exact .inl h
    | succ i => simp [V.lpsL]; exact .inr (ih (by simpa using hi) h)

theorem RepV.mono {w M m w' M' m' x v} (hs : Stab w M w' M') (h : RepV w M m x v)
    (hb : ∀ n ∈ x.bxs, m'.bx n = m.bx n) (ho : ∀ i ∈ x.ows, ∀ sz v, Spare w m i sz v → Spare w' m' i sz v) (hl : ∀ l ∈ x.lps, m'.lp l = m.lp l) : RepV w' M' m' x v := by
  induction h with
  | d h => exact .d (h.mono hs)
  | nil => exact .nil
  | own h hsz hsp => exact .own (h.mono hs) hsz (ho _ (by simp [V.ows]) _ _ hsp)
  | ptr => rw [← hb _ (by simp [V.bxs])]; exact .ptr
  | ref b off cv hcell hrep => exact .ref b off cv (fun j hj => ⟨(hs _ _ _ (hcell j hj).1 (hcell j hj).2.2).1, (hcell j hj).2.1, (hs _ _ _ (hcell j hj).1 (hcell j hj).2.2).2⟩) (fun j hj => (hrep j hj).mono hs)
  | fn hs' _ ih => exact .fn hs' (fun i hi => ih i hi (fun n hn => hb n (by simpa [V.bxs] using mem_bxsL hi hn)) (fun n hn => ho n (by simpa [V.ows] using mem_owsL hi hn)) (fun n hn => hl n (by simpa [V.lps] using mem_lpsL hi hn)))
  | yld => rw [← hl _ (by simp [V.lps])]; exact .yld
  | agg hs' hlf _ ih => exact .agg hs' hlf (fun i hi => ih i hi (fun n hn => hb n (by simpa [V.bxs] using mem_bxsL hi hn)) (fun n hn => ho n (by simpa [V.ows] using mem_owsL hi hn)) (fun n hn => hl n (by simpa [V.lps] using mem_lpsL hi hn)))
  | tup hs' _ ih => exact .tup hs' (fun i hi => ih i hi (fun n hn => hb n (by simpa [V.bxs] using mem_bxsL hi hn)) (fun n hn => ho n (by simpa [V.ows] using mem_owsL hi hn)) (fun n hn => hl n (by simpa [V.lps] using mem_lpsL hi hn)))
  | dead => exact .dead
end Go.Ab
