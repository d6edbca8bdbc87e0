import Derived.Test.YtleeccmcgophfaaGreatPJ
import Derived.KernelRfl
import Derived.Test.YtleeccmcgophfaaGreatPC
import Derived.ProofKit
import Derived.OpenShut
import Derived.Carry
import Derived.WideKeyArgs
set_option linter.all false
namespace Go.Tx
set_option linter.unusedVariables false
open Go Go.Ab
def Def {α : Type} (x : Option α) (Q : α → Prop) : Prop := ∃ r, x = some r ∧ Q r
section
variable {α β σ ρ : Type} {Q : α → Prop}
theorem Def.ret {a : α} (h : Q a) : Def (some a) Q := ⟨a, rfl, h⟩
theorem Def.mono {x : Option α} {Q' : α → Prop} (h : Def x Q) (hq : ∀ r, Q r → Q' r) : Def x Q' := let ⟨r, a, b⟩ := h; ⟨r, a, hq r b⟩
theorem Def.bind {x : Option β} {f : β → Option α} (h : Def x fun b => Def (f b) Q) : Def (Option.bind x f) Q := by
 obtain ⟨b, rfl, h⟩ := h
 exact h
theorem Def.bind' {x : Option β} {f : β → Option α} {R : β → Prop} (hx : Def x R) (h : ∀ b, R b → Def (f b) Q) : Def (Option.bind x f) Q := Def.bind (hx.mono h)
theorem Def.ite {c : Prop} [Decidable c] {x y : Option α} (h1 : c → Def x Q) (h2 : ¬ c → Def y Q) : Def (if c then x else y) Q := by
 split
 ·exact h1 ‹_›
 ·exact h2 ‹_›
theorem Def.letV {a : β} {k : β → Option α} (h : Def (k a) Q) : Def (letV a k) Q := h
theorem Def.letJ {Q : ρ → Prop} (R : σ → Prop) {k : σ → Option ρ} {body : (σ → Option ρ) → Option ρ} (hk : ∀ s, R s → Def (k s) Q) (hb : ∀ j : σ → Option ρ, (∀ s, R s → Def (j s) Q) → Def (body j) Q) : Def (letJ k body) Q := hb k hk
theorem Def.done {r : Option ρ} {Q : σ ⊕ ρ → Prop} (h : Def r fun x => Q (.inr x)) : Def (done r) Q := by
 obtain ⟨x, rfl, h⟩ := h
 exact ⟨_, rfl, h⟩
theorem Def.turn {s : σ} {Q : σ ⊕ ρ → Prop} (h : Q (.inl s)) : Def (turn s) Q := ⟨_, rfl, h⟩
theorem Def.loop {body : σ → Option (σ ⊕ ρ)} {Q : ρ → Prop} (I : σ → Prop) (μ : σ → Nat) {s : σ} (h0 : I s) (h : ∀ s, I s → Def (body s) fun r => match r with | .inl s' => I s' ∧ μ s' < μ s | .inr r => Q r) : Def (whileO body s) Q := by
 obtain ⟨n, hn⟩ : ∃ n, n = μ s := ⟨_, rfl⟩
 induction n using Nat.strongRecOn generalizing s with
 | _ n ih =>
  obtain ⟨r, h1, h2⟩ := h s h0
  rw [whileO_step, h1]
  cases r with
  | inl s' => exact ih _ (hn ▸ h2.2) h2.1 rfl
  | inr r => exact ⟨r, rfl, h2⟩
theorem Def.idx {l : List α} {i : Int} (h0 : 0 ≤ i) (h1 : i < l.length) (h : ∀ v, l[i.toNat]? = some v → v ∈ l → Q v) : Def (idxO l i) Q := by
 have hlt : i.toNat < l.length := by omega
 have e := List.getElem?_eq_getElem hlt
 exact ⟨l[i.toNat], by rw [idxO, if_pos h0, e], h _ e (List.getElem_mem hlt)⟩
theorem Def.guard {b : Bool} {Q : Unit → Prop} (hb : b = true) (h : Q ()) : Def (guardO b) Q := ⟨(), by rw [guardO, if_pos hb], h⟩
theorem Def.app {n : Nat} {a b : List α} {Q : List α → Prop} (hb : (a.length + b.length) * n ≤ 140737488355328) (h : Q (a ++ b)) : Def (appO n a b) Q := ⟨_, by rw [appO, if_pos hb], h⟩
theorem split_at {l : List α} {k : Nat} (h : k < l.length) : l = l.take k ++ l[k] :: l.drop (k + 1) := by
 rw [List.getElem_cons_drop, List.take_append_drop]
theorem Def.for2 {l : List α} {A : β × Int → α → Option ((β × Int) ⊕ ρ)} {E : β × Int → Option ((β × Int) ⊕ ρ)} {Q : ρ → Prop} (I : List α → β → Prop) {a : β} (hl : l.length ≤ 9223372036854775807) (h0 : I [] a)
  (hb : ∀ pre v post a, l = pre ++ v :: post → I pre a → Def (A (a, (pre.length : Int)) v) fun r => match r with | .inl s => s.2 = IntKind.wrap .i64 ((pre.length : Int) + 1) ∧ I (pre ++ [v]) s.1 | .inr r => Q r)
  (he : ∀ a, I l a → Def (E (a, (l.length : Int))) fun r => match r with | .inl _ => False | .inr r => Q r) :
  Def (whileO (fun s => if decide (s.2 < ((l.length : Nat) : Int)) = true then Option.bind (idxO l s.2) (A s) else E s) (a, (0 : Int))) Q := by
 refine Def.loop (fun s : β × Int => 0 ≤ s.2 ∧ s.2 ≤ l.length ∧ I (l.take s.2.toNat) s.1) (fun s => l.length - s.2.toNat) ⟨by simp, by simp, by simpa using h0⟩ (fun s hi => ?_)
 obtain ⟨a, i⟩ := s
 obtain ⟨h1, h2, h3⟩ := hi
 simp only at h1 h2 h3
 refine Def.ite (fun hc => ?_) (fun hc => ?_)
 ·have hlt : i < l.length := by simpa using hc
  have hk : i.toNat < l.length := by omega
  have hp : ((l.take i.toNat).length : Int) = i := by rw [List.length_take, Nat.min_eq_left (by omega)]; omega
  refine Def.bind (Def.idx h1 hlt (fun v hv _ => ?_))
  have hv' : l[i.toNat] = v := by rw [List.getElem?_eq_getElem hk] at hv; exact Option.some.inj hv
  have h4 := hb (l.take i.toNat) v (l.drop (i.toNat + 1)) a (by rw [← hv']; exact split_at hk) h3
  rw [hp] at h4
  refine h4.mono fun r hr => ?_
  cases r with
  | inr r => exact hr
  | inl s' =>
   obtain ⟨e1, e2⟩ := hr
   rw [wrap_i64 (by omega) (by omega)] at e1
   have e3 : s'.2.toNat = i.toNat + 1 := by omega
   refine ⟨⟨by omega, by omega, ?_⟩, by simp only; omega⟩
   rw [e3, List.take_add_one, hv]
   exact e2
 ·have hge : ¬ i < l.length := by simpa using hc
  have e : i = l.length := by omega
  subst e
  have h3' : I l a := by simpa using h3
  refine (he a h3').mono fun r hr => ?_
  cases r with
  | inl s => exact hr.elim
  | inr r => exact hr
theorem Def.for1 {l : List α} {A : Int → α → Option (Int ⊕ ρ)} {E : Int → Option (Int ⊕ ρ)} {Q : ρ → Prop} (I : List α → Prop) (hl : l.length ≤ 9223372036854775807) (h0 : I [])
  (hb : ∀ pre v post, l = pre ++ v :: post → I pre → Def (A (pre.length : Int) v) fun r => match r with | .inl s => s = IntKind.wrap .i64 ((pre.length : Int) + 1) ∧ I (pre ++ [v]) | .inr r => Q r)
  (he : I l → Def (E (l.length : Int)) fun r => match r with | .inl _ => False | .inr r => Q r) :
  Def (whileO (fun s => if decide (s < ((l.length : Nat) : Int)) = true then Option.bind (idxO l s) (A s) else E s) (0 : Int)) Q := by
 refine Def.loop (fun i : Int => 0 ≤ i ∧ i ≤ l.length ∧ I (l.take i.toNat)) (fun i : Int => l.length - i.toNat) ⟨by simp, by simp, by simpa using h0⟩ (fun i hi => ?_)
 obtain ⟨h1, h2, h3⟩ := hi
 refine Def.ite (fun hc => ?_) (fun hc => ?_)
 ·have hlt : i < l.length := by simpa using hc
  have hk : i.toNat < l.length := by omega
  have hp : ((l.take i.toNat).length : Int) = i := by rw [List.length_take, Nat.min_eq_left (by omega)]; omega
  refine Def.bind (Def.idx h1 hlt (fun v hv _ => ?_))
  have hv' : l[i.toNat] = v := by rw [List.getElem?_eq_getElem hk] at hv; exact Option.some.inj hv
  have h4 := hb (l.take i.toNat) v (l.drop (i.toNat + 1)) (by rw [← hv']; exact split_at hk) h3
  rw [hp] at h4
  refine h4.mono fun r hr => ?_
  cases r with
  | inr r => exact hr
  | inl s' =>
   obtain ⟨e1, e2⟩ := hr
   rw [wrap_i64 (by omega) (by omega)] at e1
   have e3 : s'.toNat = i.toNat + 1 := by omega
   refine ⟨⟨by omega, by omega, ?_⟩, by omega⟩
   rw [e3, List.take_add_one, hv]
   exact e2
 ·have hge : ¬ i < l.length := by simpa using hc
  have e : i = l.length := by omega
  subst e
  have h3' : I l := by simpa using h3
  refine (he h3').mono fun r hr => ?_
  cases r with
  | inl s => exact hr.elim
  | inr r => exact hr
theorem Def.bindI {c : Prop} [Decidable c] {x : Option β} {d : β} {f : β → Option α} (R : β → Prop) (hx : c → Def x R) (h : ∀ b, (c → R b) → (¬ c → b = d) → Def (f b) Q) : Def (Option.bind (if c then x else some d) f) Q := by
 by_cases hc : c
 ·obtain ⟨b, e, hb⟩ := hx hc
  rw [if_pos hc, e]
  exact h b (fun _ => hb) (fun h => absurd hc h)
 ·rw [if_neg hc]
  exact h d (fun h => absurd h hc) (fun _ => rfl)
theorem Def.at {l pre post : List α} {v : α} (e : l = pre ++ v :: post) : Def (idxO l (pre.length : Int)) fun r => r = v :=
 ⟨v, by rw [idxO_nat, e]; simp, rfl⟩
theorem Def.prev {l pre post : List α} {v : α} (e : l = pre ++ v :: post) (hl : l.length ≤ 9223372036854775807) (h0 : 0 < pre.length) : Def (idxO l (IntKind.wrap .i64 ((pre.length : Int) - 1))) fun r => pre.getLast? = some r := by
 have hn : pre.length ≤ l.length := by rw [e]; simp
 rw [wrap_i64 (by omega) (by omega), show (pre.length : Int) - 1 = ((pre.length - 1 : Nat) : Int) by omega, idxO_nat, e, List.getElem?_append_left (by omega), ← List.getLast?_eq_getElem?]
 cases h : pre.getLast? with
 | none => rw [List.getLast?_eq_none_iff.1 h] at h0; simp at h0
 | some r => exact ⟨r, rfl, rfl⟩
theorem Def.aidx {n : Nat} {f : Fin n → α} {i : Int} (h0 : 0 ≤ i) (h1 : i < n) (h : ∀ k, Q (f k)) : Def (aidxO f i) Q := by
 have hi : 0 ≤ i ∧ i.toNat < n := ⟨h0, by omega⟩
 exact ⟨_, by rw [aidxO, dif_pos hi], h _⟩
theorem Def.times {n : Nat} {A : Int → Option (Int ⊕ ρ)} {E : Int → Option (Int ⊕ ρ)} {Q : ρ → Prop} (hn : n ≤ 1000000)
  (hb : ∀ i : Int, 0 ≤ i → i < n → Def (A i) fun r => match r with | .inl s => s = IntKind.wrap .i64 (i + 1) | .inr r => Q r)
  (he : Def (E (n : Int)) fun r => match r with | .inl _ => False | .inr r => Q r) :
  Def (whileO (fun s => if decide (s < (n : Int)) = true then A s else E s) (0 : Int)) Q := by
 refine Def.loop (fun i : Int => 0 ≤ i ∧ i ≤ n) (fun i : Int => n - i.toNat) ⟨by simp, by omega⟩ (fun i hi => ?_)
 obtain ⟨h1, h2⟩ := hi
 refine Def.ite (fun hc => ?_) (fun hc => ?_)
 ·have hlt : i < n := by simpa using hc
  refine (hb i h1 hlt).mono fun r hr => ?_
  cases r with
  | inr r => exact hr
  | inl s =>
   rw [wrap_i64 (by omega) (by omega)] at hr
   exact ⟨⟨by omega, by omega⟩, by omega⟩
 ·have e : i = n := by simp at hc; omega
  subst e
  refine he.mono fun r hr => ?_
  cases r with
  | inl s => exact hr.elim
  | inr r => exact hr
theorem Def.forB {l : List α} (idx : σ → Int) {B E : σ → Option (σ ⊕ ρ)} {Q : ρ → Prop} (I : List α → σ → Prop) {s0 : σ} (hl : l.length ≤ 9223372036854775807) (h00 : idx s0 = 0) (h0 : I [] s0)
  (hb : ∀ pre v post s, l = pre ++ v :: post → idx s = (pre.length : Int) → I pre s → Def (B s) fun r => match r with | .inl s' => idx s' = IntKind.wrap .i64 ((pre.length : Int) + 1) ∧ I (pre ++ [v]) s' | .inr r => Q r)
  (he : ∀ s, idx s = (l.length : Int) → I l s → Def (E s) fun r => match r with | .inl _ => False | .inr r => Q r) :
  Def (whileO (fun s => if decide (idx s < ((l.length : Nat) : Int)) = true then B s else E s) s0) Q := by
 refine Def.loop (fun s : σ => 0 ≤ idx s ∧ idx s ≤ l.length ∧ I (l.take (idx s).toNat) s) (fun s => l.length - (idx s).toNat) ⟨by omega, by omega, by rw [h00]; simpa using h0⟩ (fun s hi => ?_)
 obtain ⟨h1, h2, h3⟩ := hi
 refine Def.ite (fun hc => ?_) (fun hc => ?_)
 ·have hlt : idx s < l.length := by simpa using hc
  have hk : (idx s).toNat < l.length := by omega
  have hp : ((l.take (idx s).toNat).length : Int) = idx s := by rw [List.length_take, Nat.min_eq_left (by omega)]; omega
  have h4 := hb (l.take (idx s).toNat) _ (l.drop ((idx s).toNat + 1)) s (split_at hk) hp.symm h3
  rw [hp] at h4
  refine h4.mono fun r hr => ?_
  cases r with
  | inr r => exact hr
  | inl s' =>
   obtain ⟨e1, e2⟩ := hr
   rw [wrap_i64 (by omega) (by omega)] at e1
   have e3 : (idx s').toNat = (idx s).toNat + 1 := by omega
   refine ⟨⟨by omega, by omega, ?_⟩, by omega⟩
   rw [e3, List.take_add_one, List.getElem?_eq_getElem hk]
   exact e2
 ·have hge : ¬ idx s < l.length := by simpa using hc
  have e : idx s = l.length := by omega
  have h3' : I l s := by rw [e] at h3; simpa using h3
  refine (he s e h3').mono fun r hr => ?_
  cases r with
  | inl s => exact hr.elim
  | inr r => exact hr
theorem Def.shr {k : IntKind} {a b : Int} {Q : Int → Prop} (hb : 0 ≤ b) (h : ∀ r, Q r) : Def (shrO k a b) Q := ⟨_, by rw [shrO, if_pos hb], h _⟩
theorem Def.shl {k : IntKind} {a b : Int} {Q : Int → Prop} (hb : 0 ≤ b) (h : ∀ r, Q r) : Def (shlO k a b) Q := ⟨_, by rw [shlO, if_pos hb], h _⟩
theorem Def.rem {a b : Int} {Q : Int → Prop} (hb : b ≠ 0) (h : ∀ r, Q r) : Def (remO a b) Q := ⟨_, by rw [remO, if_pos hb], h _⟩
theorem Def.eq {x : Option α} {a : α} (h : Def x fun r => r = a) : x = some a := by obtain ⟨r, h1, rfl⟩ := h; exact h1
theorem Def.of {x : Option α} {a : α} (h : x = some a) (hq : Q a) : Def x Q := ⟨a, h, hq⟩
end
end Go.Tx
namespace Go.Tx
set_option linter.unusedVariables false
set_option linter.unusedSimpArgs false
open Go Go.Ab
def T.eval (n : Nat) (F : CFun) : T → (ρ : Type) → List Val → List (List Val → Option ρ) → Option ρ
 | .fail, ρ, env, js => none
 | .hole _, ρ, env, js => none
 | .jump j es, ρ, env, js => match js[j]? with
  | some k => match evs env es with
   | some vs => k vs
   | none => none
  | none => none
 | .bind b t k, ρ, env, js => match b with
  | .lets x => match x.val env with
   | some v => match castV t v with
    | some a => letV a fun a => k.eval n F ρ (env ++ [⟨t, a⟩]) js
    | none => none
   | none => none
  | b => Option.bind (b.run F env t) fun a => k.eval n F ρ (env ++ [⟨t, a⟩]) js
 | .ite c x y, ρ, env, js => match c.val env with
  | some ⟨.bool, b⟩ => if b = true then x.eval n F ρ env js else y.eval n F ρ env js
  | _ => none
 | .letj ps k body, ρ, env, js => letJ (σ := TupD ps) (fun st => k.eval n F ρ (env ++ toVs ps st) js) fun j => body.eval n F ρ env ((fun vs => match ofVs ps vs with | some st => j st | none => none) :: js)
 | .loop ps init body, ρ, env, js => match evs env init with
  | some vs => match ofVs ps vs with
   | some st => iterO (fun st => body.eval n F (TupD ps ⊕ ρ) (env ++ toVs ps st) ((fun vs => match ofVs ps vs with | some st => turn st | none => none) :: js.map fun k vs => done (k vs))) n st
   | none => none
  | none => none
 | .range _ _ _ _ _, ρ, env, js => none
def CLe (F F' : CFun) : Prop := ∀ g vs t x, F g vs t = some x → F' g vs t = some x
def JLe {ρ : Type} (js js' : List (List Val → Option ρ)) : Prop := ∀ (i : Nat) (k : List Val → Option ρ), js[i]? = some k → ∃ k' : List Val → Option ρ, js'[i]? = some k' ∧ ∀ (vs : List Val) (x : ρ), k vs = some x → k' vs = some x
theorem JLe.refl {ρ : Type} (js : List (List Val → Option ρ)) : JLe js js := fun i k h => ⟨k, h, fun _ _ h => h⟩
theorem JLe.cons {ρ : Type} {js js' : List (List Val → Option ρ)} {k k' : List Val → Option ρ} (hk : ∀ vs x, k vs = some x → k' vs = some x) (h : JLe js js') : JLe (k :: js) (k' :: js') := by
 intro i q hq
 cases i with
 | zero => simp only [List.getElem?_cons_zero, Option.some.injEq] at hq; subst hq; exact ⟨k', by simp, hk⟩
 | succ i => simpa using h i q (by simpa using hq)
theorem JLe.map {ρ σ : Type} {js js' : List (List Val → Option ρ)} (h : JLe js js') : JLe (js.map fun k vs => done (σ := σ) (k vs)) (js'.map fun k vs => done (σ := σ) (k vs)) := by
 intro i q hq
 rw [List.getElem?_map] at hq
 cases hj : js[i]? with
 | none => rw [hj] at hq; cases hq
 | some k =>
  rw [hj] at hq
  simp only [Option.map_some, Option.some.injEq] at hq
  subst hq
  obtain ⟨k', h1, h2⟩ := h i k hj
  refine ⟨fun vs => done (k' vs), by rw [List.getElem?_map, h1]; rfl, fun vs x hx => ?_⟩
  simp only [done] at hx ⊢
  cases hk : k vs with
  | none => rw [hk] at hx; cases hx
  | some a => rw [h2 vs a hk]; rw [hk] at hx; exact hx
theorem iterO_mono {σ ρ : Type} {b b' : σ → Option (σ ⊕ ρ)} (h : ∀ s y, b s = some y → b' s = some y) : ∀ {n : Nat} {s : σ} {r : ρ}, iterO b n s = some r → iterO b' n s = some r
 | 0, s, r, hr => by cases hr
 | n + 1, s, r, hr => by
  rw [iterO] at hr ⊢
  split at hr
  ·cases hr
  ·rename_i s' e
   rw [h _ _ e]; exact iterO_mono h hr
  ·rename_i r' e
   rw [h _ _ e]; exact hr
section
variable {F F' : CFun}
theorem B.run_mono (hF : CLe F F') {env : List Val} : ∀ {b : B} {t : Ty} {x : t.den}, b.run F env t = some x → b.run F' env t = some x := by
 intro b
 induction b with
 | ifb gs b u ih =>
  intro t x h
  simp only [B.run] at h ⊢
  split at h
  ·rename_i e
   subst e
   rw [if_pos rfl]
   split at h
   ·split at h
    ·rename_i hc; rw [if_pos hc]; exact ih h
    ·rename_i hc; rw [if_neg hc]; exact h
   ·cases h
  ·cases h
 | call g args =>
  intro t x h
  simp only [B.run] at h ⊢
  split at h
  ·exact hF _ _ _ _ h
  ·cases h
 | _ => intro t x h; exact h
theorem T.eval_run (n : Nat) (hF : CLe F F') : ∀ {t : T} {ρ : Type} {env : List Val} {js js' : List (List Val → Option ρ)} {x : ρ}, JLe js js' → t.eval n F ρ env js = some x → t.run F' ρ env js' = some x := by
 intro t
 induction t with
 | fail => intro ρ env js js' x hj h; cases h
 | hole i => intro ρ env js js' x hj h; cases h
 | jump j es =>
  intro ρ env js js' x hj h
  simp only [T.eval, T.run] at h ⊢
  split at h
  ·rename_i k hk
   obtain ⟨k', h1, h2⟩ := hj _ _ hk
   rw [h1]
   simp only
   cases hv : evs env es with
   | none => rw [hv] at h; cases h
   | some vs => rw [hv] at h; exact h2 _ _ h
  ·cases h
 | bind b t k ih =>
  intro ρ env js js' x hj h
  cases b with
  | lets e =>
   simp only [T.eval, T.run, letV] at h ⊢
   cases hv : e.val env with
   | none => rw [hv] at h; cases h
   | some v =>
    rw [hv] at h
    simp only at h ⊢
    cases hc : castV t v with
    | none => rw [hc] at h; cases h
    | some a => rw [hc] at h; exact ih hj h
  | _ =>
   simp only [T.eval, T.run] at h ⊢
   rw [Option.bind_eq_some_iff] at h ⊢
   obtain ⟨a, h1, h2⟩ := h
   exact ⟨a, B.run_mono hF h1, ih hj h2⟩
 | ite c a b iha ihb =>
  intro ρ env js js' x hj h
  simp only [T.eval, T.run] at h ⊢
  cases hv : c.val env with
  | none => rw [hv] at h; cases h
  | some v =>
   obtain ⟨u, b⟩ := v
   rw [hv] at h
   cases u with
   | bool =>
    simp only at h ⊢
    split at h
    ·rename_i e; rw [if_pos e]; exact iha hj h
    ·rename_i e; rw [if_neg e]; exact ihb hj h
   | _ => cases h
 | letj ps k body ihk ihb =>
  intro ρ env js js' x hj h
  simp only [T.eval, T.run, letJ] at h ⊢
  refine ihb (hj.cons fun vs y hy => ?_) h
  cases hs : ofVs ps vs with
  | none => rw [hs] at hy; cases hy
  | some st => rw [hs] at hy; exact ihk hj hy
 | loop ps init body ih =>
  intro ρ env js js' x hj h
  simp only [T.eval, T.run] at h ⊢
  cases hv : evs env init with
  | none => rw [hv] at h; cases h
  | some vs =>
   rw [hv] at h
   simp only at h ⊢
   cases hs : ofVs ps vs with
   | none => rw [hs] at h; cases h
   | some st =>
   rw [hs] at h
   simp only at h ⊢
   ·refine whileO_iff.2 ⟨n, iterO_mono (fun s y hy => ?_) h⟩
    exact ih (hj.map.cons fun vs z hz => hz) hy
 | range ps init l body d ihb ihd => intro ρ env js js' x hj h; cases h
end
abbrev Trees := List (Nat × List Ty × Ty × T)
def callL (n : Nat) : Trees → CFun
 | [] => noC
 | (g, as, rty, t) :: l => addC g as rty (fun st => t.eval n (callL n l) rty.den (toVs as st) [fun vs => ofVs [rty] vs]) (callL n l)
theorem trees_nil (n : Nat) : CLe (callL n []) noC := fun _ _ _ _ h => h
theorem trees_cons {n g : Nat} {as : List Ty} {rty : Ty} {t : T} {l : Trees} {F : CFun} {f : TupD as → Option rty.den} (h : CLe (callL n l) F) (hf : ∀ st, t.run F rty.den (toVs as st) [fun vs => ofVs [rty] vs] = f st) : CLe (callL n ((g, as, rty, t) :: l)) (addC g as rty f F) := by
 intro g' vs u x hx
 simp only [callL, addC] at hx ⊢
 split at hx
 ·rename_i e
  rw [if_pos e]
  split at hx
  ·rename_i st hst
   obtain ⟨a, h1, h2⟩ := castO_eq hx
   have h3 := T.eval_run n h (JLe.refl _) h1
   rw [hf] at h3
   rw [h3]
   have : castO (u := u) (some a) = castO (t := rty) (u := u) (t.eval n (callL n l) rty.den (toVs as st) [fun vs => ofVs [rty] vs]) := by rw [h1]
   rw [this]; exact hx
  ·cases hx
 ·rename_i e
  rw [if_neg e]
  exact h _ _ _ _ hx
theorem ofVs_toVs : ∀ {ts : List Ty} {x : TupD ts}, ofVs ts (toVs ts x) = some x
 | [], _ => rfl
 | [t], x => by simp [toVs, ofVs, castV]
 | t :: u :: ts, x => by
  have h : castV t ⟨t, x.1⟩ = some x.1 := by simp [castV]
  simp only [toVs, ofVs, h, ofVs_toVs (ts := u :: ts)]
theorem eval_fun {n g : Nat} {as : List Ty} {rty : Ty} {l : Trees} {F : CFun} {f : TupD as → Option rty.den} (h : CLe (callL n l) (addC g as rty f F)) (st : TupD as) {x : rty.den} (hx : callL n l g (toVs as st) rty = some x) : f st = some x := by
 have h1 := h _ _ _ _ hx
 unfold addC at h1
 rw [if_pos (Nat.beq_refl g)] at h1
 split at h1
 ·rename_i st' hst
  have e := ofVs_eq hst
  obtain ⟨a, h2, h3⟩ := castO_eq h1
  cases h3
  rw [ofVs_toVs] at hst
  cases hst
  exact h2
 ·cases h1
end Go.Tx
namespace Go.Tx
set_option linter.unusedVariables false
open Go Go.Ab
def treeOf (P : Program) (tab : TabL) (pl : PlL) (hl : HlL) (sp : SpL) (g : Nat) (as : List Ty) (rty : Ty) : T := ((cmpF ⟨P, tabOf tab, plOf pl, hlOf hl, spOf sp⟩ 3000 g as rty).map (·.1)).getD .fail
structure Lib (P : Program) where
 cf : CFun
 tab : TabL
 tr : Trees
 ok : CFok P cf
 le : CLe (callL 100 tr) cf
noncomputable def L0 (P : Program) : Lib P := ⟨noC, [], [], noC_ok, trees_nil 100⟩
variable {P : Program}
theorem pure_of (L : Lib P) (hm : P.follows .mixedOrders = true) (g : Nat) (as : List Ty) (rty : Ty) (f : TupD as → Option rty.den) (pl : PlL) (hl : HlL) (sp : SpL) (hsp : SpOK P (spOf sp))
  (hf : ∀ st, (treeOf P L.tab pl hl sp g as rty).run L.cf rty.den (toVs as st) [fun vs => ofVs [rty] vs] = f st) : PureF P g as rty f := by
 unfold treeOf at hf
 cases h : cmpF ⟨P, tabOf L.tab, plOf pl, hlOf hl, spOf sp⟩ 3000 g as rty with
 | none =>
  rw [h] at hf
  have : ∀ st, f st = none := fun st => by rw [← hf]; rfl
  refine ⟨fun st r h => ?_, fun st r _ h => ?_⟩ <;> (rw [this] at h; cases h)
 | some q =>
  rw [h] at hf
  exact PureF.of (C := ⟨P, tabOf L.tab, plOf pl, hlOf hl, spOf sp⟩) (lg := q.2) hm hsp L.ok h hf
noncomputable def Lib.add (L : Lib P) (hm : P.follows .mixedOrders = true) (g : Nat) (as : List Ty) (rty : Ty) (f : TupD as → Option rty.den) (pl : PlL) (hl : HlL) (sp : SpL) (hsp : SpOK P (spOf sp))
  (hf : ∀ st, (treeOf P L.tab pl hl sp g as rty).run L.cf rty.den (toVs as st) [fun vs => ofVs [rty] vs] = f st) : Lib P :=
 ⟨addC g as rty f L.cf, (g, as, rty) :: L.tab, (g, as, rty, treeOf P L.tab pl hl sp g as rty) :: L.tr, addC_ok (pure_of L hm g as rty f pl hl sp hsp hf) L.ok, trees_cons L.le hf⟩
end Go.Tx
namespace Go.Tx
set_option linter.unusedVariables false
open Go Go.Ab
variable {P : Program}
theorem law_of (L : Lib P) (hm : P.follows .mixedOrders = true) (g : Nat) (as : List Ty) (rty : Ty) (f : TupD as → Option rty.den) (pl : PlL) (hl : HlL) (sp : SpL) (hsp : SpOK P (spOf sp))
  (hf : ∀ st, (treeOf P L.tab pl hl sp g as rty).run L.cf rty.den (toVs as st) [fun vs => ofVs [rty] vs] = f st)
  (hc : (cmpF ⟨P, tabOf L.tab, plOf pl, hlOf hl, spOf sp⟩ 3000 g as rty).isSome = true) {st : TupD as} {r : rty.den} (hr : EnvWf (toVs as st) → f st = some r) : PureOK P g ((toVs as st).map Val.d) (resD rty r) := by
 unfold treeOf at hf
 cases h : cmpF ⟨P, tabOf L.tab, plOf pl, hlOf hl, spOf sp⟩ 3000 g as rty with
 | none => rw [h] at hc; cases hc
 | some q =>
  rw [h] at hf
  have hf' : ∀ st, q.1.run L.cf rty.den (toVs as st) [fun vs => ofVs [rty] vs] = f st := hf
  refine cmpF_ok (C := ⟨P, tabOf L.tab, plOf pl, hlOf hl, spOf sp⟩) (lg := q.2) hm hsp h toVs_ty (fun hw => ?_)
  have hr := hr hw
  rw [← hf'] at hr
  refine T.run_sound L.ok hw hr ?_
  intro j k vs hk hwv hkr
  cases j with
  | zero =>
   simp only [List.getElem?_cons_zero, Option.some.injEq] at hk
   subst hk
   exact ofVs_eq hkr
  | succ j => simp at hk
end Go.Tx
namespace Go.Ab
set_option linter.all false
open Go Go.RowKit
inductive Sh where
 | bool
 | int (k : IntKind)
 | sl (ag : Bool) (e : Sh)
 | row (fs : List Sh)
 deriving Inhabited
mutual
def Sh.size : Sh → Nat
 | .row fs => Sh.sizeL fs
 | _ => 1
def Sh.sizeL : List Sh → Nat
 | [] => 0
 | f :: fs => f.size + Sh.sizeL fs
end
mutual
def Conf : Sh → List D → Prop
 | .bool, ds => ∃ b, ds = [.v (.bool b)]
 | .int k, ds => ∃ n, ds = [.v (.int k n)]
 | .sl ag e, ds => ∃ xs : List D, ds = [.sl xs] ∧ ∀ x ∈ xs, Conf e x.cells ∧ (ag = true → ∃ cs, x = .agg cs) ∧ (ag = false → x.cells = [x])
 | .row fs, ds => ConfL fs ds
def ConfL : List Sh → List D → Prop
 | [], ds => ds = []
 | f :: fs, ds => ∃ a b, ds = a ++ b ∧ Conf f a ∧ ConfL fs b
end
def Sh.flat : Sh → Bool
 | .row _ => false
 | _ => true
def ofFs (F : TypeId → Option Sh) (P : Program) : Nat → List Field → Option (List Sh)
 | _, [] => some []
 | o, f :: fs => match F f.type with
  | some s => if f.offset = o ∧ s.size = P.cellsOf f.type then (match ofFs F P (o + s.size) fs with | some ss => some (s :: ss) | none => none) else none
  | none => none
def Sh.ofT (P : Program) : Nat → TypeId → Option Sh
 | 0, _ => none
 | d + 1, t => match P.underlying t with
  | some .bool => some .bool
  | some (.int k) => some (.int k)
  | some (.slice e) => match Sh.ofT P d e with
   | some s => if s.size = P.cellsOf e ∧ 0 < s.size then some (.sl (!s.flat) s) else none
   | none => none
  | some (.struct fs) => match ofFs (Sh.ofT P d) P 0 fs.toList with
   | some ss => if Sh.sizeL ss = P.cellsOf t then some (.row ss) else none
   | none => none
  | some (.array n e) => match Sh.ofT P d e with
   | some s => if s.size = P.cellsOf e ∧ n * s.size = P.cellsOf t then some (.row (List.replicate n s)) else none
   | none => none
  | _ => none
def RepCells (w : World) (ds : List D) (cs : List Value) : Prop := ∀ i (h : i < ds.length), RepD w (fun _ _ => False) ds[i] (cs.getD i undef) ∧ leaf (cs.getD i undef) = true
theorem getD_drop {cs : List Value} {o i : Nat} : (cs.drop o).getD i undef = cs.getD (o + i) undef := by
 simp only [List.getD_eq_getElem?_getD, List.getElem?_drop]
theorem rep_append {w : World} {a b : List D} {cs : List Value} {o : Nat} (h1 : RepCells w a (cs.drop o)) (h2 : RepCells w b (cs.drop (o + a.length))) : RepCells w (a ++ b) (cs.drop o) := by
 intro i hi
 by_cases h : i < a.length
 ·rw [List.getElem_append_left h]; exact h1 i h
 ·have hi' : i - a.length < b.length := by simp at hi; omega
  have := h2 (i - a.length) hi'
  rw [List.getElem_append_right (by omega)]
  rw [getD_drop] at this ⊢
  rw [show o + a.length + (i - a.length) = o + i by omega] at this
  exact this
theorem cat {w : World} {cs : List Value} : ∀ (ss : List Sh) (o : Nat), (∀ j s, ss[j]? = some s → ∃ ds : List D, ds.length = s.size ∧ RepCells w ds (cs.drop (o + Sh.sizeL (ss.take j))) ∧ Conf s ds) →
  ∃ ds : List D, ds.length = Sh.sizeL ss ∧ RepCells w ds (cs.drop o) ∧ ConfL ss ds := by
 intro ss
 induction ss with
 | nil => intro o _; exact ⟨[], rfl, fun i h => by simp at h, by simp [ConfL]⟩
 | cons s ss ih =>
  intro o h
  obtain ⟨a, a1, a2, a3⟩ := h 0 s rfl
  obtain ⟨b, b1, b2, b3⟩ := ih (o + s.size) (fun j s' hj => by
   obtain ⟨ds, h1, h2, h3⟩ := h (j + 1) s' (by simpa using hj)
   refine ⟨ds, h1, ?_, h3⟩
   simp only [List.take_succ_cons, Sh.sizeL] at h2
   rw [← Nat.add_assoc] at h2; exact h2)
  simp only [List.take_zero, Sh.sizeL, Nat.add_zero] at a2
  exact ⟨a ++ b, by simp [Sh.sizeL, a1, b1], rep_append a2 (by rw [a1]; exact b2), by rw [ConfL]; exact ⟨a, b, rfl, a3, b3⟩⟩
theorem ofFs_get {F : TypeId → Option Sh} {P : Program} : ∀ (fs : List Field) (o : Nat) (ss : List Sh), ofFs F P o fs = some ss → ss.length = fs.length ∧ ∀ j s, ss[j]? = some s → ∃ f, fs[j]? = some f ∧ F f.type = some s ∧ s.size = P.cellsOf f.type ∧ f.offset = o + Sh.sizeL (ss.take j) := by
 intro fs
 induction fs with
 | nil => intro o ss h; simp [ofFs] at h; subst h; exact ⟨rfl, by simp⟩
 | cons f fs ih =>
  intro o ss h
  simp only [ofFs] at h
  split at h
  ·rename_i s hs
   split at h
   ·rename_i hc
    split at h
    ·rename_i ss' hss
     cases h
     obtain ⟨h1, h2⟩ := ih _ _ hss
     refine ⟨by simp [h1], fun j s' hj => ?_⟩
     cases j with
     | zero => simp at hj; subst hj; exact ⟨f, rfl, hs, hc.2, by simp [Sh.sizeL, hc.1]⟩
     | succ j =>
      obtain ⟨f', k1, k2, k3, k4⟩ := h2 j s' (by simpa using hj)
      exact ⟨f', by simpa using k1, k2, k3, by rw [k4]; simp [Sh.sizeL]; omega⟩
    ·cases h
   ·cases h
  ·cases h
theorem sizeL_rep (n : Nat) (s : Sh) : Sh.sizeL (List.replicate n s) = n * s.size := by
 induction n with
 | zero => simp [Sh.sizeL]
 | succ n ih => simp [List.replicate_succ, Sh.sizeL, ih, Nat.succ_mul, Nat.add_comm]
theorem take_rep {w : World} {ds : List D} {cs : List Value} {n : Nat} (h : RepCells w ds (cs.take n)) (hl : ds.length = (cs.take n).length) : RepCells w ds cs := by
 intro i hi
 have := h i hi
 have hin : i < n := by
  rw [hl, List.length_take] at hi; omega
 rw [List.getD_eq_getElem?_getD, List.getElem?_take_of_lt hin, ← List.getD_eq_getElem?_getD] at this
 exact this
theorem sizeL_take {ss : List Sh} {j : Nat} {s : Sh} (h : ss[j]? = some s) : Sh.sizeL (ss.take j) + s.size ≤ Sh.sizeL ss := by
 induction ss generalizing j with
 | nil => simp at h
 | cons x ss ih =>
  cases j with
  | zero => simp at h; subst h; simp [Sh.sizeL]
  | succ j => have := ih (j := j) (by simpa using h); simp only [List.take_succ_cons, Sh.sizeL]; omega
def pickD (ag : Bool) (ds : List D) : D := if ag then .agg ds else ds.headD default
theorem pickD_cells {s : Sh} {ds : List D} (h : Conf s ds) : (pickD (!s.flat) ds).cells = ds := by
 cases s with
 | bool => simp only [Conf] at h; obtain ⟨b, rfl⟩ := h; rfl
 | int k => simp only [Conf] at h; obtain ⟨b, rfl⟩ := h; rfl
 | sl ag e => simp only [Conf] at h; obtain ⟨b, rfl, _⟩ := h; rfl
 | row fs => rfl
theorem pickD_one {s : Sh} {ds : List D} (hs : s.flat = true) (h : Conf s ds) : (pickD (!s.flat) ds).cells = [pickD (!s.flat) ds] := by
 cases s with
 | bool => simp only [Conf] at h; obtain ⟨b, rfl⟩ := h; rfl
 | int k => simp only [Conf] at h; obtain ⟨b, rfl⟩ := h; rfl
 | sl ag e => simp only [Conf] at h; obtain ⟨b, rfl, _⟩ := h; rfl
 | row fs => simp [Sh.flat] at hs
theorem trod_rep {H : Type} {enc : TypeId × Value → H} {P : Program} {w : World} {spare : Nat → Bool} {held : Bool} : ∀ (dep : Nat) (t : TypeId) (sh : Sh), Sh.ofT P dep t = some sh → ∀ (fuel : Nat) (cs : List Value) (x : DataW H × List MemPlace),
  DataW.trod enc P w 0 spare held fuel t cs = some x → ∃ ds : List D, ds.length = cs.length ∧ RepCells w ds cs ∧ Conf sh ds := by
 intro dep
 induction dep with
 | zero => intro t sh h; simp [Sh.ofT] at h
 | succ dep ih =>
  intro t sh h fuel cs x hx
  simp only [Sh.ofT] at h
  split at h
  ·rename_i hu
   cases h
   obtain ⟨b, rfl, _⟩ := DataW.trod_bool hu hx
   exact ⟨[.v (.bool b)], rfl, fun i hi => by
    have : i = 0 := by simpa using hi
    subst this; exact ⟨.v trivial, rfl⟩, by simp [Conf]⟩
  ·rename_i k hu
   cases h
   obtain ⟨b, rfl, _, h2⟩ := DataW.trod_int hu hx
   refine ⟨[.v (.int k b)], rfl, fun i hi => ?_, by simp [Conf]⟩
   have : i = 0 := by simpa using hi
   subst this
   refine ⟨.v ?_, rfl⟩
   cases k <;> simp_all [okLeaf, inR, Lit.wf, IntKind.min, IntKind.max, IntKind.signed, IntKind.bits]
  ·rename_i e hu
   split at h
   ·rename_i s hs
    split at h
    ·rename_i hc
     cases h
     rcases DataW.trod_slice hu hx with ⟨rfl, _⟩ | ⟨a, len, cap, elems, rest, m, rfl, rfl, _, hb, hlc, hcm, hel, helems, _⟩
     ·refine ⟨[.sl []], rfl, fun i hi => ?_, by simp [Conf]⟩
      have : i = 0 := by simpa using hi
      subst this
      exact ⟨RepD.sl (xs := []) (a := none) (cap := 0) 0 0 0 (fun _ _ => undef) (by simp) (by simp) (by simp) (by simp) (by simp) (by simp), rfl⟩
     ·have hE : ∀ i, ∃ p : List Value × List D, i < len → w.cells? 0 (a.add (i * P.cellsOf e)) (P.cellsOf e) = some p.1 ∧ p.2.length = p.1.length ∧ RepCells w p.2 p.1 ∧ Conf s p.2 := by
       intro i
       by_cases hi : i < len
       ·have h1 := helems i hi
        rw [List.getElem?_eq_getElem (by omega)] at h1
        obtain ⟨ecs, h2, h3⟩ := Option.bind_eq_some_iff.1 h1
        obtain ⟨ds, k1, k2, k3⟩ := ih e s hs m ecs _ h3
        exact ⟨(ecs, ds), fun _ => ⟨h2, k1, k2, k3⟩⟩
       ·exact ⟨([], []), fun h => absurd h hi⟩
      obtain ⟨E, hE⟩ := Classical.axiomOfChoice hE
      have hcell : ∀ i, i < len → ∀ j, j < P.cellsOf e → w.cell? ((a.add (i * P.cellsOf e)).add j) = some ((E i).1.getD j undef) ∧ (E i).1.length = P.cellsOf e := by
       intro i hi j hj
       obtain ⟨_, h2, h3⟩ := World.cells?_some (hE i hi).1
       refine ⟨?_, h2⟩
       rw [h3 j hj, List.getD_eq_getElem?_getD, List.getElem?_eq_getElem (by omega)]; rfl
      have hpos : 0 < P.cellsOf e := by omega
      have hspot : 0 < len → a.spot = none := by
       intro hl
       have h1 := (hcell 0 hl 0 hpos).1
       unfold World.cell? at h1
       split at h1
       ·split at h1
        ·cases h1
        ·rename_i hsp
         simp only [Addr.add] at hsp
         simpa using hsp
       ·cases h1
      refine ⟨[.sl ((List.range len).map fun i => pickD (!s.flat) (E i).2)], rfl, fun i hi => ?_, ?_⟩
      ·have : i = 0 := by simpa using hi
       subst this
       refine ⟨?_, rfl⟩
       have key : ∀ i (hi : i < ((List.range len).map fun i => pickD (!s.flat) (E i).2).length), (((List.range len).map fun i => pickD (!s.flat) (E i).2)[i]).cells = (E i).2 ∧ i < len := by
        intro i hi
        have hi' : i < len := by simpa using hi
        simp only [List.getElem_map, List.getElem_range]
        exact ⟨pickD_cells (hE i hi').2.2.2, hi'⟩
       have hlen : ((List.range len).map fun i => pickD (!s.flat) (E i).2).length = len := by simp
       have := RepD.sl (w := w) (M := fun _ _ => False) (xs := (List.range len).map fun i => pickD (!s.flat) (E i).2) (a := some a) (cap := cap) (P.cellsOf e) a.block a.off (fun i j => (E i).1.getD j undef)
        (by rw [hlen]; exact hlc) (by rw [hlen]; have : maxLen = 9223372036854775807 := rfl; omega)
        (fun hne => by
         have hl : 0 < len := by
          rcases Nat.eq_zero_or_pos len with h0 | h0
          ·exact absurd (by simp [h0]) hne
          ·exact h0
         have := hspot hl
         cases a; simp_all)
        (fun i hi => by
         obtain ⟨k1, k2⟩ := key i hi
         rw [k1, (hE i k2).2.1, (hcell i k2 0 hpos).2])
        (fun i hi j hj => by
         obtain ⟨k1, k2⟩ := key i hi
         rw [k1] at hj
         have hj' : j < P.cellsOf e := by rw [← (hcell i k2 0 hpos).2, ← (hE i k2).2.1]; exact hj
         have h1 := (hcell i k2 j hj').1
         refine ⟨?_, ((hE i k2).2.2.1 j hj).2, fun h => h.elim⟩
         have hsp := hspot (by omega)
         have e1 : (a.add (i * P.cellsOf e)).add j = ⟨a.block, a.off + i * P.cellsOf e + j, none⟩ := by
          clear h1 hx helems hE hcell hspot key
          obtain ⟨bl, of, sp⟩ := a
          simp only at hsp
          subst hsp
          generalize i * P.cellsOf e = q
          simp only [Addr.add]
          by_cases q0 : q = 0 <;> by_cases j0 : j = 0 <;> simp [q0, j0] <;> omega
         rw [← e1]; exact h1)
        (fun i hi j hj => by
         obtain ⟨k1, k2⟩ := key i hi
         have hj2 : j < (E i).2.length := by rw [k1] at hj; exact hj
         have e2 : ((((List.range len).map fun i => pickD (!s.flat) (E i).2)[i]).cells)[j] = (E i).2[j] := by simp only [k1]
         rw [e2]; exact ((hE i k2).2.2.1 j hj2).1)
       rw [hlen] at this
       exact this
      ·simp only [Conf]
       refine ⟨_, rfl, fun x hx => ?_⟩
       obtain ⟨i, hi, rfl⟩ := List.mem_map.1 hx
       have hi' : i < len := by simpa using hi
       refine ⟨by rw [pickD_cells (hE i hi').2.2.2]; exact (hE i hi').2.2.2, fun hag => ⟨(E i).2, by simp [pickD, hag]⟩, fun hag => pickD_one (by simpa using hag) (hE i hi').2.2.2⟩
    ·cases h
   ·cases h
  ·rename_i fs hu
   split at h
   ·rename_i ss hss
    split at h
    ·rename_i hc
     cases h
     obtain ⟨xs, m, rfl, _, hl, hxl, hfs⟩ := DataW.trod_struct hu hx
     obtain ⟨h1, h2⟩ := ofFs_get _ _ _ hss
     obtain ⟨ds, k1, k2, k3⟩ := cat (w := w) (cs := cs) ss 0 (fun j s hj => by
      obtain ⟨f, f1, f2, f3, f4⟩ := h2 j s hj
      have f1' : fs[j]? = some f := by simpa using f1
      have h3 := hfs j f f1'
      have hjl : j < xs.length := by rw [hxl]; exact (Array.getElem?_eq_some_iff.1 f1').1
      rw [List.getElem?_eq_getElem hjl] at h3
      obtain ⟨ds, d1, d2, d3⟩ := ih f.type s f2 m _ _ h3
      have hlen : ds.length = s.size := by
       rw [d1, f3, List.length_take, List.length_drop]
       have : f.offset + s.size ≤ cs.length := by
        rw [hl, ← hc, f4, Nat.zero_add]
        exact sizeL_take hj
       omega
      refine ⟨ds, hlen, ?_, d3⟩
      rw [← f4]
      exact take_rep d2 d1)
     exact ⟨ds, by rw [k1, hl, hc], by simpa using k2, by simpa [Conf] using k3⟩
    ·cases h
   ·cases h
  ·rename_i n e hu
   split at h
   ·rename_i s hs
    split at h
    ·rename_i hc
     cases h
     obtain ⟨xs, m, rfl, _, hl, hxl, hfs⟩ := DataW.trod_array hu hx
     obtain ⟨ds, k1, k2, k3⟩ := cat (w := w) (cs := cs) (List.replicate n s) 0 (fun j s' hj => by
      have hjn : j < n := by
       have := (List.getElem?_eq_some_iff.1 hj).1; simpa using this
      have hss : s' = s := by
       rw [List.getElem?_replicate] at hj; simp [hjn] at hj; exact hj.symm
      subst hss
      have h3 := hfs j hjn
      rw [List.getElem?_eq_getElem (by omega)] at h3
      obtain ⟨ds, d1, d2, d3⟩ := ih e s' hs m _ _ h3
      have hoff : Sh.sizeL ((List.replicate n s').take j) = j * P.cellsOf e := by
       rw [List.take_replicate, sizeL_rep, hc.1, Nat.min_eq_left (by omega)]
      have hlen : ds.length = s'.size := by
       rw [d1, hc.1, List.length_take, List.length_drop]
       have : (j + 1) * P.cellsOf e ≤ n * P.cellsOf e := Nat.mul_le_mul_right _ hjn
       have h4 := hc.2
       rw [hc.1] at h4
       rw [Nat.succ_mul] at this
       omega
      refine ⟨ds, hlen, ?_, d3⟩
      rw [Nat.zero_add, hoff]
      exact take_rep d2 d1)
     exact ⟨ds, by rw [k1, hl, sizeL_rep, hc.2], by simpa using k2, by simpa [Conf] using k3⟩
    ·cases h
   ·cases h
  ·cases h
theorem open_sl {H : Type} {enc : TypeId × Value → H} {P : Program} {w : World} {spare : Nat → Bool} {held : Bool} {r : Reach} {b0 dep : Nat} {t e : TypeId} {sh : Sh} {v : Value} {d : DataW H} {ps : List MemPlace}
  (hsh : Sh.ofT P dep t = some sh) (ht : P.underlying t = some (.slice e)) (hval : Value.okWide P w r b0 t v) (hd : DataW.Trod enc P w 0 spare held t v d ps) :
  ∃ x : D, Conf sh [x] ∧ RepD w (fun _ _ => False) x v := by
 obtain ⟨a, len, cap, rfl⟩ := Go.WideShapes.okWide_slice ht hval
 obtain ⟨fuel, h⟩ := hd
 obtain ⟨ds, h1, h2, h3⟩ := trod_rep dep t sh hsh fuel _ _ h
 have h1' : ds.length = 1 := by rw [h1]; rfl
 obtain ⟨x, rfl⟩ : ∃ x, ds = [x] := by
  match ds, h1' with
  | [x], _ => exact ⟨x, rfl⟩
 exact ⟨x, h3, (h2 0 (by simp)).1⟩
theorem open_struct {H : Type} {enc : TypeId × Value → H} {P : Program} {w : World} {spare : Nat → Bool} {held : Bool} {r : Reach} {b0 dep : Nat} {t : TypeId} {fs : Array Field} {sh : Sh} {v : Value} {d : DataW H} {ps : List MemPlace}
  (hsh : Sh.ofT P dep t = some sh) (ht : P.underlying t = some (.struct fs)) (hval : Value.okWide P w r b0 t v) (hd : DataW.Trod enc P w 0 spare held t v d ps) :
  ∃ ds : List D, Conf sh ds ∧ RepD w (fun _ _ => False) (.agg ds) v := by
 unfold Value.okWide at hval
 rw [ht] at hval
 obtain ⟨cs, rfl, _, _⟩ := hval
 obtain ⟨fuel, h⟩ := hd
 obtain ⟨ds, h1, h2, h3⟩ := trod_rep dep t sh hsh fuel _ _ h
 simp only [Value.cells] at h1 h2
 have e : ∀ i, cs.getD i undef = cs.toList.getD i undef := fun i => by
  simp [Array.getD_eq_getD_getElem?, List.getD_eq_getElem?_getD]
 refine ⟨ds, h3, .agg (by simp [h1]) (fun i hi => ?_) (fun i hi => ?_)⟩
 ·rw [e]; exact (h2 i hi).2
 ·rw [e]; exact (h2 i hi).1
end Go.Ab
namespace Go.Tx
set_option linter.unusedVariables false
open Go Go.Ab Go.ChangeShapes Go.WideShapes Go.ChangeAt Go.RowKit
mutual
def fits : Sh → Ty → Bool
 | .bool, .bool => true
 | .int k, .int q => decide (k = q)
 | .sl ag e, .sl t => fits e t && (match t.ag with | some b => decide (ag = b) | none => false)
 | .row fs, .st a => fitsP fs a
 | .row fs, .arr n t => Nat.beq fs.length n && fitsA fs t
 | _, _ => false
def fitsP : List Sh → Ty → Bool
 | [], .unit => true
 | f :: fs, .prod a b => fits f a && fitsP fs b
 | _, _ => false
def fitsA : List Sh → Ty → Bool
 | [], _ => true
 | f :: fs, t => fits f t && fitsA fs t
end
theorem flat_list {t : Ty} (l : List t.den) : (List.finRange l.length).flatMap (fun i => enc t l[i]) = l.flatMap (enc t) := by
 have : (List.finRange l.length).map (fun i => l[i]) = l := by
  apply List.ext_getElem
  ·simp
  ·intro i h1 h2; simp
 conv => rhs; rw [← this]
 rw [List.flatMap_map]
mutual
theorem conf_fits : ∀ (sh : Sh) {t : Ty} {ds : List D}, fits sh t = true → Conf sh ds → ∃ a : t.den, ds = enc t a
 | .bool, t, ds, h, hc => by
  cases t with
  | bool => simp only [Conf] at hc; obtain ⟨b, rfl⟩ := hc; exact ⟨b, rfl⟩
  | _ => simp [fits] at h
 | .int k, t, ds, h, hc => by
  cases t with
  | int q =>
   simp only [fits, decide_eq_true_eq] at h
   subst h
   simp only [Conf] at hc; obtain ⟨b, rfl⟩ := hc; exact ⟨b, rfl⟩
  | _ => simp [fits] at h
 | .sl ag e, t, ds, h, hc => by
  cases t with
  | sl t =>
   simp only [fits, Bool.and_eq_true] at h
   simp only [Conf] at hc
   obtain ⟨xs, rfl, hx⟩ := hc
   have key : ∀ xs : List D, (∀ x ∈ xs, Conf e x.cells ∧ (ag = true → ∃ cs, x = .agg cs) ∧ (ag = false → x.cells = [x])) → ∃ l : List t.den, xs = l.map fun a => wrapD t (enc t a) := by
    intro xs
    induction xs with
    | nil => intro _; exact ⟨[], rfl⟩
    | cons x xs ih =>
     intro hx
     obtain ⟨l, rfl⟩ := ih fun z hz => hx z (List.mem_cons_of_mem _ hz)
     obtain ⟨h1, h2, h3⟩ := hx x List.mem_cons_self
     obtain ⟨a, ha⟩ := conf_fits e h.1 h1
     refine ⟨a :: l, ?_⟩
     simp only [List.map_cons, List.cons.injEq, and_true]
     have hag := h.2
     unfold wrapD
     cases hg : t.ag with
     | none => rw [hg] at hag; cases hag
     | some b =>
      rw [hg] at hag
      simp only [decide_eq_true_eq] at hag
      subst hag
      cases ag with
      | true =>
       obtain ⟨cs, rfl⟩ := h2 rfl
       simp only [← ha]; rfl
      | false =>
       simp only [← ha, h3 rfl]; rfl
   obtain ⟨l, rfl⟩ := key xs hx
   exact ⟨l, rfl⟩
  | _ => simp [fits] at h
 | .row fs, t, ds, h, hc => by
  rw [Conf] at hc
  cases t with
  | st a =>
   simp only [fits] at h
   obtain ⟨x, hx⟩ := conf_fitsP fs (t := a) h hc
   exact ⟨x, hx⟩
  | arr n t =>
   simp only [fits, Bool.and_eq_true] at h
   have e := Nat.eq_of_beq_eq_true h.1
   obtain ⟨l, hl, rfl⟩ := conf_fitsA fs h.2 hc
   subst e
   subst_vars
   refine ⟨fun i => l[i.1]'(by rw [hl]; exact i.2), ?_⟩
   rw [← flat_list l]
   simp only [enc]
   obtain ⟨k, hk⟩ : ∃ k, k = l.length := ⟨_, rfl⟩
   have : ∀ (k : Nat) (hk : l.length = k), (List.finRange l.length).flatMap (fun i => enc t l[i]) = (List.finRange k).flatMap (fun i => enc t (l[i.1]'(by rw [hk]; exact i.2))) := by
    intro k hk; subst hk; rfl
   exact this _ hl
  | _ => simp [fits] at h
theorem conf_fitsP : ∀ (fs : List Sh) {t : Ty} {ds : List D}, fitsP fs t = true → ConfL fs ds → ∃ a : t.den, ds = enc t a
 | [], t, ds, h, hc => by
  cases t with
  | unit => simp only [ConfL] at hc; subst hc; exact ⟨(), rfl⟩
  | _ => simp [fitsP] at h
 | f :: fs, t, ds, h, hc => by
  cases t with
  | prod a b =>
   simp only [fitsP, Bool.and_eq_true] at h
   rw [ConfL] at hc
   obtain ⟨u, v, rfl, h1, h2⟩ := hc
   obtain ⟨x, rfl⟩ := conf_fits f h.1 h1
   obtain ⟨y, rfl⟩ := conf_fitsP fs h.2 h2
   exact ⟨(x, y), rfl⟩
  | _ => simp [fitsP] at h
theorem conf_fitsA : ∀ (fs : List Sh) {t : Ty} {ds : List D}, fitsA fs t = true → ConfL fs ds → ∃ l : List t.den, l.length = fs.length ∧ ds = l.flatMap (enc t)
 | [], t, ds, h, hc => by simp only [ConfL] at hc; subst hc; exact ⟨[], rfl, rfl⟩
 | f :: fs, t, ds, h, hc => by
  simp only [fitsA, Bool.and_eq_true] at h
  rw [ConfL] at hc
  obtain ⟨u, v, rfl, h1, h2⟩ := hc
  obtain ⟨x, rfl⟩ := conf_fits f h.1 h1
  obtain ⟨l, hl, rfl⟩ := conf_fitsA fs h.2 h2
  exact ⟨x :: l, by simp [hl], by simp⟩
end
section
variable {P : Program} {H : Type} {enc : TypeId × Value → H}
theorem post_of_below {f : Func} {s : ChangeSpec} {apart fresh handsOn again : Bool} {W W' : World} {args : Array Value} {v : Value} {ds gs : List (DataW H)} {before pa pv : List MemPlace}
  (hW : DataW.Whole enc P f.params.toList s.vars apart W args.toList ds gs before)
  (hres : ∀ (b : Nat) (sp : Nat → Bool) (hd : Bool), DataW.TrodAll enc P W' b sp hd f.resultTypes.toList (v.resultList f.resultTypes.size) (s.fn H (ds ++ gs)).results [])
  (hargs : ∀ sp : Nat → Bool, (∀ p ∈ before, sp p.block = true) → DataW.TrodAll enc P W' 0 sp true f.params.toList args.toList (s.fn H (ds ++ gs)).args pa)
  (hvars : ∀ sp : Nat → Bool, (∀ p ∈ before, sp p.block = true) → DataW.TrodVars enc P W' sp s.vars (s.fn H (ds ++ gs)).vars pv)
  (hps : before = pa ++ pv) (hb : Below W.heap.size W W')
  (hok : ∀ (j : Nat) (t : TypeId) (r : Value), f.resultTypes[j]? = some t → (v.resultList f.resultTypes.size)[j]? = some r → Value.okWide P W' .any 0 t r) :
  s.post enc P f apart fresh handsOn again W args v W' := by
 have hold : ∀ p ∈ before, (fun b => decide (b < W.heap.size)) p.block = true := fun p hp => by simpa using hW.lt p hp
 have hlt : ∀ p ∈ before, p.block < W.heap.size := fun p hp => hW.lt p hp
 refine ⟨ds, gs, before, [], pa, pv, hW, hres _ _ _, hargs _ hold, hvars _ hold, World.keptBut_mono (fun p hp => ⟨hp, ?_⟩) (hb.frame (· ∈ before)), fun _ => ?_⟩
 ·rw [hps, List.mem_append] at hp
  exact Or.inr hp
 ·obtain ⟨_, _, _, _, _, hz, hn⟩ := hW
  refine ⟨hok, _, _, ([] ++ pa) ++ pv, ⟨[] ++ pa, pv, trodAll_append (hargs _ (fun _ _ => rfl)) (hres _ _ _), hvars _ (fun _ _ => rfl), rfl, ?_, ?_⟩, ?_⟩
  ·intro b off hp
   have hp' : MemPlace.cell b off ∈ before := by rw [hps]; simpa using hp
   rw [hb.frozen (hlt _ hp')]
   exact hz b off hp'
  ·intro ha
   have := hn ha
   rw [hps] at this
   simpa using this
  ·intro p hp _
   rw [hps]
   simpa using hp
theorem calls_of_pure {f : FuncId} {ds : List D} {b : Bool} {vs : Array Value} {w : World} (h : PureOK P f ds [.b b]) (hs : vs.size = ds.length)
  (hr : ∀ i (hi : i < ds.length), RepD w (fun _ _ => False) ds[i] (vs.getD i undef)) : Calls P f vs w fun e w' => e = .returned (.bool b) ∧ Below w.heap.size w w' := by
 refine (callsIn_wide (n := 0)).1 (CallsIn.mono (h (fun _ _ => False) w 0 vs (fun _ _ hf => hf.elim) hs hr) ?_)
 rintro e w' ⟨c, rfl, hb, hv⟩
 refine ⟨?_, hb⟩
 have h1 := hv ⟨fun _ => 0, fun _ => (0, 0, 0), fun _ => 0, fun _ => (none, 0, 0)⟩
 simp only [List.map_cons, List.map_nil, mkRes] at h1
 rw [h1.val.1]
theorem repD_int {w : World} {M : Cells} {k : IntKind} {n : Int} (h : (Lit.int k n).wf = true) : RepD w M (.v (.int k n)) (.int k n) := by
 refine .v ?_
 cases k <;> simp_all [okLeaf, inR, Lit.wf, IntKind.min, IntKind.max, IntKind.signed, IntKind.bits]
theorem open_st {w : World} {spare : Nat → Bool} {held : Bool} {r : Reach} {b0 dep : Nat} {t : TypeId} {tt : Ty} {fs : Array Field} {sh : Sh} {v : Value} {d : DataW H} {ps : List MemPlace}
  (hsh : Sh.ofT P dep t = some sh) (hf : fits sh tt = true) (hag : tt.ag = some true) (ht : P.underlying t = some (.struct fs)) (hval : Value.okWide P w r b0 t v) (hd : DataW.Trod enc P w 0 spare held t v d ps) :
  ∃ a : tt.den, RepD w (fun _ _ => False) (encD tt a) v := by
 obtain ⟨ds, h1, h2⟩ := open_struct hsh ht hval hd
 obtain ⟨a, rfl⟩ := conf_fits sh hf h1
 exact ⟨a, by unfold encD wrapD; rw [hag]; exact h2⟩
theorem open_sl' {w : World} {spare : Nat → Bool} {held : Bool} {r : Reach} {b0 dep : Nat} {t e : TypeId} {tt : Ty} {sh : Sh} {v : Value} {d : DataW H} {ps : List MemPlace}
  (hsh : Sh.ofT P dep t = some sh) (hf : fits sh (.sl tt) = true) (ht : P.underlying t = some (.slice e)) (hval : Value.okWide P w r b0 t v) (hd : DataW.Trod enc P w 0 spare held t v d ps) :
  ∃ a : (Ty.sl tt).den, RepD w (fun _ _ => False) (encD (.sl tt) a) v := by
 obtain ⟨x, h1, h2⟩ := open_sl hsh ht hval hd
 obtain ⟨a, ha⟩ := conf_fits (t := .sl tt) sh hf h1
 cases ha
 exact ⟨a, h2⟩
end
end Go.Tx
