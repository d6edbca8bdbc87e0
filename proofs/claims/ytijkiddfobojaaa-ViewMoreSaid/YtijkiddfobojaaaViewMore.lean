/-
  What is proved: 'ViewMore' (curtilagelaw27): for any two worlds and any two labels the law's function answers true, panics nowhere, and leaves its arguments as they were: who sees more sees all that another one sees, and what is alike for the one is alike for the other. No condition. (The text round the walk was written by the kit's proof-skeleton.)
-/
import Derived.Test.YtijkiddfobojaaaRows
import Derived.Test.YtijkiddfobojaaaW9
import Derived.Test.YtijkiddfobojaaaW11
import Derived.Test.YtijkiddfobojaaaAbTop
import Derived.ProofKit
import Derived.OpenShut
import Derived.Carry
import Derived.WideKeyArgs
namespace Go.Proofs.Ytijkiddfobojaaa.viewMore
set_option linter.all false
open Go Go.Ab Go.ChangeShapes Go.WideShapes Go.ChangeAt Go.RowKit
set_option linter.unusedVariables false      -- a walk need not use every 'w<i>' (that an integer argument fits its kind)

theorem laid : laidOutB Try.prog = true := by kernel_rfl
theorem read25 : Try.prog.readableRec 25 = true := by kernel_rfl
theorem read27 : Try.prog.readableRec 27 = true := by kernel_rfl
theorem lt25 : 25 < Try.prog.types.size := of_decide_eq_true (by kernel_rfl)
theorem lt27 : 27 < Try.prog.types.size := of_decide_eq_true (by kernel_rfl)
theorem own : ownKnob Try.prog.godebug = none := by kernel_rfl

/-! ### STEP 1: THE WALK: the function's contract on data, at the values that the arguments are. -/
theorem walk (a b : XWorld) (c d : List XPair) (v0 v1 v2 v3 : Value) (w : World) (h0 : RepD w (fun _ _ => False) a.enc v0) (h1 : RepD w (fun _ _ => False) b.enc v1) (h2 : RepD w (fun _ _ => False) (encL XPair.enc c) v2) (h3 : RepD w (fun _ _ => False) (encL XPair.enc d) v3) :
    Calls Try.prog 3 #[v0, v1, v2, v3] w fun e w' => e = .returned (.bool true) ∧ Below w.heap.size w w' :=
  calls_of_pure (f3_ok a b c d) rfl (fun i hi => by
    rcases i with _ | _ | _ | _ | i
    · exact h0
    · exact h1
    · exact h2
    · exact h3
    · simp at hi; omega)
set_option maxRecDepth 100000 in
theorem open_world {H : Type} {enc : TypeId × Value → H} {w : World} {spare : Nat → Bool} {held : Bool} {r : Reach} {b0 : Nat} {v : Value} {d : DataW H} {ps : List MemPlace}
    (hval : Value.okWide Try.prog w r b0 25 v) (hd : DataW.Trod enc Try.prog w 0 spare held 25 v d ps) : ∃ a : XWorld, RepD w (fun _ _ => False) a.enc v := by
  obtain ⟨ds, h1, h2⟩ := open_struct shape25 Try.underlying25 hval hd
  obtain ⟨a, rfl⟩ := conf_world h1
  exact ⟨a, h2⟩
set_option maxRecDepth 100000 in
theorem open_label {H : Type} {enc : TypeId × Value → H} {w : World} {spare : Nat → Bool} {held : Bool} {r : Reach} {b0 : Nat} {v : Value} {d : DataW H} {ps : List MemPlace}
    (hval : Value.okWide Try.prog w r b0 27 v) (hd : DataW.Trod enc Try.prog w 0 spare held 27 v d ps) : ∃ a : List XPair, RepD w (fun _ _ => False) (encL XPair.enc a) v := by
  obtain ⟨x, h1, h2⟩ := open_sl shape27 Try.underlying27 hval hd
  obtain ⟨a, ha⟩ := conf_label h1
  cases ha
  exact ⟨a, h2⟩

/-! ### THE ROW's STEP: WRITTEN OUT: LEAVE IT -/
set_option maxRecDepth 100000 in
theorem lifted (os : Os) (started : os.Started) (H : Type) (enc : TypeId × Value → H) :
    ReturnsInHanded {} Try.checked os 3 .any (Rows.viewMoreSpec.pre6 enc Try.prog Try.f3 Rows.viewMoreRow.domain false) (Rows.viewMoreSpec.post enc Try.prog Try.f3 false true false false) := by
  refine returnsInHanded_of_change (C := Try.checked) own started (by kernel_rfl) Try.func3
    (ChangeSpec.witness6 (enc := enc) (C := Try.checked) false ⟨#[], #[.agg #[.int .i64 0, .int .u64 0, .int .u64 0, .slice none 0 0], .agg #[.int .i64 0, .int .u64 0, .int .u64 0, .slice none 0 0], .slice none 0 0, .slice none 0 0], []⟩ 8 (by kernel_rfl) (by kernel_rfl) (by kernel_rfl) (by kernel_rfl)) ?_
  intro W base args ds gs before hval0 hW hcnd _
  have hval : ∀ (j : Nat) t v, Try.f3.params[j]? = some t → args[j]? = some v → Value.okWide Try.prog W .any base t v := hval0
  have hW' := hW
  obtain ⟨p, q, hA0, hV, rfl, hfz, hnd⟩ := hW
  have hA : DataW.TrodAll enc Try.prog W 0 (fun _ => true) true Try.f3.params.toList args.toList ds p := hA0
  rw [Try.params3] at hA hval
  obtain ⟨v0, vs0, d0, ds0, p0, q0, hargs, rfl, rfl, h0, r0⟩ := trodAll_cons hA
  obtain ⟨v1, vs1, d1, ds1, p1, q1, rfl, rfl, rfl, h1, r1⟩ := trodAll_cons r0
  obtain ⟨v2, vs2, d2, ds2, p2, q2, rfl, rfl, rfl, h2, r2⟩ := trodAll_cons r1
  obtain ⟨v3, vs3, d3, ds3, p3, q3, rfl, rfl, rfl, h3, r3⟩ := trodAll_cons r2
  obtain ⟨rfl, rfl, rfl⟩ := trodAll_nil r3
  obtain rfl : args = #[v0, v1, v2, v3] := by cases args; simp_all
  obtain ⟨rfl, rfl⟩ := trodVars_none hV
  obtain ⟨a0, e0⟩ := open_world (hval 0 25 v0 rfl rfl) h0
  obtain ⟨a1, e1⟩ := open_world (hval 1 25 v1 rfl rfl) h1
  obtain ⟨a2, e2⟩ := open_label (hval 2 27 v2 rfl rfl) h2
  obtain ⟨a3, e3⟩ := open_label (hval 3 27 v3 rfl rfl) h3
  clear hA0 hval0
  simp only [List.append_nil] at hW'
  have hlt := hW'.lt
  refine (walk a0 a1 a2 a3 v0 v1 v2 v3 W e0 e1 e2 e3).mono fun e W' ⟨he, hg⟩ => ?_
  subst he
  have st : ∀ {t : TypeId} {v : Value} {d : DataW H} {ps : List MemPlace} {sp : Nat → Bool}, Try.prog.readableRec t = true → t < Try.prog.types.size → DataW.Trod enc Try.prog W 0 (fun _ => true) true t v d ps → (∀ p ∈ ps, p.block < W.heap.size) → (∀ p ∈ ps, sp p.block = true) → DataW.Trod enc Try.prog W' 0 sp true t v d ps :=
    fun hr ht h hl hs => WideElems.Trod_stays laid hr ht h (fun x hx => hg.same (hl x hx)) hs
  have l0 : ∀ p ∈ p0, p.block < W.heap.size := fun p hp => hlt p (by simp [hp])
  have l1 : ∀ p ∈ p1, p.block < W.heap.size := fun p hp => hlt p (by simp [hp])
  have l2 : ∀ p ∈ p2, p.block < W.heap.size := fun p hp => hlt p (by simp [hp])
  have l3 : ∀ p ∈ p3, p.block < W.heap.size := fun p hp => hlt p (by simp [hp])
  exact ⟨_, rfl, post_of_below (pa := p0 ++ (p1 ++ (p2 ++ p3))) (pv := []) hW' (fun _ _ _ => (trodAll_cons_mk (shut_bool Try.underlying4 _) trodAll_mk0))
    (fun sp hsp => by
      have := trodAll_cons_mk (st (sp := sp) read25 lt25 h0 l0 fun p hp => hsp p (by simp [hp])) (trodAll_cons_mk (st (sp := sp) read25 lt25 h1 l1 fun p hp => hsp p (by simp [hp])) (trodAll_cons_mk (st (sp := sp) read27 lt27 h2 l2 fun p hp => hsp p (by simp [hp])) (trodAll_cons_mk (st (sp := sp) read27 lt27 h3 l3 fun p hp => hsp p (by simp [hp])) trodAll_mk0)))
      simp only [List.append_nil] at this
      exact this) (fun _ _ => rfl) (by simp)
    hg (ok_one (by kernel_rfl) rfl (okWide_bool_mk Try.underlying4 _))⟩

theorem over : Rows.viewMoreRow.holds Try.pinned (OpenSpec.ofChange Rows.viewMoreSpec) :=
  OpenClaim.holds_of_wide 3 Try.f3 rfl rfl rfl rfl rfl rfl rfl ⟨rfl, rfl, rfl, rfl, rfl⟩ rfl rfl rfl rfl rfl (by kernel_rfl) Try.func3 (by kernel_rfl)
    (of_decide_eq_true (by kernel_rfl)) (by unfold Func.isWrapper; first | (rw [if_pos (by decide +kernel)]; kernel_rfl) | (rw [if_neg (by decide +kernel)]; exact ⟨rfl, rfl⟩))
    (fun os started H enc _ => lifted os started H enc)

/-- ████ THE STATEMENT ████ -/
theorem proved : Rows.ViewMoreSaid :=
  over
#print axioms proved
end Go.Proofs.Ytijkiddfobojaaa.viewMore
