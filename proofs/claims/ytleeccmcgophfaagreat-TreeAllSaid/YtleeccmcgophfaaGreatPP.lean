/-
  What is proved: 'TreeAll' (curtilagelaw14): for any world the law's function answers true, panics nowhere, and leaves its argument as it was: of a whole world there are no more objects than the root has pages, no object uses more than its quota, all that use pages by themselves use no more than the root's quota, and from each thing one comes up to the root. No condition. (The text round the walk follows the kit's proof-skeleton.)
-/
import Derived.Test.YtleeccmcgophfaaGreatPO
import Derived.Test.YtleeccmcgophfaaGreatPN
import Derived.Test.YtleeccmcgophfaaGreatPK
import Derived.ProofKit
import Derived.OpenShut
import Derived.Carry
import Derived.WideKeyArgs
set_option linter.all false
namespace Go.Proofs.YtleeccmcgophfaaGreat.treeAll
set_option linter.all false
open Go Go.Ab Go.Tx Go.ChangeShapes Go.WideShapes Go.ChangeAt Go.RowKit
abbrev shPair : Sh := .row [.int .u64, .int .i64]
abbrev shLabel : Sh := .sl true shPair
abbrev shU : Sh := .sl false (.int .u64)
abbrev shRef : Sh := .row [.int .u64, .int .u64]
abbrev shMap : Sh := .row [.int .i64, .int .i64, .int .u64, .int .u64, .int .i64, .bool]
abbrev shWait : Sh := .row [shRef, .int .u64, .int .u64, .bool]
abbrev shThread : Sh := .row [.row (List.replicate 16 (.int .u64)), .int .u64, shLabel, shRef, .int .u64, .int .u64, .int .i64, shWait, shU, shRef, .row (List.replicate 4 shLabel)]
abbrev shGate : Sh := .row [shLabel, shLabel, shRef, .int .u64, .int .u64]
abbrev shObject : Sh := .row [.int .u64, .int .i64, shLabel, .int .i64, .bool, shU, shU, .sl true shMap, shThread, shGate, shU, shU]
abbrev shWorld : Sh := .row [.int .i64, .int .u64, .int .u64, .sl true shObject]
theorem shape25 : Sh.ofT Tryz.prog 12 25 = some shWorld := by kernel_rfl
theorem fits7 : fits shWorld Fn.t7 = true := by kernel_rfl
theorem walk (a : Fn.D7) (v0 : Value) (w : World) (h0 : RepD w (fun _ _ => False) (encD Fn.t7 a) v0) :
  Calls Tryz.prog 6 #[v0] w fun e w' => e = .returned (.bool true) ∧ Below w.heap.size w w' :=
 calls_of_pure (Fn.law6 (st := a) fun hw => Fn.F6_true a (hw _ (List.mem_cons_self))) rfl (fun i hi => by
  rcases i with _ | i
  ·exact h0
  ·simp [toVs] at hi)
set_option maxRecDepth 100000 in
theorem lifted (os : Os) (started : os.Started) (H : Type) (enc : TypeId × Value → H) :
  ReturnsInHanded {} Tryz.checked os 6 .any (Rows.treeAllSpec.pre6 enc Tryz.prog Tryz.f6 Rows.treeAllRow.domain false) (Rows.treeAllSpec.post enc Tryz.prog Tryz.f6 false true false false) := by
 refine returnsInHanded_of_change (C := Tryz.checked) own started (by kernel_rfl) Tryz.func6
  (ChangeSpec.witness6 (enc := enc) (C := Tryz.checked) false ⟨#[], #[.agg #[.int .i64 0, .int .u64 0, .int .u64 0, .slice none 0 0]], []⟩ 8 (by kernel_rfl) (by kernel_rfl) (by kernel_rfl) (by kernel_rfl)) ?_
 intro W base args ds gs before hval0 hW hcnd _
 have hval : ∀ (j : Nat) t v, Tryz.f6.params[j]? = some t → args[j]? = some v → Value.okWide Tryz.prog W .any base t v := hval0
 have hW' := hW
 obtain ⟨p, q, hA0, hV, rfl, hfz, hnd⟩ := hW
 have hA : DataW.TrodAll enc Tryz.prog W 0 (fun _ => true) true Tryz.f6.params.toList args.toList ds p := hA0
 rw [Tryz.params6] at hA hval
 obtain ⟨v0, vs0, d0, ds0, p0, q0, hargs, rfl, rfl, h0, r0⟩ := trodAll_cons hA
 obtain ⟨rfl, rfl, rfl⟩ := trodAll_nil r0
 obtain rfl : args = #[v0] := by cases args; simp_all
 obtain ⟨rfl, rfl⟩ := trodVars_none hV
 obtain ⟨a0, e0⟩ := open_st shape25 fits7 rfl Tryz.underlying25 (hval 0 25 v0 rfl rfl) h0
 clear hA0 hval0
 simp only [List.append_nil] at hW'
 have hlt := hW'.lt
 refine (walk a0 v0 W e0).mono fun e W' ⟨he, hg⟩ => ?_
 subst he
 have st : ∀ {t : TypeId} {v : Value} {d : DataW H} {ps : List MemPlace} {sp : Nat → Bool}, Tryz.prog.readableRec t = true → t < Tryz.prog.types.size → DataW.Trod enc Tryz.prog W 0 (fun _ => true) true t v d ps → (∀ p ∈ ps, p.block < W.heap.size) → (∀ p ∈ ps, sp p.block = true) → DataW.Trod enc Tryz.prog W' 0 sp true t v d ps :=
  fun hr ht h hl hs => WideElems.Trod_stays laid hr ht h (fun x hx => hg.same (hl x hx)) hs
 have l0 : ∀ p ∈ p0, p.block < W.heap.size := fun p hp => hlt p (by simpa using hp)
 exact ⟨_, rfl, post_of_below (pa := p0) (pv := []) hW' (fun _ _ _ => (trodAll_cons_mk (shut_bool Tryz.underlying4 _) trodAll_mk0))
  (fun sp hsp => by
   have := trodAll_cons_mk (st (sp := sp) read25 lt25 h0 l0 fun p hp => hsp p (by simpa using hp)) trodAll_mk0
   simp only [List.append_nil] at this
   exact this) (fun _ _ => rfl) (by simp)
  hg (ok_one (by kernel_rfl) rfl (okWide_bool_mk Tryz.underlying4 _))⟩
theorem over : Rows.treeAllRow.holds Tryz.pinned (OpenSpec.ofChange Rows.treeAllSpec) :=
 OpenClaim.holds_of_wide 6 Tryz.f6 rfl rfl rfl rfl rfl rfl rfl ⟨rfl, rfl, rfl, rfl, rfl⟩ rfl rfl rfl rfl rfl c1 Tryz.func6 c2 c4 c3 (fun os started H enc _ => lifted os started H enc)
theorem proved : Rows.TreeAllSaid :=
 over
#print axioms proved
end Go.Proofs.YtleeccmcgophfaaGreat.treeAll
