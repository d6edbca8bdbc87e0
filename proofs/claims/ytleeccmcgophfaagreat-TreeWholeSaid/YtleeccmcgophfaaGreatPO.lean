/-
  What is proved: 'TreeWhole' (curtilagelaw14): for any world, any object, any ids and any number the law's function answers true, panics nowhere, and leaves its arguments as they were: a whole world stays so, whatever is laid into it, linked, fixed and moved, if a new object's name and numbers are nobody's, and it has no links; beside an error it is as it was. No condition. (The text round the walk follows the kit's proof-skeleton.)
-/
import Derived.Test.YtleeccmcgophfaaGreatPN
import Derived.Test.YtleeccmcgophfaaGreatPM
import Derived.Test.YtleeccmcgophfaaGreatPI
import Derived.ProofKit
import Derived.OpenShut
import Derived.Carry
import Derived.WideKeyArgs
set_option linter.all false
namespace Go.Proofs.YtleeccmcgophfaaGreat.treeWhole
set_option linter.all false
open Go Go.Ab Go.Tx Go.ChangeShapes Go.WideShapes Go.ChangeAt Go.RowKit
abbrev shPair:Sh:=.row [.int .u64,.int .i64]
abbrev shLabel:Sh:=.sl true shPair
abbrev shU:Sh:=.sl false (.int .u64)
abbrev shRef:Sh:=.row [.int .u64,.int .u64]
abbrev shMap:Sh:=.row [.int .i64,.int .i64,.int .u64,.int .u64,.int .i64,.bool]
abbrev shWait:Sh:=.row [shRef,.int .u64,.int .u64,.bool]
abbrev shThread:Sh:=.row [.row (List.replicate 16 (.int .u64)),.int .u64,shLabel,shRef,.int .u64,.int .u64,.int .i64,shWait,shU,shRef,.row (List.replicate 4 shLabel)]
abbrev shGate:Sh:=.row [shLabel,shLabel,shRef,.int .u64,.int .u64]
abbrev shObject:Sh:=.row [.int .u64,.int .i64,shLabel,.int .i64,.bool,shU,shU,.sl true shMap,shThread,shGate,shU,shU]
abbrev shWorld:Sh:=.row [.int .i64,.int .u64,.int .u64,.sl true shObject]
theorem shape25:Sh.ofT Tryz.prog 12 25=some shWorld:=by kernel_rfl
theorem fits25:fits shWorld Fn.t7=true:=by kernel_rfl
theorem shape58:Sh.ofT Tryz.prog 12 58=some shObject:=by kernel_rfl
theorem fits58:fits shObject Fn.t6=true:=by kernel_rfl
theorem walk (a0:Fn.D7) (a1:Fn.D6) (a2:Int) (a3:Int) (a4:Int) (v0:Value) (v1:Value) (w:World) (h0:RepD w (fun _ _=>False) (encD Fn.t7 a0) v0) (h1:RepD w (fun _ _=>False) (encD Fn.t6 a1) v1) (w2:(Lit.int .u64 a2).wf=true) (w3:(Lit.int .u64 a3).wf=true) (w4:(Lit.int .i64 a4).wf=true) :
  Calls Tryz.prog 10 #[v0,v1,.int .u64 a2,.int .u64 a3,.int .i64 a4] w fun e w'=>e = .returned (.bool true) ∧ Below w.heap.size w w' :=
 calls_of_pure (Fn.law10 (st:=(a0,a1,a2,a3,a4)) fun hw=>Fn.F10_true a0 a1 a2 a3 a4 (hw _ (List.mem_cons_self)) (hw _ (List.mem_cons_of_mem _ (List.mem_cons_self)))) rfl (fun i hi=>by
  rcases i with _ | _ | _ | _ | _ | i
  ·exact h0
  ·exact h1
  ·exact repD_int w2
  ·exact repD_int w3
  ·exact repD_int w4
  ·simp [toVs] at hi <;> omega)
set_option maxRecDepth 100000 in
theorem lifted (os:Os) (started:os.Started) (H:Type) (enc:TypeId × Value → H) :
  ReturnsInHanded {} Tryz.checked os 10 .any (Rows.treeWholeSpec.pre6 enc Tryz.prog Tryz.f10 Rows.treeWholeRow.domain false) (Rows.treeWholeSpec.post enc Tryz.prog Tryz.f10 false true false false):=by
 refine returnsInHanded_of_change (C:=Tryz.checked) own started (by kernel_rfl) Tryz.func10
  (ChangeSpec.witness6 (enc:=enc) (C:=Tryz.checked) false ⟨#[],#[.agg #[.int .i64 0,.int .u64 0,.int .u64 0,.slice none 0 0],.agg #[.int .u64 0,.int .i64 0,.slice none 0 0,.int .i64 0,.bool false,.slice none 0 0,.slice none 0 0,.slice none 0 0,.int .u64 0,.int .u64 0,.int .u64 0,.int .u64 0,.int .u64 0,.int .u64 0,.int .u64 0,.int .u64 0,.int .u64 0,.int .u64 0,.int .u64 0,.int .u64 0,.int .u64 0,.int .u64 0,.int .u64 0,.int .u64 0,.int .u64 0,.slice none 0 0,.int .u64 0,.int .u64 0,.int .u64 0,.int .u64 0,.int .i64 0,.int .u64 0,.int .u64 0,.int .u64 0,.int .u64 0,.bool false,.slice none 0 0,.int .u64 0,.int .u64 0,.slice none 0 0,.slice none 0 0,.slice none 0 0,.slice none 0 0,.slice none 0 0,.slice none 0 0,.int .u64 0,.int .u64 0,.int .u64 0,.int .u64 0,.slice none 0 0,.slice none 0 0],.int .u64 0,.int .u64 0,.int .i64 0],[]⟩ 8 (by kernel_rfl) (by kernel_rfl) (by kernel_rfl) (by kernel_rfl)) ?_
 intro W base args ds gs before hval0 hW hcnd _
 have hval:∀ (j:Nat) t v,Tryz.f10.params[j]? = some t → args[j]? = some v → Value.okWide Tryz.prog W .any base t v:=hval0
 have hW':=hW
 obtain ⟨p,q,hA0,hV,rfl,hfz,hnd⟩:=hW
 have hA:DataW.TrodAll enc Tryz.prog W 0 (fun _=>true) true Tryz.f10.params.toList args.toList ds p:=hA0
 rw [Tryz.params10] at hA hval
 obtain ⟨v0,vs0,d0,ds0,p0,q0,hargs,rfl,rfl,h0,r0⟩:=trodAll_cons hA
 obtain ⟨v1,vs1,d1,ds1,p1,q1,rfl,rfl,rfl,h1,r1⟩:=trodAll_cons r0
 obtain ⟨v2,vs2,d2,ds2,p2,q2,rfl,rfl,rfl,h2,r2⟩:=trodAll_cons r1
 obtain ⟨v3,vs3,d3,ds3,p3,q3,rfl,rfl,rfl,h3,r3⟩:=trodAll_cons r2
 obtain ⟨v4,vs4,d4,ds4,p4,q4,rfl,rfl,rfl,h4,r4⟩:=trodAll_cons r3
 obtain ⟨rfl,rfl,rfl⟩:=trodAll_nil r4
 obtain rfl:args = #[v0,v1,v2,v3,v4]:=by cases args; simp_all
 obtain ⟨rfl,rfl⟩:=trodVars_none hV
 obtain ⟨a0,e0⟩:=open_st shape25 fits25 rfl Tryz.underlying25 (hval 0 25 v0 rfl rfl) h0
 obtain ⟨a1,e1⟩:=open_st shape58 fits58 rfl Tryz.underlying58 (hval 1 58 v1 rfl rfl) h1
 obtain ⟨a2,rfl,rfl,rfl,w2⟩:=open_int Tryz.underlying22 (hval 2 22 v2 rfl rfl) h2
 obtain ⟨a3,rfl,rfl,rfl,w3⟩:=open_int Tryz.underlying22 (hval 3 22 v3 rfl rfl) h3
 obtain ⟨a4,rfl,rfl,rfl,w4⟩:=open_int Tryz.underlying3 (hval 4 3 v4 rfl rfl) h4
 clear hA0 hval0
 simp only [List.append_nil] at hW'
 have hlt:=hW'.lt
 refine (walk a0 a1 a2 a3 a4 v0 v1 W e0 e1 w2 w3 w4).mono fun e W' ⟨he,hg⟩=>?_
 subst he
 have st:∀ {t:TypeId} {v:Value} {d:DataW H} {ps:List MemPlace} {sp:Nat → Bool},Tryz.prog.readableRec t=true → t < Tryz.prog.types.size → DataW.Trod enc Tryz.prog W 0 (fun _=>true) true t v d ps → (∀ p ∈ ps,p.block < W.heap.size) → (∀ p ∈ ps,sp p.block=true) → DataW.Trod enc Tryz.prog W' 0 sp true t v d ps :=
  fun hr ht h hl hs=>WideElems.Trod_stays laid hr ht h (fun x hx=>hg.same (hl x hx)) hs
 have l0:∀ p ∈ p0,p.block < W.heap.size:=fun p hp=>hlt p (by simp [hp])
 have l1:∀ p ∈ p1,p.block < W.heap.size:=fun p hp=>hlt p (by simp [hp])
 exact ⟨_,rfl,post_of_below (pa:=p0 ++ (p1)) (pv:=[]) hW' (fun _ _ _=>(trodAll_cons_mk (shut_bool Tryz.underlying4 _) trodAll_mk0))
  (fun sp hsp=>by
   have:=trodAll_cons_mk (st (sp:=sp) read25 lt25 h0 l0 fun p hp=>hsp p (by simp [hp])) (trodAll_cons_mk (st (sp:=sp) read58 lt58 h1 l1 fun p hp=>hsp p (by simp [hp])) (trodAll_cons_mk (shut_int Tryz.underlying22 w2) (trodAll_cons_mk (shut_int Tryz.underlying22 w3) (trodAll_cons_mk (shut_int Tryz.underlying3 w4) (trodAll_mk0)))))
   simp only [List.append_nil,List.nil_append] at this
   exact this) (fun _ _=>rfl) (by simp)
  hg (ok_one (by kernel_rfl) rfl (okWide_bool_mk Tryz.underlying4 _))⟩
theorem over:Rows.treeWholeRow.holds Tryz.pinned (OpenSpec.ofChange Rows.treeWholeSpec) :=
 OpenClaim.holds_of_wide 10 Tryz.f10 rfl rfl rfl rfl rfl rfl rfl ⟨rfl,rfl,rfl,rfl,rfl⟩ rfl rfl rfl rfl rfl c1 Tryz.func10 c2 c4 c3 (fun os started H enc _=>lifted os started H enc)
theorem proved:Rows.TreeWholeSaid :=
 over
#print axioms proved
end Go.Proofs.YtleeccmcgophfaaGreat.treeWhole
