/-
  What is proved: 'AuditCounts' (curtilagelaw28): how many pages are used, what containers are charged with, and the bound of a tick, are the document's, for any world (of any size: where it is not of few objects, or not fit, only the examples are asked). No condition. (The text round the walk follows the kit's proof-skeleton.)
-/
import Derived.Test.YtleeccmcgophfaaGreatPL
import Derived.Test.YtleeccmcgophfaaGreatPK
import Derived.Test.YtleeccmcgophfaaGreatPI
import Derived.ProofKit
import Derived.OpenShut
import Derived.Carry
import Derived.WideKeyArgs
set_option linter.all false
namespace Go.Proofs.YtleeccmcgophfaaGreat.auditCounts
open Go Go.Ab Go.Tx Go.ChangeShapes Go.WideShapes Go.ChangeAt Go.RowKit
abbrev shPair:Sh:=.row [.int .u64,.int .i64]
abbrev shLabel:Sh:=.sl true shPair
abbrev shU:Sh:=.sl false (.int .u64)
abbrev shRef:Sh:=.row [.int .u64,.int .u64]
abbrev shMap:Sh:=.row [.int .i64,.int .i64,.int .u64,.int .u64,.int .i64,.bool]
abbrev shWait:Sh:=.row [shRef,.int .u64,.int .u64,.bool]
abbrev shThread:Sh:=.row [.row (List.replicate 16 (.int .u64)),.int .u64,shLabel,shRef,.int .u64,.int .u64,.int .i64,shWait,shU,shRef,.row (List.replicate 4 shLabel)]
abbrev shGate:Sh:=.row [shLabel,shLabel,shRef,.int .u64,.int .u64]
abbrev shObject:Sh:=.row [.int .u64,.int .i64,shLabel,.int .i64,.bool,shU,shU,.sl true shMap,shThread,shGate,shU,shU]
abbrev shWorld:Sh:=.row [.int .i64,.int .u64,.int .u64,.sl true shObject]
theorem shape25:Sh.ofT Tryz.prog 12 25=some shWorld:=by kernel_rfl
theorem fits25:fits shWorld Fn.t7=true:=by kernel_rfl
theorem walk (a0:Fn.D7) (v0:Value) (w:World) (h0:RepD w (fun _ _=>False) (encD Fn.t7 a0) v0) :
  Calls Tryz.prog 3 #[v0] w fun e w'=>e = .returned (.bool true)∧Below w.heap.size w w' :=
 calls_of_pure (Fn.law3 (st:=a0) fun hw=>Fn.F3_true a0 (hw _ (List.mem_cons_self))) rfl (fun i hi=>by
  rcases i with _ | i
  ·exact h0
  ·simp [toVs] at hi <;> omega)
set_option maxRecDepth 100000 in
theorem lifted (os:Os) (started:os.Started) (H:Type) (enc:TypeId×Value→H) :
  ReturnsInHanded {} Tryz.checked os 3 .any (Rows.auditCountsSpec.pre6 enc Tryz.prog Tryz.f3 Rows.auditCountsRow.domain false) (Rows.auditCountsSpec.post enc Tryz.prog Tryz.f3 false true false false):=by
 refine returnsInHanded_of_change (C:=Tryz.checked) own started (by kernel_rfl) Tryz.func3
  (ChangeSpec.witness6 (enc:=enc) (C:=Tryz.checked) false ⟨#[],#[.agg #[.int .i64 0,.int .u64 0,.int .u64 0,.slice none 0 0]],[]⟩ 8 (by kernel_rfl) (by kernel_rfl) (by kernel_rfl) (by kernel_rfl)) ?_
 intro W base args ds gs before hval0 hW hcnd _
 have hval:∀ (j:Nat) t v,Tryz.f3.params[j]? = some t→args[j]? = some v→Value.okWide Tryz.prog W .any base t v:=hval0
 have hW':=hW
 obtain ⟨p,q,hA0,hV,rfl,hfz,hnd⟩:=hW
 have hA:DataW.TrodAll enc Tryz.prog W 0 (fun _=>true) true Tryz.f3.params.toList args.toList ds p:=hA0
 rw [Tryz.params3] at hA hval
 obtain ⟨v0,vs0,d0,ds0,p0,q0,hargs,rfl,rfl,h0,r0⟩:=trodAll_cons hA
 obtain ⟨rfl,rfl,rfl⟩:=trodAll_nil r0
 obtain rfl:args = #[v0]:=by cases args;simp_all
 obtain ⟨rfl,rfl⟩:=trodVars_none hV
 obtain ⟨a0,e0⟩:=open_st shape25 fits25 rfl Tryz.underlying25 (hval 0 25 v0 rfl rfl) h0
 clear hA0 hval0
 simp only [List.append_nil] at hW'
 have hlt:=hW'.lt
 refine (walk a0 v0 W e0).mono fun e W' ⟨he,hg⟩=>?_
 subst he
 have st:∀ {t:TypeId} {v:Value} {d:DataW H} {ps:List MemPlace} {sp:Nat→Bool},Tryz.prog.readableRec t=true→t<Tryz.prog.types.size→DataW.Trod enc Tryz.prog W 0 (fun _=>true) true t v d ps→(∀ p∈ps,p.block<W.heap.size)→(∀ p∈ps,sp p.block=true)→DataW.Trod enc Tryz.prog W' 0 sp true t v d ps :=
  fun hr ht h hl hs=>WideElems.Trod_stays laid hr ht h (fun x hx=>hg.same (hl x hx)) hs
 have l0:∀ p∈p0,p.block<W.heap.size:=fun p hp=>hlt p (by simp [hp])
 exact ⟨_,rfl,post_of_below (pa:=p0) (pv:=[]) hW' (fun _ _ _=>(trodAll_cons_mk (shut_bool Tryz.underlying4 _) trodAll_mk0))
  (fun sp hsp=>by
   have:=trodAll_cons_mk (st (sp:=sp) read25 lt25 h0 l0 fun p hp=>hsp p (by simp [hp])) (trodAll_mk0)
   simp only [List.append_nil,List.nil_append] at this
   exact this) (fun _ _=>rfl) (by simp)
  hg (ok_one (by kernel_rfl) rfl (okWide_bool_mk Tryz.underlying4 _))⟩
theorem over:Rows.auditCountsRow.holds Tryz.pinned (OpenSpec.ofChange Rows.auditCountsSpec) :=
 OpenClaim.holds_of_wide 3 Tryz.f3 rfl rfl rfl rfl rfl rfl rfl ⟨rfl,rfl,rfl,rfl,rfl⟩ rfl rfl rfl rfl rfl c1 Tryz.func3 c2 c4 c3 (fun os started H enc _=>lifted os started H enc)
theorem proved:Rows.AuditCountsSaid :=
 over
#print axioms proved
end Go.Proofs.YtleeccmcgophfaaGreat.auditCounts
