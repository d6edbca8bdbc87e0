/-
  What is proved: 'SweepJust' (curtilagelaw15): for any world and any two ids the law's function answers true, panics nowhere, and leaves its arguments as they were: what goes are those that no container is left for; all that is left lies in a container, but the root, and is as it was, but for the links of the one; a whole world stays whole, and no container has less room, if the world is whole and has few objects. No condition. (The text round the walk follows the kit's proof-skeleton.)
-/
import Derived.Test.YtleeccmcgophfaaPN
import Derived.Test.YtleeccmcgophfaaPM
import Derived.Test.YtleeccmcgophfaaPI
import Derived.ProofKit
import Derived.OpenShut
import Derived.Carry
import Derived.WideKeyArgs
set_option linter.all false
namespace Go.Proofs.Ytleeccmcgophfaa.sweepJust
set_option linter.all false
open Go Go.Ab Go.Tx Go.ChangeShapes Go.WideShapes Go.ChangeAt Go.RowKit
abbrev aaD:Sh:=.row [.int .u64,.int .i64]
abbrev zG:Sh:=.sl true aaD
abbrev shU:Sh:=.sl false (.int .u64)
abbrev Vo:Sh:=.row [.int .u64,.int .u64]
abbrev abz:Sh:=.row [.int .i64,.int .i64,.int .u64,.int .u64,.int .i64,.bool]
abbrev aaE:Sh:=.row [Vo,.int .u64,.int .u64,.bool]
abbrev Vp:Sh:=.row [.row (List.replicate 16 (.int .u64)),.int .u64,zG,Vo,.int .u64,.int .u64,.int .i64,aaE,shU,Vo,.row (List.replicate 4 zG)]
abbrev aaF:Sh:=.row [zG,zG,Vo,.int .u64,.int .u64]
abbrev Vq:Sh:=.row [.int .u64,.int .i64,zG,.int .i64,.bool,shU,shU,.sl true abz,Vp,aaF,shU,shU]
abbrev RU:Sh:=.row [.int .i64,.int .u64,.int .u64,.sl true Vq]
theorem shape25:Sh.ofT Try.prog 12 25=some RU:=by kernel_rfl
theorem aaG:fits RU Fn.t7=true:=by kernel_rfl
theorem walk (a0:Fn.D7) (a1:Int) (a2:Int) (v0:Value) (w:World) (h0:fD w (fun _ _=>False) (bD Fn.t7 a0) v0) (w1:(Lit.int .u64 a1).wf=true) (w2:(Lit.int .u64 a2).wf=true) :
  Calls Try.prog 3 #[v0,.int .u64 a1,.int .u64 a2] w fun e w'=>e = .returned (.bool true)∧Below w.heap.size w w' :=
 DK (Fn.law3 (st:=(a0,a1,a2)) fun hw=>Fn.Y3 a0 a1 a2 (hw _ (List.mem_cons_self))) rfl (fun i hi=>by
  rcases i with _ | _ | _ | i
  ·exact h0
  ·exact Ku w1
  ·exact Ku w2
  ·simp [l7] at hi <;> omega)
set_option maxRecDepth 100000 in
theorem lifted (os:Os) (started:os.Started) (H:Type) (enc:TypeId×Value→H) :
  ReturnsInHanded {} Try.checked os 3 .any (Rows.sweepJustSpec.pre6 enc Try.prog Try.f3 Rows.sweepJustRow.domain false) (Rows.sweepJustSpec.post enc Try.prog Try.f3 false true false false):=by
 refine returnsInHanded_of_change (C:=Try.checked) own started (by kernel_rfl) Try.func3
  (ChangeSpec.witness6 (enc:=enc) (C:=Try.checked) false ⟨#[],#[.agg #[.int .i64 0,.int .u64 0,.int .u64 0,.slice none 0 0],.int .u64 0,.int .u64 0],[]⟩ 8 (by kernel_rfl) (by kernel_rfl) (by kernel_rfl) (by kernel_rfl)) ?_
 intro W base args ds gs before hval0 hW hcnd _
 have hval:∀ (j:Nat) t v,Try.f3.params[j]? = some t→args[j]? = some v→Value.okWide Try.prog W .any base t v:=hval0
 have hW':=hW
 obtain ⟨p,q,hA0,hV,rfl,hfz,hnd⟩:=hW
 have hA:DataW.TrodAll enc Try.prog W 0 (fun _=>true) true Try.f3.params.toList args.toList ds p:=hA0
 rw [Try.params3] at hA hval
 obtain ⟨v0,vs0,d0,ds0,p0,q0,hargs,rfl,rfl,h0,r0⟩:=trodAll_cons hA
 obtain ⟨v1,vs1,d1,ds1,p1,q1,rfl,rfl,rfl,h1,r1⟩:=trodAll_cons r0
 obtain ⟨v2,vs2,d2,ds2,p2,q2,rfl,rfl,rfl,h2,r2⟩:=trodAll_cons r1
 obtain ⟨rfl,rfl,rfl⟩:=trodAll_nil r2
 obtain rfl:args = #[v0,v1,v2]:=by cases args;simp_all
 obtain ⟨rfl,rfl⟩:=trodVars_none hV
 obtain ⟨a0,e0⟩:=X7 shape25 aaG rfl Try.underlying25 (hval 0 25 v0 rfl rfl) h0
 obtain ⟨a1,rfl,rfl,rfl,w1⟩:=open_int Try.underlying22 (hval 1 22 v1 rfl rfl) h1
 obtain ⟨a2,rfl,rfl,rfl,w2⟩:=open_int Try.underlying22 (hval 2 22 v2 rfl rfl) h2
 clear hA0 hval0
 simp only [List.append_nil] at hW'
 have hlt:=hW'.lt
 refine (walk a0 a1 a2 v0 W e0 w1 w2).mono fun e W' ⟨he,hg⟩=>?_
 subst he
 have st:∀ {t:TypeId} {v:Value} {d:DataW H} {ps:List MemPlace} {sp:Nat→Bool},Try.prog.readableRec t=true→t<Try.prog.types.size→DataW.Trod enc Try.prog W 0 (fun _=>true) true t v d ps→(∀ p∈ps,p.block<W.heap.size)→(∀ p∈ps,sp p.block=true)→DataW.Trod enc Try.prog W' 0 sp true t v d ps :=
  fun hr ht h hl hs=>WideElems.Trod_stays laid hr ht h (fun x hx=>hg.same (hl x hx)) hs
 have l0:∀ p∈p0,p.block<W.heap.size:=fun p hp=>hlt p (by simp [hp])
 exact ⟨_,rfl,DJ (pa:=p0) (pv:=[]) hW' (fun _ _ _=>(trodAll_cons_mk (shut_bool Try.underlying4 _) trodAll_mk0))
  (fun sp hsp=>by
   have:=trodAll_cons_mk (st (sp:=sp) aaC abY h0 l0 fun p hp=>hsp p (by simp [hp])) (trodAll_cons_mk (shut_int Try.underlying22 w1) (trodAll_cons_mk (shut_int Try.underlying22 w2) (trodAll_mk0)))
   simp only [List.append_nil,List.nil_append] at this
   exact this) (fun _ _=>rfl) (by simp)
  hg (ok_one (by kernel_rfl) rfl (okWide_bool_mk Try.underlying4 _))⟩
theorem over:Rows.sweepJustRow.holds Try.pinned (OpenSpec.ofChange Rows.sweepJustSpec) :=
 OpenClaim.holds_of_wide 3 Try.f3 rfl rfl rfl rfl rfl rfl rfl ⟨rfl,rfl,rfl,rfl,rfl⟩ rfl rfl rfl rfl rfl c1 Try.func3 c2 c4 c3 (fun os started H enc _=>lifted os started H enc)
theorem proved:Rows.SweepJustSaid :=
 over
#print axioms proved
end Go.Proofs.Ytleeccmcgophfaa.sweepJust
