/-
  What is proved: 'SweepFound' (curtilagelaw15): for any world and any two ids the law's function answers true, panics nowhere, and leaves its arguments as they were: what lies in another container, too, does not go; what lies in one alone goes, and with it all below that lies nowhere else, if the world is whole and has few objects. No condition. (The text round the walk follows the kit's proof-skeleton.)
-/
import Derived.Test.YtleeccmcgophfaaPO
import Derived.Test.YtleeccmcgophfaaPN
import Derived.Test.YtleeccmcgophfaaPJ
import Derived.ProofKit
import Derived.OpenShut
import Derived.Carry
import Derived.WideKeyArgs
set_option linter.all false
namespace Go.Proofs.Ytleeccmcgophfaa.sweepFound
set_option linter.all false
open Go Go.Ab Go.Tx Go.ChangeShapes Go.WideShapes Go.ChangeAt Go.RowKit
abbrev Y0:Sh:=.row [.int .u64,.int .i64]
abbrev yX:Sh:=.sl true Y0
abbrev shU:Sh:=.sl false (.int .u64)
abbrev Ud:Sh:=.row [.int .u64,.int .u64]
abbrev ZQ:Sh:=.row [.int .i64,.int .i64,.int .u64,.int .u64,.int .i64,.bool]
abbrev Y1:Sh:=.row [Ud,.int .u64,.int .u64,.bool]
abbrev Ue:Sh:=.row [.row (List.replicate 16 (.int .u64)),.int .u64,yX,Ud,.int .u64,.int .u64,.int .i64,Y1,shU,Ud,.row (List.replicate 4 yX)]
abbrev Y2:Sh:=.row [yX,yX,Ud,.int .u64,.int .u64]
abbrev Uf:Sh:=.row [.int .u64,.int .i64,yX,.int .i64,.bool,shU,shU,.sl true ZQ,Ue,Y2,shU,shU]
abbrev QA:Sh:=.row [.int .i64,.int .u64,.int .u64,.sl true Uf]
theorem shape25:Sh.ofT Try.prog 12 25=some QA:=by kernel_rfl
theorem Y3:fits QA Fn.t7=true:=by kernel_rfl
theorem walk (a0:Fn.D7) (a1:Int) (a2:Int) (v0:Value) (w:World) (h0:fJ w (fun _ _=>False) (bD Fn.t7 a0) v0) (w1:(Lit.int .u64 a1).wf=true) (w2:(Lit.int .u64 a2).wf=true) :
  Calls Try.prog 4 #[v0,.int .u64 a1,.int .u64 a2] w fun e w'=>e = .returned (.bool true)∧Below w.heap.size w w' :=
 Dh (Fn.law4 (st:=(a0,a1,a2)) fun hw=>Fn.XC a0 a1 a2 (hw _ (List.mem_cons_self))) rfl (fun i hi=>by
  rcases i with _ | _ | _ | i
  ·exact h0
  ·exact JH w1
  ·exact JH w2
  ·simp [mG] at hi <;> omega)
set_option maxRecDepth 100000 in
theorem lifted (os:Os) (started:os.Started) (H:Type) (enc:TypeId×Value→H) :
  ReturnsInHanded {} Try.checked os 4 .any (Rows.sweepFoundSpec.pre6 enc Try.prog Try.f4 Rows.sweepFoundRow.domain false) (Rows.sweepFoundSpec.post enc Try.prog Try.f4 false true false false):=by
 refine returnsInHanded_of_change (C:=Try.checked) own started (by kernel_rfl) Try.func4
  (ChangeSpec.witness6 (enc:=enc) (C:=Try.checked) false ⟨#[],#[.agg #[.int .i64 0,.int .u64 0,.int .u64 0,.slice none 0 0],.int .u64 0,.int .u64 0],[]⟩ 8 (by kernel_rfl) (by kernel_rfl) (by kernel_rfl) (by kernel_rfl)) ?_
 intro W base args ds gs before hval0 hW hcnd _
 have hval:∀ (j:Nat) t v,Try.f4.params[j]? = some t→args[j]? = some v→Value.okWide Try.prog W .any base t v:=hval0
 have hW':=hW
 obtain ⟨p,q,hA0,hV,rfl,hfz,hnd⟩:=hW
 have hA:DataW.TrodAll enc Try.prog W 0 (fun _=>true) true Try.f4.params.toList args.toList ds p:=hA0
 rw [Try.params4] at hA hval
 obtain ⟨v0,vs0,d0,ds0,p0,q0,hargs,rfl,rfl,h0,r0⟩:=trodAll_cons hA
 obtain ⟨v1,vs1,d1,ds1,p1,q1,rfl,rfl,rfl,h1,r1⟩:=trodAll_cons r0
 obtain ⟨v2,vs2,d2,ds2,p2,q2,rfl,rfl,rfl,h2,r2⟩:=trodAll_cons r1
 obtain ⟨rfl,rfl,rfl⟩:=trodAll_nil r2
 obtain rfl:args = #[v0,v1,v2]:=by cases args;simp_all
 obtain ⟨rfl,rfl⟩:=trodVars_none hV
 obtain ⟨a0,e0⟩:=WU shape25 Y3 rfl Try.underlying25 (hval 0 25 v0 rfl rfl) h0
 obtain ⟨a1,rfl,rfl,rfl,w1⟩:=open_int Try.underlying22 (hval 1 22 v1 rfl rfl) h1
 obtain ⟨a2,rfl,rfl,rfl,w2⟩:=open_int Try.underlying22 (hval 2 22 v2 rfl rfl) h2
 clear hA0 hval0
 simp only [List.append_nil] at hW'
 have hlt:=hW'.lt
 refine (walk a0 a1 a2 v0 W e0 w1 w2).mono fun e W' ⟨he,hg⟩=>?_
 subst he
 have st:∀ {t:TypeId} {v:Value} {d:DataW H} {ps:List MemPlace} {sp:Nat→Bool},Try.prog.readableRec t=true→t<Try.prog.types.size→DataW.Trod enc Try.prog W 0 (fun _=>true) true t v d ps→(∀ p∈ps,p.block<W.heap.size)→(∀ p∈ps,sp p.block=true)→DataW.Trod enc Try.prog W' 0 sp true t v d ps :=
  fun hr ht h hl hs=>WideElems.Trod_stays laid hr ht h (fun x hx=>hg.same (hl x hx)) hs
 have l0:∀ p∈p0,p.block<W.heap.size:=fun p hp=>hlt p (by simp [hp])
 exact ⟨_,rfl,Df (pa:=p0) (pv:=[]) hW' (fun _ _ _=>(trodAll_cons_mk (shut_bool Try.underlying4 _) trodAll_mk0))
  (fun sp hsp=>by
   have:=trodAll_cons_mk (st (sp:=sp) YZ aap h0 l0 fun p hp=>hsp p (by simp [hp])) (trodAll_cons_mk (shut_int Try.underlying22 w1) (trodAll_cons_mk (shut_int Try.underlying22 w2) (trodAll_mk0)))
   simp only [List.append_nil,List.nil_append] at this
   exact this) (fun _ _=>rfl) (by simp)
  hg (ok_one (by kernel_rfl) rfl (okWide_bool_mk Try.underlying4 _))⟩
theorem over:Rows.sweepFoundRow.holds Try.pinned (OpenSpec.ofChange Rows.sweepFoundSpec) :=
 OpenClaim.holds_of_wide 4 Try.f4 rfl rfl rfl rfl rfl rfl rfl ⟨rfl,rfl,rfl,rfl,rfl⟩ rfl rfl rfl rfl rfl c1 Try.func4 c2 c4 c3 (fun os started H enc _=>lifted os started H enc)
theorem proved:Rows.SweepFoundSaid :=
 over
#print axioms proved
end Go.Proofs.Ytleeccmcgophfaa.sweepFound
