/-
  What is proved: 'SweepDoes' (curtilagelaw15): for any world and any two ids the law's function answers true, panics nowhere, and leaves its arguments as they were: a world without a link, and what is gone by that, are the document's, if the world is whole and has few objects. No condition. (The text round the walk follows the kit's proof-skeleton.)
-/
import Derived.Test.YtleeccmcgophfaaGreatPO
import Derived.Test.YtleeccmcgophfaaGreatPN
import Derived.Test.YtleeccmcgophfaaGreatPJ
import Derived.ProofKit
import Derived.OpenShut
import Derived.Carry
import Derived.WideKeyArgs
set_option linter.all false
namespace Go.Proofs.YtleeccmcgophfaaGreat.sweepDoes
open Go Go.Ab Go.Tx Go.ChangeShapes Go.WideShapes Go.ChangeAt Go.RowKit
abbrev ZH:Sh:=.row [.int .u64,.int .i64]
abbrev y5:Sh:=.sl true ZH
abbrev shU:Sh:=.sl false (.int .u64)
abbrev UK:Sh:=.row [.int .u64,.int .u64]
abbrev aaX:Sh:=.row [.int .i64,.int .i64,.int .u64,.int .u64,.int .i64,.bool]
abbrev ZI:Sh:=.row [UK,.int .u64,.int .u64,.bool]
abbrev UL:Sh:=.row [.row (List.replicate 16 (.int .u64)),.int .u64,y5,UK,.int .u64,.int .u64,.int .i64,ZI,shU,UK,.row (List.replicate 4 y5)]
abbrev ZJ:Sh:=.row [y5,y5,UK,.int .u64,.int .u64]
abbrev UM:Sh:=.row [.int .u64,.int .i64,y5,.int .i64,.bool,shU,shU,.sl true aaX,UL,ZJ,shU,shU]
abbrev QI:Sh:=.row [.int .i64,.int .u64,.int .u64,.sl true UM]
theorem shape25:Sh.ofT Tryz.prog 12 25=some QI:=by kernel_rfl
theorem ZK:fits QI Fn.t7=true:=by kernel_rfl
theorem walk (a0:Fn.D7) (a1:Int) (a2:Int) (v0:Value) (w:World) (h0:fH w (fun _ _=>False) (bC Fn.t7 a0) v0) (w1:(Lit.int .u64 a1).wf=true) (w2:(Lit.int .u64 a2).wf=true) :
  Calls Tryz.prog 4 #[v0,.int .u64 a1,.int .u64 a2] w fun e w'=>e = .returned (.bool true)∧Below w.heap.size w w' :=
 Dj (Fn.law4 (st:=(a0,a1,a2)) fun hw=>Fn.Ye a0 a1 a2 (hw _ (List.mem_cons_self))) rfl (fun i hi=>by
  rcases i with _ | _ | _ | i
  ·exact h0
  ·exact JM w1
  ·exact JM w2
  ·simp [mO] at hi <;> omega)
set_option maxRecDepth 100000 in
theorem lifted (os:Os) (started:os.Started) (H:Type) (enc:TypeId×Value→H) :
  ReturnsInHanded {} Tryz.checked os 4 .any (Rows.sweepDoesSpec.pre6 enc Tryz.prog Tryz.f4 Rows.sweepDoesRow.domain false) (Rows.sweepDoesSpec.post enc Tryz.prog Tryz.f4 false true false false):=by
 refine returnsInHanded_of_change (C:=Tryz.checked) own started (by kernel_rfl) Tryz.func4
  (ChangeSpec.witness6 (enc:=enc) (C:=Tryz.checked) false ⟨#[],#[.agg #[.int .i64 0,.int .u64 0,.int .u64 0,.slice none 0 0],.int .u64 0,.int .u64 0],[]⟩ 8 (by kernel_rfl) (by kernel_rfl) (by kernel_rfl) (by kernel_rfl)) ?_
 intro W base args ds gs before hval0 hW hcnd _
 have hval:∀ (j:Nat) t v,Tryz.f4.params[j]? = some t→args[j]? = some v→Value.okWide Tryz.prog W .any base t v:=hval0
 have hW':=hW
 obtain ⟨p,q,hA0,hV,rfl,hfz,hnd⟩:=hW
 have hA:DataW.TrodAll enc Tryz.prog W 0 (fun _=>true) true Tryz.f4.params.toList args.toList ds p:=hA0
 rw [Tryz.params4] at hA hval
 obtain ⟨v0,vs0,d0,ds0,p0,q0,hargs,rfl,rfl,h0,r0⟩:=trodAll_cons hA
 obtain ⟨v1,vs1,d1,ds1,p1,q1,rfl,rfl,rfl,h1,r1⟩:=trodAll_cons r0
 obtain ⟨v2,vs2,d2,ds2,p2,q2,rfl,rfl,rfl,h2,r2⟩:=trodAll_cons r1
 obtain ⟨rfl,rfl,rfl⟩:=trodAll_nil r2
 obtain rfl:args = #[v0,v1,v2]:=by cases args;simp_all
 obtain ⟨rfl,rfl⟩:=trodVars_none hV
 obtain ⟨a0,e0⟩:=Xw shape25 ZK rfl Tryz.underlying25 (hval 0 25 v0 rfl rfl) h0
 obtain ⟨a1,rfl,rfl,rfl,w1⟩:=open_int Tryz.underlying22 (hval 1 22 v1 rfl rfl) h1
 obtain ⟨a2,rfl,rfl,rfl,w2⟩:=open_int Tryz.underlying22 (hval 2 22 v2 rfl rfl) h2
 clear hA0 hval0
 simp only [List.append_nil] at hW'
 have hlt:=hW'.lt
 refine (walk a0 a1 a2 v0 W e0 w1 w2).mono fun e W' ⟨he,hg⟩=>?_
 subst he
 have st:∀ {t:TypeId} {v:Value} {d:DataW H} {ps:List MemPlace} {sp:Nat→Bool},Tryz.prog.readableRec t=true→t<Tryz.prog.types.size→DataW.Trod enc Tryz.prog W 0 (fun _=>true) true t v d ps→(∀ p∈ps,p.block<W.heap.size)→(∀ p∈ps,sp p.block=true)→DataW.Trod enc Tryz.prog W' 0 sp true t v d ps :=
  fun hr ht h hl hs=>WideElems.Trod_stays laid hr ht h (fun x hx=>hg.same (hl x hx)) hs
 have l0:∀ p∈p0,p.block<W.heap.size:=fun p hp=>hlt p (by simp [hp])
 exact ⟨_,rfl,Di (pa:=p0) (pv:=[]) hW' (fun _ _ _=>(trodAll_cons_mk (shut_bool Tryz.underlying4 _) trodAll_mk0))
  (fun sp hsp=>by
   have:=trodAll_cons_mk (st (sp:=sp) ZG acf h0 l0 fun p hp=>hsp p (by simp [hp])) (trodAll_cons_mk (shut_int Tryz.underlying22 w1) (trodAll_cons_mk (shut_int Tryz.underlying22 w2) (trodAll_mk0)))
   simp only [List.append_nil,List.nil_append] at this
   exact this) (fun _ _=>rfl) (by simp)
  hg (ok_one (by kernel_rfl) rfl (okWide_bool_mk Tryz.underlying4 _))⟩
theorem over:Rows.sweepDoesRow.holds Tryz.pinned (OpenSpec.ofChange Rows.sweepDoesSpec) :=
 OpenClaim.holds_of_wide 4 Tryz.f4 rfl rfl rfl rfl rfl rfl rfl ⟨rfl,rfl,rfl,rfl,rfl⟩ rfl rfl rfl rfl rfl c1 Tryz.func4 c2 c4 c3 (fun os started H enc _=>lifted os started H enc)
theorem proved:Rows.SweepDoesSaid :=
 over
#print axioms proved
end Go.Proofs.YtleeccmcgophfaaGreat.sweepDoes
