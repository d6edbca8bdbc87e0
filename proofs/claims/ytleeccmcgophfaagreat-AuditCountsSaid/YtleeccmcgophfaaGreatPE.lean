import Derived.Test.YtleeccmcgophfaaGreatPD
import Derived.Test.YtleeccmcgophfaaGreatPC
import Derived.Scope
import Derived.RecoverIn
set_option linter.all false
namespace Go.Ab
open Go Go.RowKit
variable {P:Program} {a:Act} {w:World} {n:Nat} {Mo:Cells} {m:Mp} {s:Sa} {p:Name} {k:Sa→Prop} {Q:Exit→Act→World→Prop} {sv:List Act} {ops:Array Oper} {kt:TypeId→V→Sa→Prop}
variable {m0:Mp} {s0:Sa} {w0:World} {dd:List Deferred} {fl0 js fl al:List Nat} {V0:List (Nat×V)} {hbs:List (Nat×Sa)} {tl ta:List Nat} {bs:Nat→Nat} {listed:Array Bool}
theorem adopt_fields {l:List Nat}:(adoptAll P ops p l s).rd=s.rd∧(adoptAll P ops p l s).n=s.n∧(adoptAll P ops p l s).sv=s.sv∧(adoptAll P ops p l s).bx=l.map (fun x=>(nmOf ops p x,zOf P ops x))++s.bx∧(adoptAll P ops p l s).lp=s.lp∧(adoptAll P ops p l s).ow=s.ow∧(adoptAll P ops p l s).vc=s.vc:=by
 obtain ⟨c1,c2,c3,c4,c5,c6⟩:=putAll_fields (ops:=ops) (s:=({ s with bx:=l.map (fun x=>(nmOf ops p x,zOf P ops x))++s.bx }:Sa)) (l.map fun x=>(x,V.ptr (nmOf ops p x) 0))
 exact ⟨c1,c2,c3,c4,c5,c6,putAll_vc _⟩
theorem CInv.adopt {l:List Nat} {V1:List (Nat×V)} (hI:CInv P p ops Mo sv m0 s0 w0 dd fl0 js fl al V0 s tl ta bs m a w listed) (hS:StC P p ops fl0 js fl al V0 s) (hL:StL ops p fl0 js fl al) (hlk:∀ q∈fl0,lookB ops fl0 q=true) (hF:Facts P p ops V0 hbs s)
  (hl:l.Sublist al) (hla:∀ x∈l,x ∉ ta) (hV1:∀ x∈V1,x∈V0∧x.1 ∉ tl) :
  ∃ m1,Rel (MoB Mo (((al.filter fun x=>!ta.contains x).filter fun x=>!l.contains x).map bs)) m1 (adoptAll P ops p l (putAll ops s V1)) (a::sv) w ∧
   (∀ x∈V0,x.1 ∉ tl→∀ d,dstOf ops x.1=some d→RepV w (Tot (MoB Mo (((al.filter fun x=>!ta.contains x).filter fun x=>!l.contains x).map bs)) (adoptAll P ops p l (putAll ops s V1)).bx (adoptAll P ops p l (putAll ops s V1)).ow m1) m1 x.2 (a.tmps.getD d undef)) ∧
   Step m0 s0 w0 m1 (adoptAll P ops p l (putAll ops s V1)) w∧rdOf m1 (adoptAll P ops p l (putAll ops s V1))=rdOf m0 s0 ∧
   ∀ x∈al,x ∉ ta→x ∉ l→AlOK P ops w (Tot (MoB Mo (((al.filter fun x=>!ta.contains x).filter fun x=>!l.contains x).map bs)) (adoptAll P ops p l (putAll ops s V1)).bx (adoptAll P ops p l (putAll ops s V1)).ow m1) m1 (adoptAll P ops p l (putAll ops s V1)) a w0.heap.size x (bs x):=by
 obtain ⟨ix1,ix2,ix3⟩:=idx_inv hS.ix
 obtain ⟨B,hB⟩:∃ B,B=((al.filter fun x=>!ta.contains x).filter fun x=>!l.contains x).map bs:=⟨_,rfl⟩
 rw [← hB]
 have hV:∀ x∈V0,lookB ops fl0 x.1=true:=fun x hx=>hlk _ (hL.flS.subset (ix2 x.1 (List.mem_map_of_mem hx)).1)
 have hVf:∀ x∈V0,x.1∈fl:=fun x hx=>(ix2 x.1 (List.mem_map_of_mem hx)).1
 have hsub:∀ x∈V0.filter (fun x=>!tl.contains x.1),x∈V0:=fun x hx=>(List.mem_filter.1 hx).1
 have hin:∀ x∈V0,x.1 ∉ tl→x∈V0.filter (fun x=>!tl.contains x.1):=fun x hx h=>List.mem_filter.2 ⟨hx,by simpa using h⟩
 obtain ⟨T,hT⟩:∃ T,T=putAll ops s (V0.filter fun x=>!tl.contains x.1):=⟨_,rfl⟩
 obtain ⟨c1,c2,c3,c4,c5,c6⟩:=putAll_fields (ops:=ops) (s:=s) (V0.filter fun x=>!tl.contains x.1)
 have c7:=putAll_vc (ops:=ops) (s:=s) (V0.filter fun x=>!tl.contains x.1)
 have hrel:=hI.rel
 rw [← hT] at hrel c1 c2 c3 c4 c5 c6 c7
 have hala:∀ x∈l,x∈al:=fun x hx=>hl.subset hx
 have hmo:∀ b o,MoB Mo (l.map bs++B) b o↔MoB Mo ((al.filter fun x=>!ta.contains x).map bs) b o:=by
  intro b o
  rw [hB]
  simp only [MoB,List.mem_append,List.mem_map,List.mem_filter,Bool.not_eq_true',List.contains_eq_mem,decide_eq_false_iff_not]
  constructor
  ·rintro (h | ⟨x,hx,rfl⟩ | ⟨x,⟨⟨h1,h2⟩,h3⟩,rfl⟩)
   ·exact .inl h
   ·exact .inr ⟨x,⟨hala x hx,hla x hx⟩,rfl⟩
   ·exact .inr ⟨x,⟨h1,h2⟩,rfl⟩
  ·rintro (h | ⟨x,⟨h1,h2⟩,rfl⟩)
   ·exact .inl h
   ·by_cases hx:x∈l
    ·exact .inr (.inl ⟨x,hx,rfl⟩)
    ·exact .inr (.inr ⟨x,⟨⟨h1,h2⟩,hx⟩,rfl⟩)
 have hmoe:MoB Mo (l.map bs++B)=MoB Mo ((al.filter fun x=>!ta.contains x).map bs):=funext fun b=>funext fun o=>propext (hmo b o)
 have hnames:(l.map (nmOf ops p)).Nodup:=by
  rw [List.Nodup,List.pairwise_map]
  refine (hl.nodup hL.aln).imp_of_mem fun hx hy hne=>?_
  exact nmOf_ne (hL.alB _ (hala _ hx)) (hL.alB _ (hala _ hy)) hne
 have hfr:∀ x∈al,T.refs (nmOf ops p x)=false∧lookN (nmOf ops p x) T.bx=none:=fun x hx=>by
  obtain ⟨f1,f2,f3⟩:=hS.fr x hx
  exact ⟨by rw [hT];exact refs_putAll _ f1 fun y hy=>f3 y (hsub y hy),by rw [c4];exact f2⟩
 have halT:∀ x∈al,x ∉ ta→AlOK P ops w (Tot (MoB Mo (l.map bs++B)) T.bx T.ow m) m T a w0.heap.size x (bs x):=fun x hx hxt=>by
  rw [hmoe];exact (hI.alo x hx hxt).congr c4 c6 c5
 obtain ⟨m1,g1,g2,g3,g4,g5,g6⟩:=adopt_ok (P:=P) (ops:=ops) (p:=p) (a:=a) (Mo:=Mo) (m:=m) (s:=T) (w:=w) (as:=a::sv) (b0:=w0.heap.size) (bs:=bs) (B:=B) l hnames
  (fun x hx y hy e=>hI.inj x (hala x hx) (hla x hx) y (hala y hy) (hla y hy) e) (by rw [hmoe];exact hrel) (fun x hx=>halT x (hala x hx) (hla x hx)) (fun x hx=>hfr x (hala x hx)) (fun x hx=>(hS.zr x (hala x hx)).1)
 obtain ⟨d1,d2,d3,d4,d5,d6⟩:=putAll_fields (ops:=ops) (s:=s) V1
 have d7:=putAll_vc (ops:=ops) (s:=s) V1
 obtain ⟨T1,hT1⟩:∃ T1,T1=putAll ops s V1:=⟨_,rfl⟩
 rw [← hT1] at d1 d2 d3 d4 d5 d6 d7 ⊢
 obtain ⟨a1,a2,a3,a4,a5,a6,a7⟩:=adopt_fields (P:=P) (ops:=ops) (p:=p) (s:=T1) (l:=l)
 have hlook:∀ n' c',lookN n' (l.map (fun y=>(nmOf ops p y,zOf P ops y))++s.bx)=some c' → (∃ y∈l,n' = nmOf ops p y)∨(n' ∉ l.map (nmOf ops p)∧lookN n' s.bx=some c'):=fun n' c' h=>by
  by_cases hx:n' ∈ l.map (nmOf ops p)
  ·obtain ⟨y,hy,e⟩:=List.mem_map.1 hx
   exact .inl ⟨y,hy,e.symm⟩
  ·refine .inr ⟨hx,?_⟩
   rw [look_none (fun y hy e=>hx (by obtain ⟨z,hz',rfl⟩:=List.mem_map.1 hy;rw [← e];exact List.mem_map_of_mem hz'))] at h
   exact h
 have hmut:∀ b o,Mut (adoptAll P ops p l T1).bx (adoptAll P ops p l T1).ow m1 b o→(∃ y∈l,b=bs y)∨Mut s.bx s.ow m b o:=fun b o h=>by
  rw [a4,a6,d4,d6] at h
  rcases h with ⟨n',c',hl',e⟩ | h
  ·rcases hlook n' c' hl' with ⟨y,hy,rfl⟩ | ⟨h1,h2⟩
   ·exact .inl ⟨y,hy,by rw [e,g2 y hy]⟩
   ·exact .inr (.inl ⟨n',c',h2,by rw [e,g3 n' h1]⟩)
  ·rw [g4] at h;exact .inr (.inr h)
 have hsubT:∀ b o,Tot (MoB Mo B) (adoptAll P ops p l T1).bx (adoptAll P ops p l T1).ow m1 b o→Tot (MoB Mo (l.map bs++B)) T.bx T.ow m b o:=fun b o h=>by
  rcases h with h | h
  ·exact .inl (h.imp id fun h=>List.mem_append_right _ h)
  ·rcases hmut b o h with ⟨y,hy,rfl⟩ | h
   ·exact .inl (.inr (List.mem_append_left _ (List.mem_map_of_mem hy)))
   ·rw [← c4,← c6] at h;exact .inr h
 have hT2:Rel (MoB Mo B) m1 { T1 with bx:=l.map (fun x=>(nmOf ops p x,zOf P ops x))++T1.bx } (a::sv) w:=by
  refine g1.ts' (d1.trans c1.symm) (d2.trans c2.symm) (d3.trans c3.symm) (by show _++T1.bx=_++T.bx;rw [d4,c4]) (d5.trans c5.symm) (d6.trans c6.symm) (d7.trans c7.symm) fun t=>?_
  have:lkT t T1.ts=lkT t T.ts∨lkT t T1.ts = .dead:=by
   rw [hT1,hT]
   exact told_less (l:=V0.filter fun x=>!tl.contains x.1) (hF.nd.sublist (List.filter_sublist.map _)) (fun x hx=>hV x (hsub x hx)) (fun x hx=>hin x (hV1 x hx).1 (hV1 x hx).2) (fun x hx d hd=>hS.dead x.1 (.inl (hVf x (hsub x hx))) d hd) t
  show RepV _ _ _ (lkT t T1.ts) _
  rcases this with h | h
  ·rw [h];exact g1.get t
  ·rw [h];exact .dead
 have hrdS:rds T=rds s:=by simp only [rds,c1,c3]
 refine ⟨m1,?_,fun x hx hxt d hd=>?_,?_,?_,fun x hx hxt hxl=>?_⟩
 ·show Rel _ m1 (putAll ops _ _) _ _
  refine hT2.tellAll _ fun y hy d hd=>?_
  obtain ⟨x,hx,rfl⟩:=List.mem_map.1 hy
  rw [(halT x (hala x hx) (hla x hx)).ptr d hd,← g2 x hx]
  exact .ptr
 ·have h1:=g1.get d
  have e1:lkT d T.ts=x.2:=by
   rw [hT]
   exact lk_mem (fun y hy z hz=>(apart_of hF.nd hV) y (hsub y hy) z (hsub z hz)) (hin x hx hxt) hd
  simp only [e1] at h1
  rw [a4,a6,d4,d6]
  rw [c4,c6] at h1
  exact h1
 ·refine ⟨hI.st.keeps,fun b o hb h=>?_,fun b hb h=>hI.st.lp b hb ?_,by rw [a1,d1];exact hI.st.rd,by rw [a3,d3];exact hI.st.svrd,fun r hr=>?_⟩
  ·rcases hmut b o h with ⟨y,hy,rfl⟩ | h
   ·have:=(hI.alo y (hala y hy) (hla y hy)).nnew
    omega
   ·exact hI.st.mt b o hb h
  ·rw [a5,d5] at h
   obtain ⟨r,q,h1,h2⟩:=h
   exact ⟨r,q,h1,by rw [h2,g5]⟩
  ·have h0:=hI.st.lpm r hr
   refine ⟨by rw [g5];exact h0.lp,fun nm hn=>?_⟩
   rw [g3 nm fun hc=>?_]
   ·exact h0.bx nm hn
   ·obtain ⟨x,hx,rfl⟩:=List.mem_map.1 hc
    have hp:=Sa.refs_protd (hS.fr x (hala x hx)).1
    have e0:rds s=rds s0:=by unfold rds;rw [hI.st.rd,hI.st.svrd]
    rw [e0] at hp
    exact protd_ne hp hr _ hn rfl
 ·rw [← hI.rd];simp only [rdOf,a1,d1]
  exact congrArg (fun f=>Option.map f (rdN s.rd)) g5
 ·have h0:=halT x hx hxt
  refine ⟨h0.ptr,?_,fun o ho=>?_,?_,h0.nnew⟩
  ·obtain ⟨cs,U,h1,h2,h3,h4⟩:=h0.blk
   exact ⟨cs,U,h1,h2,h3,fun i hi=>zcell (fun b o c hc hm=>⟨hc,fun ht=>hm (hsubT b o ht)⟩) hi (h4 i hi)⟩
  ·rcases hmut _ o ho with ⟨y,hy,e⟩ | h
   ·exact hxl (by rw [hI.inj x hx hxt y (hala y hy) (hla y hy) e];exact hy)
   ·exact (hI.alo x hx hxt).nmut o h
  ·rintro ⟨r,q,h1,h2⟩
   rw [a5,d5] at h1
   exact (hI.alo x hx hxt).lpb ⟨r,q,h1,by rw [h2,g5]⟩
theorem filter_not {al ta N:List Nat} {f:Nat→Bool} (h:∀ x,f x=N.contains x):((al.filter fun x=>!ta.contains x).filter fun x=>!(al.filter f).contains x)=((al.filter fun x=>!N.contains x).filter fun x=>!ta.contains x):=by
 rw [List.filter_filter,List.filter_filter]
 refine List.filter_congr fun x hx=>?_
 have:(al.filter f).contains x=N.contains x:=by
  rw [← h x]
  cases hf:f x
  ·simp [hf]
  ·simp [hx,hf]
 rw [this,Bool.and_comm]
theorem core_sound {Q:Exit→Act→World→Prop} (hN:RegNext Mo m0 s0 dd sv w0 k Q) (hT:RegThr Mo m0 s0 dd sv w0 kt Q) (hlk:∀ q∈fl0,lookB ops fl0 q=true) (hord:ordL ops fl0 [] fl0=true) (hnd0:fl0.Nodup) :
  ∀ (N:Nat) (js fl al:List Nat) (V0:List (Nat×V)) (hbs:List (Nat×Sa)) (s:Sa) (tl ta:List Nat) (bs:Nat→Nat) (m:Mp) (a:Act) (w:World) (listed:Array Bool),js.length+(tl.length+ta.length)=N→StL ops p fl0 js fl al →
   evAt P kt p ops fl0 js fl al V0 hbs s k→Facts P p ops V0 hbs s→CInv P p ops Mo sv m0 s0 w0 dd fl0 js fl al V0 s tl ta bs m a w listed→wpAnyIn (Wd (rdOf m0 s0)) n P .any ops Q N listed a w:=by
 intro N
 induction N with
 | zero =>
  intro js fl al V0 hbs s tl ta bs m a w listed hN0 hL hE hF hI
  have hS:=evAt_st hE
  obtain rfl:js=[]:=List.eq_nil_of_length_eq_zero (by omega)
  obtain rfl:tl=[]:=List.eq_nil_of_length_eq_zero (by omega)
  obtain rfl:ta=[]:=List.eq_nil_of_length_eq_zero (by omega)
  refine ⟨List.eq_nil_iff_forall_not_mem.2 fun i hi=>?_,?_⟩
  ·exact (ready_inv hI.ls hi).2.1 (by simp)
  ·obtain ⟨m1,h1,h2,h3,h4,h5⟩:=hI.adopt hS hL hlk hF (l:=al) (V1:=V0) (List.Sublist.refl al) (fun x _=>by simp) (fun x hx=>⟨hx,by simp⟩)
   exact hN m1 _ a w hE.2 (h1.lessMo fun b o h=>.inl h) h3 h4 hI.df
 | succ N ih =>
  intro js fl al V0 hbs s tl ta bs m a w listed hN0 hL hE hF hI
  have hS:=evAt_st hE
  obtain ⟨ix1,ix2,ix3⟩:=idx_inv hS.ix
  refine ⟨fun hr=>?_,fun r hr=>?_⟩
  ·obtain ⟨rfl,rfl,rfl⟩:=hI.ready hS hL hord hlk hr
   simp at hN0
  ·obtain ⟨hrs,hnX,o,ho,haft⟩:=ready_inv hI.ls hr
   have haft' : ∀ x∈aft o,x ∉ js∧x ∉ tl∧x ∉ ta:=fun x hx=>hI.done (haft x hx)
   have hclo:∀ x∈need ops fl0.reverse (aftOf ops r),x ∉ js∧x ∉ tl∧x ∉ ta:=hI.closed (S:=aftOf ops r) fun x hx=>haft' x (by simpa only [aftOf,ho] using hx)
   by_cases htl:r∈tl
   ·have hv:r∈V0.map (·.1):=(ix1 r (hI.tlF r htl)).resolve_right fun ⟨x,h1,h2⟩=>(hclo x h1).1 h2
    exact look_fire hI hS hL hlk hF ho htl haft' hv fun m' a' w' hI'=>ih js fl al V0 hbs s (tl.erase r) ta bs m' a' w' _ (by have h1:=List.length_erase_of_mem htl;have h2:=List.length_pos_of_mem htl;omega) hL hE hF hI'
   by_cases hta:r∈ta
   ·exact alloc_fire hI hS hL hlk hF hta fun bs' m' a' w' hI'=>ih js fl al V0 hbs s tl (ta.erase r) bs' m' a' w' _ (by have h1:=List.length_erase_of_mem hta;have h2:=List.length_pos_of_mem hta;omega) hL hE hF hI'
   have hjs:r∈js:=Classical.byContradiction fun h=>hnX ⟨h,htl,hta⟩
   cases hjse:js with
   | nil=>rw [hjse] at hjs;cases hjs
   | cons j js' =>
   subst hjse
   have hrj:r=j:=by
    rcases List.mem_cons.1 hjs with h | h
    ·exact h
    ·obtain ⟨q,hq,h2⟩:=chB_pred hL.ch r h
     exact absurd hq (hclo q h2).1
   subst hrj
   obtain ⟨N0,hN0e⟩:∃ N0,N0=need ops fl0.reverse (aftOf ops r):=⟨_,rfl⟩
   have ea:aft o=aftOf ops r:=by simp only [aftOf,ho]
   have hE2:=hE.2
   simp only [ho,ea,← hN0e] at hE2
   rw [← hN0e] at hclo
   obtain ⟨j1,j2,j3⟩:=hL.jf r List.mem_cons_self
   obtain ⟨m1,h1,h2,h3,h4,h5⟩:=hI.adopt hS hL hlk hF (l:=al.filter N0.contains) (V1:=V0.filter fun q=>N0.contains q.1) List.filter_sublist
    (fun x hx=>(hclo x (by simpa using (List.mem_filter.1 hx).2)).2.2) (fun x hx=>⟨(List.mem_filter.1 hx).1,(hclo x.1 (by simpa using (List.mem_filter.1 hx).2)).2.1⟩)
   obtain ⟨S1,hS1⟩:∃ S1,S1=adoptAll P ops p (al.filter N0.contains) (putAll ops s (V0.filter fun q=>N0.contains q.1)):=⟨_,rfl⟩
   have hfn:=filter_not (al:=al) (ta:=ta) (N:=N0) (f:=N0.contains) (fun _=>rfl)
   rw [← hS1] at h1 h2 h3 h4 h5 hE2
   rw [hfn] at h1 h2 h5
   obtain ⟨B,hB⟩:∃ B,B=(((al.filter fun x=>!N0.contains x).filter fun x=>!ta.contains x).map bs):=⟨_,rfl⟩
   rw [← hB] at h1 h2 h5
   have hT1:RegThr (MoB Mo B) m1 S1 a.defers sv w kt Q:=fun t v c m' s' a' w' hk hR hv hs hrd hd =>
    hT t v c m' s' a' w' hk (hR.lessMo fun b o h=>.inl h) ((show Stab w' (Tot (MoB Mo B) s'.bx s'.ow m') w' (Tot Mo s'.bx s'.ow m') from fun b o c hc hm=>⟨hc,fun ht=>hm (ht.imp .inl id)⟩).mono_rep hv) (h3.trans hs) (hrd.trans h4) (hd.trans hI.df)
   rw [← h4]
   refine op1_soundP hT1 ho h1 ?_ hE2
   rintro m4 sj u w4 ⟨hk,hev⟩ hR4 hst4 hrd4
   rw [h4]
   have hV:∀ x∈V0,lookB ops fl0 x.1=true:=fun x hx=>hlk _ (hL.flS.subset (ix2 x.1 (List.mem_map_of_mem hx)).1)
   obtain ⟨V1,hV1⟩:∃ V1,V1=V0.filter fun q=>!N0.contains q.1:=⟨_,rfl⟩
   rw [← hV1] at hk hev
   have hV1s:∀ x∈V1,x∈V0∧x.1 ∉ N0:=fun x hx=>by
    rw [hV1] at hx
    exact ⟨(List.mem_filter.1 hx).1,by simpa using (List.mem_filter.1 hx).2⟩
   have hV1i:∀ x∈V0,x.1 ∉ N0→x∈V1:=fun x hx h=>by rw [hV1];exact List.mem_filter.2 ⟨hx,by simpa using h⟩
   have hndV1:(V1.map (·.1)).Nodup:=by rw [hV1];exact hF.nd.sublist (List.filter_sublist.map _)
   obtain ⟨k1,k2,k3,k4⟩:=hk
   have hF1:Facts P p ops V1 (hbs.filter fun x=>!N0.contains x.1) sj:=⟨k1,fun q hq=>by
    obtain ⟨st,h,g1,g2,g3,g4,g5⟩:=hF.f q (hV1s q hq).1
    refine ⟨st,h,g1,List.mem_filter.2 ⟨g2,by simpa using (hV1s q hq).2⟩,g3,g4.trans k2.symm,fun u hu=>(g5 u hu).trans ?_⟩
    rcases k3 q hq u hu with ⟨r,hr,hd⟩ | h
    ·rw [lk_mem (apart_of hF.nd hV) (hV1s r hr).1 hd,lk_mem (apart_of hndV1 fun x hx=>hV x (hV1s x hx).1) hr hd]
    ·exact h.symm,hndV1⟩
   have hL1:StL ops p fl0 js' (fl.filter fun q=>!N0.contains q) (al.filter fun x=>!N0.contains x):=⟨List.filter_sublist.trans hL.flS,fun x hx=>hL.alB x (List.mem_filter.1 hx).1,hL.lt,hL.aln.sublist List.filter_sublist,
    fun j hj=>by
     obtain ⟨g1,g2,g3⟩:=hL.jf j (List.mem_cons_of_mem _ hj)
     exact ⟨g1,fun h=>g2 (List.mem_filter.1 h).1,g3⟩,fun x hx=>hL.fa x (List.mem_filter.1 hx).1,(List.nodup_cons.1 hL.jn).2,(chB_tail hL.ch).1⟩
   have hmf:∀ {l:List Nat} {x:Nat},x∈l.filter (fun x=>!N0.contains x)↔x∈l∧x ∉ N0:=fun {l x}=>by
    rw [List.mem_filter];simp
   obtain ⟨iv,hn9,hE3,hF3,hiv⟩:=evCore_at hF1 hlk hord hL1 hnd0 (fun q hq=>hmf.2 ⟨(ix2 q.1 (List.mem_map_of_mem (hV1s q hq).1)).1,(hV1s q hq).2⟩) (fun q hq x hx hxf=>by
    obtain ⟨g1,g2⟩:=hmf.1 hxf
    obtain ⟨y,hy,rfl⟩:=List.mem_map.1 (((ix2 q.1 (List.mem_map_of_mem (hV1s q hq).1)).2 x hx).2.2 g1)
    exact List.mem_map_of_mem (hV1i y hy g2)) hev
   have hiv1:∀ x∈iv,x.1∈tl:=fun x hx=>by
    have hn:x.1∈newV ops fl0 js' (fl.filter fun q=>!N0.contains q) (al.filter fun x=>!N0.contains x) (V1.map (·.1)):=by rw [← hiv];exact List.mem_map_of_mem hx
    obtain ⟨hn1,hn2⟩:=List.mem_filter.1 hn
    obtain ⟨g1,g2⟩:=hmf.1 hn1
    simp only [Bool.and_eq_true,Bool.not_eq_true',List.contains_eq_mem,decide_eq_false_iff_not] at hn2
    have hnV:x.1 ∉ V0.map (·.1):=fun h=>by
     obtain ⟨y,hy,e⟩:=List.mem_map.1 h
     exact hn2.1 (by rw [← e];exact List.mem_map_of_mem (hV1i y hy (by rw [e];exact g2)))
    obtain ⟨y,hy1,hy2⟩:=(ix1 x.1 g1).resolve_left hnV
    refine Classical.byContradiction fun ht=>?_
    have hx0:=hL.flS.subset g1
    have hX:x.1 ∉ r::js' ∧ x.1 ∉ tl∧x.1 ∉ ta:=⟨fun h=>(hL.jf _ h).1 hx0,ht,fun h=>hL.fa _ (hI.taA _ h) hx0⟩
    exact (hI.closed (hI.clo x.1 hx0 hX) y hy1).1 hy2
   have hfil:((V1++iv).filter fun x=>!tl.contains x.1)=V1.filter fun x=>!tl.contains x.1:=by
    rw [List.filter_append,show (iv.filter fun x=>!tl.contains x.1)=[] from List.filter_eq_nil_iff.2 fun x hx=>by simp [hiv1 x hx],List.append_nil]
   have htm:∀ t,o.dst≠some t→(a.put o.dst u).tmps.getD t undef=a.tmps.getD t undef:=fun t ht=>by
    cases hd:o.dst with
    | none=>rfl
    | some d=>exact getD_put_ne fun e=>ht (by rw [hd,e])
   have hdo:∀ x∈V0,∀ d,dstOf ops x.1=some d→o.dst≠some d:=fun x hx d hd he=>by
    obtain ⟨o2,d2,ho2,_,hd2,_,g⟩:=lookB_inv (hV x hx)
    rw [dstOf_eq ho2,hd2] at hd;cases hd
    have hne:r≠x.1:=fun e=>j1 (by rw [e];exact hL.flS.subset (ix2 x.1 (List.mem_map_of_mem hx)).1)
    exact (g r hrs hne d (by rw [dstOf_eq ho];exact he)).1 rfl
   have hstab:=hst4.stab h1
   obtain ⟨e1,e2,e3,e4,e5,e6⟩:=putAll_fields (ops:=ops) (s:=sj) (V1.filter fun x=>!tl.contains x.1)
   refine ih js' _ _ (V1++iv) _ sj tl ta bs m4 (a.put o.dst u) w4 _ (by simp only [List.length_cons] at hN0;omega) hL1 hE3 hF3 ⟨?_,h3.trans hst4,hrd4.trans h4,put_defers.trans hI.df,?_,?_,fun q hq=>hmf.2 ⟨hI.tlF q hq,fun h=>(hclo q h).2.1 hq⟩,fun q hq=>hmf.2 ⟨hI.taA q hq,fun h=>(hclo q h).2.2 hq⟩,hI.tln,hI.tan,?_,?_⟩
   ·rw [hfil,← hB]
    refine hR4.tellAll _ fun x hx d hd=>?_
    obtain ⟨hx1,hx2⟩:=List.mem_filter.1 hx
    obtain ⟨hx3,hx4⟩:=hV1s x hx1
    rw [htm d (hdo x hx3 d hd)]
    refine (k4 x hx1).rep hstab (h2 x hx3 (by simpa using hx2) d hd) h1.get hR4.get fun t ht=>htm t fun e=>ht (List.mem_append_left _ (by rw [e];simp))
   ·refine (hI.ls.set r).congr fun q=>?_
    simp only [List.mem_cons,not_or]
    constructor
    ·rintro (⟨⟨g1,g2⟩,g3,g4⟩ | rfl)
     ·exact ⟨g2,g3,g4⟩
     ·exact ⟨(List.nodup_cons.1 hL.jn).1,htl,hta⟩
    ·rintro ⟨g1,g2,g3⟩
     by_cases e:q=r
     ·exact .inr e
     ·exact .inl ⟨⟨e,g1⟩,g2,g3⟩
   ·intro q hq hx x hxa
    have hqr:q≠r:=fun e=>j1 (e ▸ hq)
    have:=hI.clo q hq ⟨by simp only [List.mem_cons,not_or];exact ⟨hqr,hx.1⟩,hx.2⟩ x hxa
    exact ⟨fun h=>this.1 (List.mem_cons_of_mem _ h),this.2⟩
   ·exact fun x hx hxt y hy hyt e=>hI.inj x (hmf.1 hx).1 hxt y (hmf.1 hy).1 hyt e
   ·intro x hx hxt
    obtain ⟨g1,g2⟩:=hmf.1 hx
    rw [← hB]
    refine (h5 x g1 hxt fun h=>g2 (by simpa using (List.mem_filter.1 h).2)).step hst4 h1 (fun b o h=>h) fun e he=>htm e fun e2=>?_
    obtain ⟨o9,ty9,d9,ho9,_,hd9,_,_,h9⟩:=allocB_inv (hL.alB x g1)
    rw [dstOf_eq ho9,hd9] at he;cases he
    exact h9 r hrs (fun e=>j2 (e ▸ g1)) e (by rw [dstOf_eq ho];exact e2) rfl
theorem TC_core {id:Nat} {Q:Ex→Sa→Prop} {js0 al0:List Nat} (hm:P.follows .mixedOrders=true) (hp:coreB ops fl0 al0 js0=true) (h:evCore P (thrQ Q) p ops fl0 js0 fl0 al0 [] [] s (Q .norm)):TC P p (.region id ops true) s Q:=fun Mo m a sv w n hR=>by
 simp only [coreB,Bool.and_eq_true,List.all_eq_true,List.mem_range,List.contains_eq_mem,decide_eq_true_eq,Nat.blt_eq] at hp
 obtain ⟨p1,p2,p3,p4,p5,p6,p7,p8,p9⟩:=hp
 have hlen:=Nat.eq_of_beq_eq_true p2
 rw [List.nodup_append] at p3
 obtain ⟨n1,n2,n3⟩:=p3
 rw [List.nodup_append] at n2
 obtain ⟨n4,n5,n6⟩:=n2
 have hb:Below w.heap.size w { w with drawn:=w.drawn+1 }:=⟨rfl,rfl,rfl,Nat.le_refl _,fun _ _=>rfl⟩
 have hL:StL ops p fl0 js0 fl0 al0:=⟨List.Sublist.refl _,p5,p9,n4,fun j hj=>⟨fun h=>n3 j h j (List.mem_append_right _ hj) rfl,fun h=>n6 j h j hj rfl,p8 j hj⟩,fun x hx h=>n3 x h x (List.mem_append_left _ hx) rfl,n5,p7⟩
 have hF0:Facts P p ops [] [] s:=⟨fun h hh=>absurd hh List.not_mem_nil,fun q hq=>absurd hq List.not_mem_nil,List.nodup_nil⟩
 obtain ⟨iv,hn9,hE,hF,hiv⟩:=evCore_at hF0 p4 p6 hL n1 (fun q hq=>absurd hq List.not_mem_nil) (fun q hq=>absurd hq List.not_mem_nil) h
 have hivf:∀ x∈iv,x.1∈fl0:=fun x hx=>by
  have:x.1∈newV ops fl0 js0 fl0 al0 (([]:List (Nat×V)).map (·.1)):=by rw [← hiv];exact List.mem_map_of_mem hx
  exact (List.mem_filter.1 this).1
 have e1:((([]:List (Nat×V))++iv).filter fun x=>!fl0.contains x.1)=[]:=List.filter_eq_nil_iff.2 fun x hx=>by simp [hivf x hx]
 have e2:(al0.filter fun x=>!al0.contains x)=[]:=List.filter_eq_nil_iff.2 fun x hx=>by simp [hx]
 refine wpIn_region_any hm ?_
 refine core_sound (m0:=m) (s0:=s) (w0:={ w with drawn:=w.drawn+1 }) (dd:=a.defers) (k:=Q .norm) (Mo:=Mo) (kt:=thrQ Q) (p:=p) ?_ ((thr_code hR).step (Step.of_below hb) rfl) p4 p6 n1 ops.size js0 fl0 al0 _ _ s fl0 al0 (fun _=>0) m a _ _ ?_ hL hE hF
  ⟨?_,Step.refl _ _ _,rfl,rfl,⟨by simp,fun j hj=>?_⟩,fun q hq hx=>absurd hq hx.2.1,fun _ h=>h,fun _ h=>h,n1,n4,fun x hx hxt=>absurd hx hxt,fun x hx hxt=>absurd hx hxt⟩
 ·intro m' s' a' w' hk hR' hs hr hd
  exact ⟨.norm,m',s',rfl,hk,hR',(Step.of_below hb).trans hs,hr,by rw [hd];exact .refl⟩
 ·rw [← hlen];simp only [List.length_append];omega
 ·rw [e1,e2]
  exact (hR.below hb).lessMo fun b o h=>h.resolve_right (by simp)
 ·have:=p1 j hj
  simp only [List.mem_append] at this
  simp only [hj,Array.getD_eq_getD_getElem?,Array.getElem?_replicate,if_true,Option.getD_some,Bool.false_eq_true,false_iff]
  rintro ⟨h1,h2,h3⟩
  rcases this with h | h | h
  ·exact h2 h
  ·exact h3 h
  ·exact h1 h
end Go.Ab
namespace Go.Ab
open Go Go.RowKit
variable {P:Program} {w:World} {n:Nat} {Mo:Cells} {m:Mp} {s:Sa} {as:List Act} {p:Name}
def setLp (s:Sa) (l:Name) (q:Lp):Sa:={ s with lp:=setN l q s.lp }
theorem Rel.setLoop {l:Name} {q q' : Lp} {r r' : Loop} (h:Rel Mo m s as w) (hl:lookN l s.lp=some q) (hr:w.heap[m.lp l]? = some (.loop r))
  (hq:q'.depth=q.depth∧q'.ps=q.ps∧q'.assign=q.assign∧q'.body=q.body) (hr' : r'.params=r.params∧r'.assign=r.assign∧r'.body=r.body∧r'.tmps=r.tmps)
  (hst:match q'.pending with | none=>r'.state = .ready∧r'.pending=none | some (some j)=>r'.state = .done∧r'.pending=some j | some none=>r'.state = .busy) :
  Rel Mo m (setLp s l q') as (w.putObj (m.lp l) (.loop r')):=by
 have hne:∀ (b:Nat) (x:Obj),w.heap[b]? = some x→(∀ y,x ≠ .loop y)→(w.putObj (m.lp l) (.loop r')).heap[b]? = some x:=by
  grind [World.putObj_heap_other]
 have hstab:Stab w (Tot Mo s.bx s.ow m) (w.putObj (m.lp l) (.loop r')) (Tot Mo s.bx s.ow m):=by
  intro b j c hc hm
  grind [World.cell?]
 have hsp:∀ i sz v,Spare w m i sz v→Spare (w.putObj (m.lp l) (.loop r')) m i sz v:=by
  intro i sz v hs
  unfold Spare at hs ⊢
  split at hs
  ·grind
  ·grind
  grind
 have hrep:∀ v c,RepV w (Tot Mo s.bx s.ow m) m v c→RepV (w.putObj (m.lp l) (.loop r')) (Tot Mo s.bx s.ow m) m v c:=fun v c hv=>hv.mono hstab (fun _ _=>rfl) (fun i _ sz v hs=>hsp i sz v hs) (fun _ _=>rfl)
 have hlook:∀ nm x,lookN nm (setLp s l q').lp=some x→(nm=l∧x=q')∨(nm≠l∧lookN nm s.lp=some x):=by
  grind [setLp,lookN_setN]
 refine ⟨h.len,?_,?_,h.inj,?_,h.owx,h.owb,?_,?_,?_,fun b j hm=>by rw [World.putObj_size];exact h.mo b j hm,h.mks,h.owm,fun k d hk=>⟨(h.vec k d hk).1,(h.vec k d hk).2.putObj hr (by simp) hstab⟩⟩
 ·intro i hi hi'
  have h0:=h.fr i hi hi'
  refine ⟨h0.size,fun t=>hrep _ _ (h0.ts t),fun d hd=>?_⟩
  obtain ⟨x,e,hx⟩:=h0.def_ d hd
  exact ⟨x,e,hne _ _ hx (by simp)⟩
 ·intro nm c hn
  obtain ⟨cs,T,hb⟩:=h.box nm c hn
  exact ⟨cs,T,hb.heap.mono (fun o ho _ h2=>hne _ _ ho h2),hb.size,hb.leafs,fun i hi=>hrep _ _ (hb.rep i hi)⟩
 ·intro i hi hn
  obtain ⟨c,T,h1,h2⟩:=h.oww i hi hn
  exact ⟨c,T,hne _ _ h1 (by simp),h2⟩
 ·intro nm x hx
  rcases hlook nm x hx with ⟨rfl,rfl⟩ | ⟨hnm,hx⟩
  ·obtain ⟨rc,b,hy⟩:=h.lps nm q hl
   have e:=hy.heap
   rw [hr] at e
   cases e
   refine ⟨r',b,⟨?_,hr'.1.trans (hy.ps.trans hq.2.1.symm),hr'.2.1.trans (hy.assign.trans hq.2.2.1.symm),hr'.2.2.1.trans (hy.body.trans hq.2.2.2.symm),by rw [hq.1];exact hy.own,hr'.2.2.2.trans hy.tmps,hst⟩⟩
   exact World.putObj_heap_same (Array.getElem?_eq_some_iff.1 hr).1
  ·obtain ⟨rc,b,hy⟩:=h.lps nm x hx
   refine ⟨rc,b,⟨?_,hy.ps,hy.assign,hy.body,hy.own,hy.tmps,hy.stat⟩⟩
   have:m.lp nm≠m.lp l:=fun e=>hnm (h.lpi nm x l q hx hl e)
   rw [World.putObj_heap_other this];exact hy.heap
 ·intro nm x hx
  rcases hlook nm x hx with ⟨rfl,rfl⟩ | ⟨_,hx⟩
  ·rw [hq.1];exact h.dep nm q hl
  ·exact h.dep nm x hx
 ·intro n1 x1 n2 x2 h1 h2 e
  have:∀ nm x,lookN nm (setLp s l q').lp=some x→∃ y,lookN nm s.lp=some y:=fun nm x hx=>by
   rcases hlook nm x hx with ⟨rfl,rfl⟩ | ⟨_,hx⟩
   ·exact ⟨q,hl⟩
   ·exact ⟨x,hx⟩
  obtain ⟨y1,e1⟩:=this n1 x1 h1
  obtain ⟨y2,e2⟩:=this n2 x2 h2
  exact h.lpi n1 y1 n2 y2 e1 e2 e
theorem Step.setLoop {l:Name} {q q' : Lp} {r' : Loop} (hl:lookN l s.lp=some q) (hlt:m.lp l<w.heap.size):Step m s w m (setLp s l q') (w.putObj (m.lp l) (.loop r')):=by
 have hL:LpB s.lp m (m.lp l):=⟨l,q,hl,rfl⟩
 refine ⟨⟨rfl,rfl,rfl,by simp,fun b hb _ hn=>?_,fun b c T f hc hn=>?_⟩,fun b o _ h=>h,?_,rfl,rfl,fun _ _=>⟨rfl,fun _ _=>rfl⟩⟩
 ·grind [World.putObj_heap_other]
 ·grind [World.putObj_heap_other]
 ·rintro b _ ⟨nm,x,hx,rfl⟩
  simp only [setLp,lookN_setN,hl,Option.map_some] at hx
  split at hx
  ·grind
  ·exact ⟨nm,x,hx,rfl⟩
theorem lpD_setN (l:Name) (q q' : Lp) (h:q'.depth=q.depth):∀ lp:List (Name×Lp),lookN l lp=some q→lpD (setN l q' lp)=lpD lp:=by
 intro lp
 induction lp with
 | nil=>intro hl;rfl
 | cons x lp ih =>
  grind [lookN,setN,lpD]
def setAll:List Nat→List V→List (Nat×V)→List (Nat×V)
 | t::ts,v::vs,l=>setAll ts vs (setT t v l)
 | _,_,l=>l
def frames (s:Sa):List Fr:={ rd:=s.rd,n:=s.n,ts:=s.ts }::s.sv
def Sa.round (s:Sa) (l:Name) (f:Fr) (ps:List Nat) (args:List V):Sa:={ rd:=some l,n:=f.n,ts:=setAll ps args f.ts,sv:={ rd:=s.rd,n:=s.n,ts:=s.ts }::s.sv,bx:=s.bx,lp:=s.lp,ow:=s.ow,vc:=s.vc }
theorem tsOK_setAll {M:Cells}:∀ (ps:List Nat) (args:List V) (vs:List Value) (ts:List (Nat×V)) (tmps:Array Value) (nn:Nat),tmps.size=nn→(∀ t∈ps,t<nn)→args.length=vs.length→TsOK w M m ts tmps →
  (∀ i (h1:i<args.length) (h2:i<vs.length),RepV w M m args[i] vs[i]) →
  TsOK w M m (setAll ps args ts) ((ps.zip vs).foldl (fun tmps x=>tmps.setIfInBounds x.1 x.2) tmps)∧((ps.zip vs).foldl (fun tmps x=>tmps.setIfInBounds x.1 x.2) tmps).size=nn:=by
 intro ps
 induction ps with
 | nil=>intro args vs ts tmps nn hn _ _ h _;exact ⟨by cases args <;> simpa [setAll] using h,by simp_all⟩
 | cons t ps ih =>
  intro args vs ts tmps nn hn hps hlen h hr
  cases args with
  | nil=>cases vs with
   | nil=>exact ⟨by simpa [setAll] using h,by simp_all⟩
   | cons v vs=>grind
  | cons x args=>cases vs with
   | nil=>grind
   | cons v vs =>
    simp only [setAll,List.zip_cons_cons,List.foldl_cons]
    refine ih args vs _ _ nn (by grind) (fun u hu=>hps u (List.mem_cons_of_mem _ hu)) (by grind) ?_ (fun i h1 h2=>hr (i+1) (by grind) (by grind))
    intro u
    have ht:t<tmps.size:=by simp_all
    rw [lkT_setT]
    split
    ·rename_i e;subst e
     rw [Array.getD_eq_getD_getElem?,Array.getElem?_setIfInBounds_self_of_lt ht]
     exact hr 0 (by simp) (by simp)
    ·rename_i e
     have:=h u
     rw [Array.getD_eq_getD_getElem?] at this ⊢
     rw [Array.getElem?_setIfInBounds_ne (fun e'=>e e'.symm)];exact this
theorem Rel.round {l:Name} {q:Lp} {f:Fr} {args:List V} {vs:Array Value} {r:Loop} {a:Act} (h:Rel Mo m s as w) (hl:lookN l s.lp=some q) (hx:LpOK w m l q as r a) (hf:(frames s).reverse[q.depth]? = some f)
  (hps:∀ t∈q.ps.toList,t<f.n) (hlen:args.length=q.ps.size) (ha:ArgsOK w (Tot Mo s.bx s.ow m) m args vs) :
  Rel Mo m (s.round l f q.ps.toList args) ({ tmps:=(q.ps.toList.zip vs.toList).foldl (fun tmps x=>tmps.setIfInBounds x.1 x.2) r.tmps,defers:=[] }::as) w:=by
 have hfr:FrOK w (Tot Mo s.bx s.ow m) m f a:=by
  have h1:=hx.own
  have hlenf:(frames s).length=as.length:=by simp [frames,h.len]
  obtain ⟨i1,e1⟩:=List.getElem?_eq_some_iff.1 h1
  obtain ⟨i2,e2⟩:=List.getElem?_eq_some_iff.1 hf
  rw [List.getElem_reverse] at e1 e2
  have hi:(frames s).length - 1 - q.depth<(frames s).length:=by simp at i2;omega
  have h0:=h.fr ((frames s).length - 1 - q.depth) hi (by omega)
  have e3:as[(frames s).length - 1 - q.depth]'(by omega)=a:=by rw [← e1];congr 1;omega
  have e4:(frames s)[(frames s).length - 1 - q.depth]'hi=f:=e2
  rw [e3] at h0
  have:(({ rd:=s.rd,n:=s.n,ts:=s.ts }:Fr)::s.sv)[(frames s).length - 1 - q.depth]'hi=f:=e4
  rw [this] at h0
  exact h0
 have hts:=tsOK_setAll (w:=w) (m:=m) (M:=Tot Mo s.bx s.ow m) q.ps.toList args vs.toList f.ts r.tmps f.n (by rw [hx.tmps];exact hfr.size) hps (by simp [ha.1]) (by rw [hx.tmps];exact hfr.ts) (fun i h1 h2=>by
  have:=ha.2 i h1
  rw [Array.getD_eq_getD_getElem?,Array.getElem?_eq_getElem (by simpa using h2)] at this
  simpa using this)
 refine ⟨by simp [Sa.round,h.len],?_,h.box,h.inj,h.oww,h.owx,h.owb,?_,?_,h.lpi,h.mo,?_,h.owm,h.vec⟩
 ·intro i hi hi'
  cases i with
  | zero=>exact ⟨hts.2,fun t=>hts.1 t,fun d hd=>by simp at hd⟩
  | succ i=>exact h.fr i (by simpa [Sa.round] using hi) (by simpa using hi')
 ·intro nm x hl
  obtain ⟨r,a,hr⟩:=h.lps nm x hl
  refine ⟨r,a,⟨hr.heap,hr.ps,hr.assign,hr.body,?_,hr.tmps,hr.stat⟩⟩
  have:=hr.own
  have hd:=h.dep nm x hl
  rw [List.reverse_cons,List.getElem?_append_left (by simp;omega)];exact this
 ·intro nm x hl
  have:=h.dep nm x hl
  simp;omega
 ·have:=h.mks
  simpa [marks] using this
end Go.Ab
namespace Go.Ab
open Go Go.RowKit
variable {P:Program} {w:World} {n:Nat} {Mo:Cells} {m:Mp} {s:Sa} {as:List Act} {p:Name}
def jmp:Ex→Option (Option Code)
 | .norm=>none
 | .exit i=>some (some (.exit i))
 | .ret=>some (some .ret)
 | .thr _=>none
def goesOn:Ex→Bool
 | .norm=>true
 | _=>false
def EndK (l:Name) (s:Sa) (k:V→Sa→Prop) (e:Ex) (s2:Sa):Prop :=
 (match e with | .thr _=>False | _=>True)∧s2.sv.length=s.sv.length+1∧lpD s2.lp=lpD s.lp∧match lookN l s2.lp with
  | some q2=>k (.d (.b (goesOn e))) (setLp s2 l { q2 with pending:=jmp e }).pop
  | none=>False
end Go.Ab
namespace Go.Ab
open Go Go.RowKit
variable {P:Program} {w:World} {n:Nat} {Mo:Cells} {m:Mp} {s:Sa} {as:List Act} {p:Name}
mutual
def V.ylds (n:Name):V→Bool
 | .yld m=>m==n
 | .fn _ c=>V.yldsL n c
 | .agg c=>V.yldsL n c
 | .tup c=>V.yldsL n c
 | _=>false
def V.yldsL (n:Name):List V→Bool
 | []=>false
 | v::vs=>v.ylds n || V.yldsL n vs
end
mutual
theorem V.ylds_lps (n:Name):∀ v:V,v.ylds n=false→n ∉ v.lps
 | .yld m=>by simp [V.ylds,V.lps];exact fun h e=>h e.symm
 | .fn f c=>by simp only [V.ylds,V.lps];exact V.yldsL_lps n c
 | .agg c=>by simp only [V.ylds,V.lps];exact V.yldsL_lps n c
 | .tup c=>by simp only [V.ylds,V.lps];exact V.yldsL_lps n c
 | .own .. | .d _ | .nil | .ref _ | .ptr .. | .mref _ | .mpc .. | .vsl .. | .vpt .. | .dead=>by simp [V.lps]
theorem V.yldsL_lps (n:Name):∀ vs:List V,V.yldsL n vs=false→n ∉ V.lpsL vs
 | []=>by simp [V.lpsL]
 | v::vs=>by
  simp only [V.yldsL,V.lpsL,Bool.or_eq_false_iff,List.mem_append,not_or]
  exact fun ⟨a,b⟩=>⟨V.ylds_lps n v a,V.yldsL_lps n vs b⟩
end
def Sa.ylds (s:Sa) (n:Name):Bool :=
 s.ts.any (fun x=>x.2.ylds n) || s.sv.any (fun f=>f.ts.any (fun x=>x.2.ylds n)) || s.bx.any (fun x=>x.2.ylds n)
theorem Sa.ylds_all {n:Name} (h:s.ylds n=false):AllV (fun v=>n ∉ v.lps) s:=by
 simp only [Sa.ylds,Bool.or_eq_false_iff,List.any_eq_false] at h
 obtain ⟨⟨h1,h2⟩,h3⟩:=h
 refine ⟨fun t=>look_mem (fun v=>n ∉ v.lps) (by simp [V.lps]) _ (fun x hx=>V.ylds_lps n _ (Bool.eq_false_iff.2 (h1 x hx))) t,fun f hf t=>look_mem (fun v=>n ∉ v.lps) (by simp [V.lps]) _ (fun x hx=>?_) t,
  fun k c hk=>V.ylds_lps n c (Bool.eq_false_iff.2 (h3 _ (lookN_mem hk)))⟩
 have h4:=h2 f hf
 rw [Bool.not_eq_true,List.any_eq_false] at h4
 exact V.ylds_lps n _ (Bool.eq_false_iff.2 (h4 x hx))
def Mp.setLp (m:Mp) (l:Name) (N:Nat):Mp:={ m with lp:=fun x=>if x=l then N else m.lp x }
theorem RepV.newLp {w' : World} {M:Cells} {v:V} {c:Value} {l:Name} {N:Nat} (h:RepV w M m v c) (hy:l ∉ v.lps) (hbl:Below w.heap.size w w'):RepV w' M (m.setLp l N) v c :=
 h.mono (stab_below M hbl) (fun _ _=>rfl) (fun _ _ _ _ hs=>spare_heap hs rfl (fun _ _=>heap_below hbl)) (fun k hk=>by
  have:k≠l:=fun e=>hy (e ▸ hk)
  simp [Mp.setLp,this])
theorem Rel.newLp {w' : World} {l:Name} {N:Nat} (h:Rel Mo m s as w) (hy:AllV (fun v=>l ∉ v.lps) s) (hn:lookN l s.lp=none) (hbl:Below w.heap.size w w'):Rel Mo (m.setLp l N) s as w':=by
 have hall:∀ x:V,l ∉ x.lps→(∀ n∈x.bxs,m.bx n=m.bx n)∧(∀ i∈x.ows,∀ sz y,Spare w m i sz y→Spare w' (m.setLp l N) i sz y)∧(∀ k∈x.lps,(m.setLp l N).lp k=m.lp k):=fun x hx =>
  ⟨fun _ _=>rfl,fun _ _ _ _ hs=>spare_heap hs rfl (fun _ _=>heap_below hbl),fun k hk=>by
   have:k≠l:=fun e=>hx (e ▸ hk)
   simp [Mp.setLp,this]⟩
 refine h.remap (s':=s) (m':=m.setLp l N) rfl rfl rfl rfl rfl (stab_below _ hbl) ⟨fun t=>hall _ (hy.ts t),fun g hg t=>hall _ (hy.sv g hg t),fun n d hd=>hall _ (hy.bx n d hd)⟩
  hbl.size (fun b o ho _=>heap_below hbl ho) (fun k q hk=>?_) ?_ h.inj ?_ h.owx h.owb h.owm (fun k d hk=>⟨(h.vec k d hk).1,(h.vec k d hk).2.mono (stab_below _ hbl) rfl rfl (fun _ o v _ _ hv=>by rw [hbl.cell (p:=⟨_,o,none⟩) (World.block_lt_of_cell? w _ hv)];exact hv) (fun b c T hc=>⟨c,heap_below hbl hc,rfl⟩)⟩)
 ·have:k≠l:=fun e=>by rw [e,hn] at hk;cases hk
  simp [Mp.setLp,this]
 ·intro nm d hd
  obtain ⟨cs,T,hb⟩:=h.box nm d hd
  exact ⟨cs,T,hb.heap.mono (fun _ ho _ _=>heap_below hbl ho),hb.size,hb.leafs,fun i hi=>(hb.rep i hi).newLp (fun hx=>hy.bx nm d hd (lps_cells d i hi l hx)) hbl⟩
 ·intro i hi hne
  obtain ⟨c,T,h1,h2⟩:=h.oww i hi hne
  exact ⟨c,T,heap_below hbl h1,h2⟩
theorem Rel.marks_lt (h:Rel Mo m s as w):∀ d∈marks as,∃ r,d={ target:=.collected r,args:=#[] }∧r<w.heap.size:=by
 intro d hd
 obtain ⟨a,ha,hd⟩:=List.mem_flatMap.1 hd
 obtain ⟨i,hi,rfl⟩:=List.getElem_of_mem ha
 obtain ⟨r,e,hr⟩:=(h.fr i (by rw [List.length_cons,← h.len];exact hi) hi).def_ d hd
 exact ⟨r,e,(Array.getElem?_eq_some_iff.1 hr).1⟩
theorem Rel.addMark {a:Act} {r:Nat} (h:Rel Mo m s (a::as) w) (hr:w.heap[r]? = some (.deferred (some []))) (hnew:∀ d∈marks (a::as),d≠{ target:=.collected r,args:=#[] }) :
  Rel Mo m s ({ a with defers:={ target:=.collected r,args:=#[] }::a.defers }::as) w:=by
 refine ⟨by simpa using h.len,?_,h.box,h.inj,h.oww,h.owx,h.owb,?_,by simpa using h.dep,h.lpi,h.mo,?_,h.owm,h.vec⟩
 ·intro i hi hi'
  cases i with
  | zero =>
   have h0:=h.fr 0 (by simp) (by simp)
   refine ⟨h0.size,h0.ts,fun d hd=>?_⟩
   have hd:d∈({ target:=.collected r,args:=#[] }::a.defers:List Deferred).filter isMk:=hd
   rw [show ({ target:=.collected r,args:=#[] }::a.defers:List Deferred).filter isMk={ target:=.collected r,args:=#[] }::a.defers.filter isMk from List.filter_cons_of_pos rfl] at hd
   rcases List.mem_cons.1 hd with rfl | hd
   ·exact ⟨r,rfl,hr⟩
   ·exact h0.def_ d hd
  | succ i=>exact h.fr (i+1) hi (by simpa using hi')
 ·intro l q hl
  obtain ⟨rc,b,hx⟩:=h.lps l q hl
  refine ⟨rc,b,⟨hx.heap,hx.ps,hx.assign,hx.body,?_,hx.tmps,hx.stat⟩⟩
  have hown:=hx.own
  have hd:=h.dep l q hl
  simp only [List.length_cons] at hd
  rw [List.reverse_cons,List.getElem?_append_left (by simp;omega)] at hown ⊢
  exact hown
 ·have:=h.mks
  have e:({ target:=.collected r,args:=#[] }::a.defers).filter isMk={ target:=.collected r,args:=#[] }::a.defers.filter isMk:=List.filter_cons_of_pos rfl
  simp only [marks,List.flatMap_cons,e,List.cons_append,List.nodup_cons] at this ⊢
  exact ⟨fun hm=>hnew _ (by simpa [marks] using hm) rfl,this⟩
theorem Rel.addLoop {l:Name} {q:Lp} {r:Loop} {a:Act} (h:Rel Mo m s as w) (hn:lookN l s.lp=none) (hx:LpOK w m l q as r a) (hd:q.depth+1<as.length) (hf:∀ l' p',lookN l' s.lp=some p' → m.lp l' ≠ m.lp l) :
  Rel Mo m { s with lp:=(l,q)::s.lp } as w:=by
 refine ⟨h.len,h.fr,h.box,h.inj,h.oww,h.owx,h.owb,?_,?_,?_,h.mo,h.mks,h.owm,h.vec⟩
 ·intro nm x hl
  simp only [lookN] at hl
  split at hl
  ·rename_i e;cases hl;subst e;exact ⟨r,a,hx⟩
  ·exact h.lps nm x hl
 ·intro nm x hl
  simp only [lookN] at hl
  split at hl
  ·cases hl;exact hd
  ·exact h.dep nm x hl
 ·intro n1 x1 n2 x2 h1 h2 e
  simp only [lookN] at h1 h2
  split at h1
  ·rename_i e1
   split at h2
   ·rename_i e2;rw [← e1,← e2]
   ·subst e1;exact absurd e.symm (hf n2 x2 h2)
  ·split at h2
   ·rename_i e2;subst e2;exact absurd e (hf n1 x1 h1)
   ·exact h.lpi n1 x1 n2 x2 h1 h2 e
theorem Rel.dropLoop {l:Name} {q:Lp} {tl:List (Name×Lp)} {r r' : Loop} (h:Rel Mo m s as w) (hs:s.lp=(l,q)::tl) (hn:lookN l tl=none) (hr:w.heap[m.lp l]? = some (.loop r)) :
  Rel Mo m { s with lp:=tl } as (w.putObj (m.lp l) (.loop r')):=by
 have hne:∀ (b:Nat) (x:Obj),w.heap[b]? = some x→(∀ y,x ≠ .loop y)→(w.putObj (m.lp l) (.loop r')).heap[b]? = some x:=by
  intro b x hx hnx
  have:b≠m.lp l:=fun e=>by subst e;rw [hr] at hx;cases hx;exact hnx _ rfl
  rw [World.putObj_heap_other this];exact hx
 have hstab:Stab w (Tot Mo s.bx s.ow m) (w.putObj (m.lp l) (.loop r')) (Tot Mo s.bx s.ow m):=by
  intro b j c hc hm
  refine ⟨?_,hm⟩
  have hb:b≠m.lp l:=fun e=>by subst e;simp [World.cell?,hr] at hc
  rw [World.cell?_of_block (w:=w) (World.putObj_heap_other hb)];exact hc
 have hsp:∀ i sz v,Spare w m i sz v→Spare (w.putObj (m.lp l) (.loop r')) m i sz v:=by
  intro i sz v hs
  unfold Spare at hs ⊢
  split at hs
  ·exact hs
  ·rcases hs with hs | ⟨h1,h2,h3,c,T,h4,h5⟩
   ·exact .inl hs
   ·exact .inr ⟨h1,h2,h3,c,T,hne _ _ h4 (by simp),h5⟩
  ·exact hs.elim
 have hrep:∀ v c,RepV w (Tot Mo s.bx s.ow m) m v c→RepV (w.putObj (m.lp l) (.loop r')) (Tot Mo s.bx s.ow m) m v c:=fun v c hv=>hv.mono hstab (fun _ _=>rfl) (fun i _ sz v hs=>hsp i sz v hs) (fun _ _=>rfl)
 have hlook:∀ nm x,lookN nm tl=some x→nm≠l∧lookN nm s.lp=some x:=by
  intro nm x hx
  have:nm≠l:=fun e=>by rw [e,hn] at hx;cases hx
  exact ⟨this,by rw [hs];simp only [lookN];rw [if_neg (Ne.symm this)];exact hx⟩
 have hll:lookN l s.lp=some q:=by rw [hs];simp [lookN]
 refine ⟨h.len,?_,?_,h.inj,?_,h.owx,h.owb,?_,?_,?_,fun b j hm=>by rw [World.putObj_size];exact h.mo b j hm,h.mks,h.owm,fun k d hk=>⟨(h.vec k d hk).1,(h.vec k d hk).2.putObj hr (by simp) hstab⟩⟩
 ·intro i hi hi'
  have h0:=h.fr i hi hi'
  refine ⟨h0.size,fun t=>hrep _ _ (h0.ts t),fun d hd=>?_⟩
  obtain ⟨x,e,hx⟩:=h0.def_ d hd
  exact ⟨x,e,hne _ _ hx (by simp)⟩
 ·intro nm c hn
  obtain ⟨cs,T,hb⟩:=h.box nm c hn
  exact ⟨cs,T,hb.heap.mono (fun o ho _ h2=>hne _ _ ho h2),hb.size,hb.leafs,fun i hi=>hrep _ _ (hb.rep i hi)⟩
 ·intro i hi hn
  obtain ⟨c,T,h1,h2⟩:=h.oww i hi hn
  exact ⟨c,T,hne _ _ h1 (by simp),h2⟩
 ·intro nm x hx
  obtain ⟨h1,h2⟩:=hlook nm x hx
  obtain ⟨rc,b,hy⟩:=h.lps nm x h2
  refine ⟨rc,b,⟨?_,hy.ps,hy.assign,hy.body,hy.own,hy.tmps,hy.stat⟩⟩
  have:m.lp nm≠m.lp l:=fun e=>h1 (h.lpi nm x l q h2 hll e)
  rw [World.putObj_heap_other this];exact hy.heap
 ·intro nm x hx
  exact h.dep nm x (hlook nm x hx).2
 ·intro n1 x1 n2 x2 h1 h2 e
  exact h.lpi n1 x1 n2 x2 (hlook n1 x1 h1).2 (hlook n2 x2 h2).2 e
theorem Rel.setRd (h:Rel Mo m s as w) (r:Option Name):Rel Mo m { s with rd:=r } as w:=by
 refine ⟨h.len,?_,h.box,h.inj,h.oww,h.owx,h.owb,h.lps,h.dep,h.lpi,h.mo,h.mks,h.owm,h.vec⟩
 intro i hi hi'
 cases i with
 | zero=>exact ⟨(h.fr 0 (by simp) hi').size,(h.fr 0 (by simp) hi').ts,(h.fr 0 (by simp) hi').def_⟩
 | succ i=>exact h.fr (i+1) hi hi'
def Sa.loopIn (s:Sa) (l:Name) (nt:Nat) (args:List V) (q:Lp):Sa:={ rd:=none,n:=nt,ts:=argTs 0 args,sv:={ rd:=some l,n:=s.n,ts:=s.ts }::s.sv,bx:=s.bx,lp:=(l,q)::s.lp,ow:=s.ow,vc:=s.vc }
def Sa.loopOut (s:Sa):Sa:=match s.sv with
 | f::fs=>{ rd:=none,n:=f.n,ts:=f.ts,sv:=fs,bx:=s.bx,lp:=s.lp.tail,ow:=s.ow,vc:=s.vc }
 | []=>s
def LeftLoop (P:Program) (p:Name) (rs:List ResultVar) (l:Name) (s0:Sa) (Q:Ex→Sa→Prop) (e:Ex) (s:Sa):Prop :=
 (match e with | .exit _=>False | .thr _=>False | _=>True)∧s.sv.length=s0.sv.length+1∧lpD s.lp=(l,s0.sv.length)::lpD s0.lp∧resK P s rs fun _=>match s.lp with
  | (_,q)::_=>match q.pending with
   | none=>Q .norm s.loopOut
   | some none=>False
   | some (some c)=>ev P (semsT P) p c s.loopOut Q
  | []=>False
theorem Rel.loopIn {a:Act} {sv:List Act} {w1:World} {l:Name} {args:List V} {vs:Array Value} {nt:Nat} {ps:Array Tmp} {assign body:Code} {r:Loop} {B:Nat} (h:Rel Mo m s (a::sv) w) (hy:AllV (fun v=>l ∉ v.lps) s) (hn:lookN l s.lp=none)
  (hbl:Below w.heap.size w w1) (hB:w1.heap[B]? = some (.deferred (some []))) (hBs:w.heap.size≤B) {N:Nat} (hN:w1.heap[N]? = some (.loop r)) (hNs:w.heap.size≤N)
  (hr:r.params=ps∧r.assign=assign∧r.body=body∧r.tmps=a.tmps∧r.state = .ready∧r.pending=none)
  (ha:ArgsOK w1 (Tot Mo s.bx s.ow m) (m.setLp l N) args vs) (hle:args.length≤nt) :
  Rel Mo (m.setLp l N) (s.loopIn l nt args ⟨s.sv.length,ps,assign,body,none⟩)
   ({ tmps:=vs++Array.replicate (nt - vs.size) undef,defers:=[] }::{ a with defers:={ target:=.collected B,args:=#[] }::a.defers }::sv) w1:=by
 have h1:=(h.newLp (N:=N) hy hn hbl).addMark hB (fun d hd=>by
  obtain ⟨r,e,hr⟩:=h.marks_lt d hd
  intro e2
  rw [e] at e2
  have:r=B:=by cases e2;rfl
  omega)
 have h2:=(h1.setRd (some l)).push (args:=args) (vs:=vs) nt ha hle
 refine h2.addLoop (l:=l) (q:=⟨s.sv.length,ps,assign,body,none⟩) (r:=r) (a:={ a with defers:={ target:=.collected B,args:=#[] }::a.defers }) hn ?_ ?_ ?_
 ·refine ⟨by simpa [Mp.setLp] using hN,hr.1,hr.2.1,hr.2.2.1,?_,hr.2.2.2.1,hr.2.2.2.2⟩
  have hl:=h.len
  simp only [List.length_cons,Nat.add_right_cancel_iff] at hl
  have e:∀ (x y:Act),(x::y::sv).reverse[s.sv.length]? = some y:=fun x y=>by
   rw [← hl]
   simp
  exact e _ _
 ·have hl:=h.len
  simp only [List.length_cons] at hl ⊢
  omega
 ·intro l' p' hl
  have:l' ≠ l:=fun e=>by rw [e] at hl;exact absurd hl (by simp [Sa.push,hn])
  obtain ⟨rc,b,hx⟩:=h.lps l' p' hl
  have:=(Array.getElem?_eq_some_iff.1 hx.heap).1
  simp only [Mp.setLp,if_true]
  rw [if_neg (by assumption)]
  omega
theorem lpD_none:∀ {l l' : List (Name×Lp)},lpD l=lpD l' → ∀ {nm:Name},lookN nm l=none→lookN nm l' = none:=by
 intro l l' e nm h
 cases h' : lookN nm l' with
 | none=>rfl
 | some q =>
  obtain ⟨q',h1,_⟩:=lpD_look e.symm h'
  rw [h] at h1;cases h1
end Go.Ab
namespace Go.Ab
open Go Go.RowKit
section
variable {P:Program} {b:Frame} {a:Act} {k:List Item} {cs:List Frame} {w:World} {Q:Exit→Act→World→Prop} {F:Machine→Prop} {n:Nat}
theorem stepR_scope {c:Code}:step P (lone (b.atR a (.code (.scope c)::k)) cs w) = .next (lone (b.atR a (.code c :: .inScope c::k)) cs w) :=
 step_lone_go (by rfl)
theorem stepR_inScope {c:Code}:step P (lone (b.atR a (.inScope c::k)) cs w) = .next (lone (b.atR a k) cs w) :=
 step_lone_go (by rfl)
end
section
variable {P:Program} {a:Act} {w:World} {Q:Exit→Act→World→Prop} {n:Nat}
theorem wpIn_scope {F} {c:Code} (h:c.wpIn F n P (Exit.noGoto Q) a w):(Code.scope c).wpIn F n P Q a w:=by
 intro b k cs hro hb hr
 have h0:(lone (b.atR a (.code (.scope c)::k)) cs w).fenced P F:=fenced_calm hb hr rfl
 obtain ⟨e,a₁,w₁,hq,harr⟩:=h b (.inScope c::k) cs hro hb hr
 cases e with
 | normal=>exact ⟨.normal,a₁,w₁,hq,.head h0 stepR_scope (StepsIn.trans harr (.one (fenced_calm hb hr rfl) stepR_inScope))⟩
 | exit id =>
  have hx:exitTo id (.inScope c::k)=exitTo id k:=by rfl
  exact ⟨.exit id,a₁,w₁,hq,fun k' hk=>.head h0 stepR_scope (harr.1 k' (by grind)),
   fun hr' hk=>let ⟨k₁,h1,h2⟩:=harr.2 hr' (by grind);⟨k₁,h1,.head h0 stepR_scope h2⟩⟩
 | goto l=>exact hq.elim
 | ret=>exact ⟨_,a₁,w₁,hq,.of_steps (.one h0 stepR_scope) harr⟩
 | panic ch=>exact ⟨_,a₁,w₁,hq,.of_steps (.one h0 stepR_scope) harr⟩
 | outgrown=>exact ⟨_,a₁,w₁,hq,.of_steps (.one h0 stepR_scope) harr⟩
end
variable {P:Program} {s:Sa} {p:Name}
theorem TC_label {l:Nat} {Q:Ex→Sa→Prop} (h:Q .norm s):TC P p (.label l) s Q:=fun _ m _ _ _ _ hR=>wpIn_label ⟨.norm,m,s,rfl,h,hR,Step.refl _ _ _,rfl,.refl⟩
theorem TC_scope {c:Code} {Q:Ex→Sa→Prop} (h:TC P p c s Q):TC P p (.scope c) s Q:=fun Mo m a sv w n hR=>by
 refine wpIn_scope (wpIn_mono (h Mo m a sv w n hR) ?_)
 intro e a' w' hq
 obtain ⟨x,m',s',h1,h2⟩:=hq
 cases e with
 | goto l=>cases h1
 | _=>exact ⟨x,m',s',h1,h2⟩
end Go.Ab
namespace Go.Ab
open Go Go.RowKit
variable {P:Program} {w:World} {n:Nat} {Mo:Cells} {m:Mp} {s:Sa} {as:List Act} {p:Name}
theorem Rel.setTop {a a' : Act} {r:Option Name} {k:Nat} {ts:List (Nat×V)} (h:Rel Mo m s (a::as) w) (hf:FrOK w (Tot Mo s.bx s.ow m) m ⟨r,k,ts⟩ a') (hm:a'.defers.filter isMk=a.defers.filter isMk) :
  Rel Mo m { s with rd:=r,n:=k,ts:=ts } (a' :: as) w:=by
 refine ⟨by simpa using h.len,?_,h.box,h.inj,h.oww,h.owx,h.owb,?_,by simpa using h.dep,h.lpi,h.mo,?_,h.owm,h.vec⟩
 ·intro i hi hi'
  cases i with
  | zero=>exact hf
  | succ i=>exact h.fr (i+1) hi (by simpa using hi')
 ·intro l q hl
  obtain ⟨rc,b,hx⟩:=h.lps l q hl
  refine ⟨rc,b,⟨hx.heap,hx.ps,hx.assign,hx.body,?_,hx.tmps,hx.stat⟩⟩
  have hown:=hx.own
  have hd:=h.dep l q hl
  simp only [List.length_cons] at hd
  rw [List.reverse_cons,List.getElem?_append_left (by simp;omega)] at hown ⊢
  exact hown
 ·have:=h.mks
  simpa only [marks,List.flatMap_cons,hm] using this
theorem FrOK.defers {M:Cells} {f:Fr} {a:Act} {ds:List Deferred} (h:FrOK w M m f a) (hm:ds.filter isMk=a.defers.filter isMk) (r:Option Name):FrOK w M m ⟨r,f.n,f.ts⟩ { a with defers:=ds } :=
 ⟨h.size,h.ts,fun d hd=>h.def_ d (by rw [← hm];exact hd)⟩
def Sa.unthr (s:Sa):Sa:={ s with rd:=none,n:=s.n - 1,ts:=(s.n - 1,.dead)::s.ts }
theorem Rel.unthr {a:Act} {c:Value} {ds:List Deferred} (h:Rel Mo m s ({ a with tmps:=a.tmps.push c }::as) w) (hm:ds.filter isMk=a.defers.filter isMk):Rel Mo m s.unthr ({ a with defers:=ds }::as) w:=by
 have h0:=h.fr 0 (by simp) (by simp)
 have hsz:(a.tmps.push c).size=s.n:=h0.size
 simp only [Array.size_push] at hsz
 refine h.setTop ⟨by show a.tmps.size=s.n - 1;omega,fun t=>?_,fun d hd=>h0.def_ d (by show d∈a.defers.filter isMk;rw [← hm];exact hd)⟩ hm
 simp only [lkT]
 split
 ·exact .dead
 ·rename_i ht
  have:=h0.ts t
  simp only [List.getElem_cons_zero] at this
  rw [Array.getD_eq_getD_getElem?] at this ⊢
  rw [Array.getElem?_push] at this
  rw [if_neg (by omega)] at this
  exact this
structure HandI where
 nt:Nat
 ar:Nat
 y:Tmp
 ty:TypeId
 id:Nat
 ops:Array Oper
def Sa.handed (s:Sa) (H:HandI) (caps:List V) (nm:Name) (v:V):Sa :=
 { s.push H.nt ((H.y,.ptr nm 0)::argTs 0 caps) with bx:=(nm,v)::s.bx }
structure HandPre (P:Program) (H:HandI) (p:Name) (s:Sa) (caps:List V) (v:V):Prop where
 ref:s.refs (H.y::p)=false
 new:lookN (H.y::p) s.bx=none
 capn:V.refsL (H.y::p) caps=false
 valn:v.refs (H.y::p)=false
 cells:isCells v=true
 len:v.cells.length=tsz P H.ty
 nn:v ≠ .nil
structure HandOK (P:Program) (g:FuncId) (H:HandI):Prop where
 call:callable P g=true
 idle:∀ (cs:Array Value) (w:World) (n:Nat),CallsDIn (Wd none) n P g cs .returning w fun e u w'=>(∃ v,e = .returned v)∧u = .returning∧w' = w
 ctch:∀ {Mo m s as w} {n:Nat} {cs:Array Value} {caps:List V} {v:V} {c:Value} {p:Name} {K:Sa→Prop},Rel Mo m s as w→ArgsOK w (Tot Mo s.bx s.ow m) m caps cs→caps.length≤H.ar →
  RepV w (Tot Mo s.bx s.ow m) m v c→HandPre P H p s caps v→evOps P (sems P) p H.ops H.ops.toList (s.handed H caps (H.y::p) v) K →
  CallsDIn (Wd none) n P g cs (.panicking (panicOf H.ty c)) w fun e u w'=>(∃ v,e = .returned v)∧settle u = .returning∧∃ m' s' a,K s' ∧ Rel Mo m' s' (a::as) w' ∧ Step m (s.push H.nt (argTs 0 caps)) w m' s' w'
def LeftH (P:Program) (k:V→Sa→Prop) (rs:List ResultVar) (s0:Sa) (H:HandI) (caps:List V) (e:Ex) (s:Sa):Prop :=
 s.sv.length=s0.sv.length+1∧lpD s.lp=lpD s0.lp∧match e with
  | .exit _=>False
  | .thr t=>t=H.ty∧∃ p,HandPre P H p s.unthr caps (lkT (s.n - 1) s.ts)∧evOps P (sems P) p H.ops H.ops.toList (s.unthr.handed H caps (H.y::p) (lkT (s.n - 1) s.ts)) fun s4 =>
    s4.sv.length=s.sv.length+1∧lpD s4.lp=lpD s.lp∧resK P s4.pop rs fun vs=>k (mkRes vs) s4.pop.pop
  | _=>resK P s rs fun vs=>k (mkRes vs) s.pop
def capOK (mk:Name):V→Prop
 | .ptr nm 0=>nm∈decH mk
 | _=>False
def PreH (P:Program) (k:V→Sa→Prop) (rs:List ResultVar) (s0:Sa) (H:HandI) (q:Name) (d:Tmp) (capsO:Array Operand) (rest:Code) (e:Ex) (s:Sa):Prop :=
 e = .norm∧d<s.n∧s.rd=none∧∃ mk,isH mk=true∧(∀ v∈capsO.toList.map s.get,capOK mk v)∧capsO.size≤H.ar ∧
  TC P q rest { s.put (some d) .dead with rd:=some mk } (LeftH P k rs s0 H (capsO.toList.map s.get))
theorem Step.mark {m1 m2:Mp} {s1 s2:Sa} {w1 w2:World} {r:Option Name} {k:Nat} {ts ts' : List (Nat×V)} {k' : Nat} (hrd:s1.rd=none) (h:Step m1 { s1 with rd:=r,n:=k,ts:=ts } w1 m2 s2 w2) :
  Step m1 s1 w1 m2 { s2 with rd:=none,n:=k',ts:=ts' } w2 :=
 ⟨h.keeps,h.mt,h.lp,hrd.symm,h.svrd,fun l hl=>h.lpm l (by
  simp only [rds,hrd,List.mem_cons] at hl ⊢
  rcases hl with hl | hl
  ·cases hl
  ·exact .inr hl)⟩
theorem isMk_fn {fv:Fn} {cs xs:Array Value} {ds:List Deferred}:(({ target:=.fn fv cs,args:=xs }:Deferred)::ds).filter isMk=ds.filter isMk:=List.filter_cons_of_neg (by simp [isMk])
theorem pop_sv {s:Sa} {k:Nat} (h:s.sv.length=k+1):s.pop.sv.length=k∧s.pop.lp=s.lp:=by
 cases hs:s.sv with
 | nil=>rw [hs] at h;simp at h
 | cons f fs=>rw [hs] at h;simp only [Sa.pop,hs];simpa using h
theorem TCall_hand {f g:FuncId} {fn:Func} {H:HandI} {r0 rest:Code} {id1:Nat} {o1 o2:Oper} {d:Tmp} {capsO:Array Operand} {c2:Call} {args:List V} {k:V→Sa→Prop} {kt:TypeId→V→Sa→Prop} {p0:Name} (q:Name)
  (hf:P.funcs[f]? = some fn) (hb:fn.body=some (.seq r0 (.seq (.region id1 #[o1,o2] false) rest)))
  (h1:o1.op = .makeFunc (.func g) #[] capsO) (h1d:o1.dst=some d) (h1g:o1.guard=none) (h2:o2.op = .defer c2) (h2c:c2.callee = .value (.tmp d)) (h2a:c2.args = #[]) (h2d:o2.dst=none) (h2g:o2.guard=none)
  (hH:HandOK P g H) (hle:args.length≤fn.ntmps) (h:TC P q r0 (s.push fn.ntmps (argTs 0 args)) (PreH P k fn.results.toList s H q d capsO rest)):TCallT P kt p0 f args s k:=by
 intro Mo m as w n vs r hR hargs
 refine callsIn_round (callsIn_of_wp_marks hf hb trivial ?_ rfl)
 have h0:=hR.push fn.ntmps hargs hle
 have hw:=h Mo m _ as w n h0
 have hrd:rdOf m (s.push fn.ntmps (argTs 0 args))=none:=rfl
 rw [hrd] at hw
 refine wpIn_seq (wpIn_mono hw ?_)
 rintro e a1 w1 ⟨ex,m1,s1,he,⟨rfl,hdn,hrd1,mk,hmk,hcaps,hcl,hrest⟩,hR1,hst1,_,hmk1⟩
 have en:=exOf_norm he
 subst en
 have hR1:Rel Mo m1 s1 (a1::as) w1:=hR1
 have hB1:=hmk1.nil
 obtain ⟨cs,hcs⟩:∃ cs,cs=capsO.map a1.eval:=⟨_,rfl⟩
 have hsz:a1.tmps.size=s1.n:=hR1.cur.size
 have hcsr:∀ m2,MpEq mk m2 m1→∀ w' M,ArgsOK w' M m2 (capsO.toList.map s1.get) cs:=by
  intro m2 hm w' M
  refine ⟨by simp [hcs],fun i hi=>?_⟩
  have h3:=hcaps _ (List.getElem_mem hi)
  have h4:RepV w1 (Tot Mo s1.bx s1.ow m1) m1 ((capsO.toList.map s1.get)[i]) (cs.getD i undef):=by
   simp only [List.length_map,Array.length_toList] at hi
   simp only [List.getElem_map,Array.getElem_toList]
   rw [hcs,Array.getD_eq_getD_getElem?,Array.getElem?_map,Array.getElem?_eq_getElem hi]
   exact hR1.operand _
  generalize (capsO.toList.map s1.get)[i]=v at h3 h4
  unfold capOK at h3
  split at h3
  ·rename_i nm
   rw [h4.ptr_inv,← hm.bx nm h3];exact .ptr
  ·exact h3.elim
 obtain ⟨du,hdu⟩:∃ du:Deferred,du={ target:=.fn (.func g) cs,args:=#[] }:=⟨_,rfl⟩
 obtain ⟨a2,ha2⟩:∃ a2:Act,a2={ a1.put (some d) (.func (.func g) #[] cs) with defers:=du::a1.defers }:=⟨_,rfl⟩
 have hR2:Rel Mo m1 { s1.put (some d) .dead with rd:=some mk } (a2::as) w1:=by
  have h3:=hR1.put (dst:=some d) (v:=.dead) (c:=.func (.func g) #[] cs) (fun d' e=>by cases e;exact hdn) .dead
  have h4:=h3.fr 0 (by simp) (by simp)
  rw [ha2]
  exact h3.setTop (h4.defers (ds:=du::a1.defers) (by rw [hdu,isMk_fn];rfl) (some mk)) (by rw [hdu,isMk_fn];rfl)
 have hw2:=hrest Mo m1 a2 as w1 n hR2
 have hrd2:rdOf m1 { s1.put (some d) .dead with rd:=some mk }=none:=by simp [rdOf,rdN,hmk]
 rw [hrd2] at hw2
 show (Code.seq (.region id1 #[o1,o2] false) rest).wpIn (Wd none) n P (bodyPostM (Wd none) n P fn _) a1 w1
 refine wpIn_seq (wpIn_region ?_)
 have hwant:∀ (o:Oper) f,o.guard=none→Region.wanted o f=true:=fun o f h=>by simp [Region.wanted,h]
 have e01:List.range (#[o1,o2]:Array Oper).size=[0,1]:=rfl
 rw [e01]
 simp only [wpOpsIn,List.getElem?_toArray,List.getElem?_cons_zero,List.getElem?_cons_succ,hwant _ _ h1g,hwant _ _ h2g,if_true]
 refine op_value (w':=w1) (v:=.func (.func g) #[] cs) (fun c e=>by rw [h1] at e;cases e) (by simp [execOp,h1,Instr.makeFunc,hcs]) ⟨fun _ _=>trivial,?_⟩
 rw [h1d]
 have hrun:(o2.semAt (Wd none).round (a1.put (some d) (.func (.func g) #[] cs)).eval).run P w1 = .ok (.defer du) w1:=by
  show (execOp _ o2).run P w1=_
  simp only [execOp,h2,resolve,h2c,h2a,put_get (c:=.func (.func g) #[] cs) (hsz.symm ▸ hdn),Deferred.ofValue,Sem.run_bind,Sem.run_pure,Result.andThen_ok,hdu]
  simp
 rw [hrun,Oper.uponIn_defer,h2d]
 show rest.wpIn (Wd none) n P _ ({ a1.put (some d) (.func (.func g) #[] cs) with defers:=du::(a1.put (some d) (.func (.func g) #[] cs)).defers }) w1
 rw [show ({ a1.put (some d) (.func (.func g) #[] cs) with defers:=du::(a1.put (some d) (.func (.func g) #[] cs)).defers }:Act)=a2 from by rw [ha2,put_defers]]
 refine wpIn_mono hw2 ?_
 rintro e a3 w2 ⟨ex2,m2,s2,he2,⟨hsvl,hlpn,hres⟩,hR3,hst2,_,l2,hds,hl2⟩
 have hds:a3.defers=l2++du::a1.defers:=by rw [hds,ha2]
 have hB2:∀ d∈l2,∃ r,d={ target:=.collected r,args:=#[] }∧w.heap.size≤r:=fun d hd=>by
  obtain ⟨r,e,hr⟩:=hl2 d hd
  exact ⟨r,e,Nat.le_trans hst1.keeps.size hr⟩
 have hm2:MpEq mk m2 m1:=hst2.lpm mk (by simp [rds])
 have hsta:∀ (k' : Nat) ts',Step m (s.push fn.ntmps (argTs 0 args)) w m2 { s2 with rd:=none,n:=k',ts:=ts' } w2:=fun k' ts'=>hst1.trans (Step.mark hrd1 hst2)
 have hinv:∀ w',(invoke du.target du.args).run P w' = .ok (.enter g cs) w':=fun w'=>by
  rw [hdu];simp only [invoke]
  have:=run_callFunc (w:=w') hH.call (#[]++cs)
  rw [this,Array.empty_append]
 have hfin:resK P s2 fn.results.toList (fun vs=>k (mkRes vs) s2.pop)→Rel Mo m2 s2 (a3::as) w2→LeavesInM (Wd none) n P fn a3.tmps (fun e w'=>CallPost Mo m s as w k e w' ∨ ThrPost Mo m s as w kt e w') a3.defers .returning w2:=fun hres hR3=>by
  rw [hds]
  refine leavesM (by simp) w.heap.size l2 a3 w2 hds hR3 hB2 (fun w3 h3 b3=>⟨by simp,.inr ⟨fun h=>(by cases h),Fn.func g,cs,g,cs,by rw [hdu],hinv w3,fun _ _=>trivial,(hH.idle cs w3 _).mono ?_⟩⟩)
  rintro e u w4 ⟨⟨v,rfl⟩,rfl,rfl⟩
  show LeavesInM (Wd none) n P fn a3.tmps _ a1.defers .returning w4
  have h4:Rel Mo m2 s2 ({ a3 with defers:=a1.defers }::as) w4:=h3.setTop (r:=s2.rd) (k:=s2.n) (ts:=s2.ts) ((h3.fr 0 (by simp) (by simp)).defers (a:={ a3 with defers:=du::a1.defers }) (ds:=a1.defers) (by rw [hdu,isMk_fn]) _) (by rw [hdu,isMk_fn])
  refine leaves w.heap.size hres a1.defers { a3 with defers:=a1.defers } w4 rfl h4 hB1 (fun vs c w5 hk hR5 hv hb=>.inl ?_)
  have h5:Rel Mo m2 { s2 with rd:=none,n:=s2.n,ts:=s2.ts } ({ a3 with defers:=[] }::as) w5:=hR5.setTop ((hR5.fr 0 (by simp) (by simp)).defers (a:={ a3 with defers:=[] }) (ds:=[]) rfl none) rfl
  obtain ⟨p1,p2,p3,p4,p5⟩:=left_pop (s':={ s2 with rd:=none,n:=s2.n,ts:=s2.ts }) hR hsvl hlpn (hsta s2.n s2.ts) (b3.trans hb) h5
  have ep:({ s2 with rd:=none,n:=s2.n,ts:=s2.ts }:Sa).pop=s2.pop:=by
   cases hs:s2.sv with
   | nil=>rw [hs] at hsvl;simp at hsvl
   | cons f fs=>simp only [Sa.pop,hs]
  rw [ep] at p1 p2 p3 p4 p5
  exact ⟨c,mkRes vs,m2,s2.pop,rfl,hk,p1,by rw [p2,p3];exact hv,p4,p5⟩
 cases e with
 | normal=>cases he2;exact hfin hres hR3
 | ret=>cases he2;exact hfin hres hR3
 | exit i=>cases he2;exact hres.elim
 | goto l=>cases he2
 | outgrown=>cases he2
 | panic ch =>
  obtain ⟨t,v,rfl,rfl⟩:=exOf_panic he2
  obtain ⟨rfl,p,hpre,hev⟩:=hres
  have hR3:Rel Mo m2 s2 ({ a3 with tmps:=a3.tmps.push v }::as) w2:=hR3
  show LeavesInM (Wd none) n P fn a3.tmps _ a3.defers (.panicking (panicOf H.ty v)) w2
  rw [hds]
  refine leavesM (by simp) w.heap.size l2 { a3 with tmps:=a3.tmps.push v } w2 hds hR3 hB2 (fun w3 h3 b3=>⟨by simp,.inr ⟨fun h=>(by cases h),Fn.func g,cs,g,cs,by rw [hdu],hinv w3,fun _ _=>trivial,?_⟩⟩)
  have h4:Rel Mo m2 s2.unthr ({ a3 with defers:=a1.defers }::as) w3:=Rel.unthr (a:={ a3 with defers:=du::a1.defers }) h3 (by rw [hdu,isMk_fn])
  have hv:RepV w3 (Tot Mo s2.bx s2.ow m2) m2 (lkT (s2.n - 1) s2.ts) v:=Rel.unthrow (a:={ a3 with defers:=du::a1.defers }) h3
  refine (hH.ctch h4 (hcsr m2 hm2 w3 _) (by simpa using hcl) hv hpre hev).mono ?_
  rintro e u w4 ⟨⟨v',rfl⟩,hset,m3,s4,a4,⟨k1,k2,k3⟩,hR4,hst4⟩
  show LeavesInM (Wd none) n P fn a3.tmps _ a1.defers (settle u) w4
  rw [hset]
  obtain ⟨p1,p2,p3,p4,p5⟩:=left_pop h4 k1 k2 hst4 (Below.refl _ _) hR4
  obtain ⟨v1,v2⟩:=pop_sv k1
  refine leaves w.heap.size k3 a1.defers { a3 with defers:=a1.defers } w4 rfl p1 hB1 (fun vs c w5 hk hR5 hv5 hb=>.inl ?_)
  have hstx:=((hsta (s2.n - 1) ((s2.n - 1,.dead)::s2.ts)).after b3).trans p4
  obtain ⟨q1,q2,q3,q4,q5⟩:=left_pop hR (v1.trans hsvl) (by rw [v2,k2];exact hlpn) hstx hb hR5
  exact ⟨c,mkRes vs,m3,s4.pop.pop,rfl,hk,q1,by rw [q2,q3];exact hv5,q4,q5⟩
end Go.Ab
namespace Go.Ab
open Go Go.RowKit
variable {P:Program} {w:World} {n:Nat} {Mo:Cells} {m:Mp} {s:Sa} {as:List Act} {p:Name}
structure OpIs (o:Oper) (op:Op) (d:Option Tmp):Prop where
 op:o.op=op
 dst:o.dst=d
 guard:o.guard=none
theorem OpIs.val {o:Oper} {op:Op} {d:Tmp} {Q:Exit→Act→World→Prop} {K:Act→World→Prop} {a:Act} {v:Value} (h:OpIs o op (some d)) (hnd:∀ c,op ≠ .defer c) (hrun:(execOp a.eval o).run P w = .ok (.value v) w) (hK:K (a.put (some d) v) w) :
  o.wpIn (Wd none) n P a w K Q:=op_value (w':=w) (fun c=>by rw [h.op];exact hnd c) hrun (by rw [h.dst];exact hK)
end Go.Ab
namespace Go.Tx
open Go Go.Ab
inductive Cst where
 | nilf | nilp | nilm | nili | fnc (g:Nat)
 deriving DecidableEq
def Cst.val:Cst→Value
 | .nilf=>.nilFunc
 | .nilp=>.pointer none
 | .nilm=>.map none
 | .nili=>.nilIface
 | .fnc g=>.func (.func g) #[] #[]
inductive Ty where
 | int (k:IntKind) | bool | str | cst (c:Cst) | unit | prod (a b:Ty) | st (a:Ty) | arr (n:Nat) (t:Ty) | sl (t:Ty) | mp (k:IntKind) (t:Ty)
 deriving DecidableEq,Inhabited
abbrev Ty.den:Ty→Type
 | .int _=>Int
 | .bool=>Bool
 | .str=>ByteArray
 | .cst _=>Unit
 | .unit=>Unit
 | .prod a b=>a.den×b.den
 | .st a=>a.den
 | .arr n t=>Fin n→t.den
 | .sl t=>List t.den
 | .mp _ t=>List (Int×t.den)
def Ty.size:Ty→Nat
 | .unit=>0
 | .prod a b=>a.size+b.size
 | .st a=>a.size
 | .arr n t=>n * t.size
 | .mp _ _=>0
 | _=>1
def Ty.ag:Ty→Option Bool
 | .st _=>some true
 | .arr _ _=>some true
 | .unit=>none
 | .prod _ _=>none
 | .mp _ _=>none
 | _=>some false
def wrapD (t:Ty) (cs:List D):D:=match t.ag with
 | some false=>cs.headD default
 | _=>.agg cs
def enc:(t:Ty)→t.den→List D
 | .int k,n=>[.v (.int k n)]
 | .bool,b=>[.v (.bool b)]
 | .str,s=>[.v (.string s)]
 | .cst c,_=>[.v c.val]
 | .unit,_=>[]
 | .prod a b,x=>enc a x.1++enc b x.2
 | .st a,x=>enc a x
 | .arr n t,f=>(List.finRange n).flatMap fun i=>enc t (f i)
 | .sl t,xs=>[.sl (xs.map fun x=>wrapD t (enc t x))]
 | .mp _ _,_=>[]
def encD (t:Ty) (x:t.den):D:=wrapD t (enc t x)
def Ty.zero:(t:Ty)→t.den
 | .int _=>(0:Int)
 | .bool=>false
 | .str=>ByteArray.empty
 | .cst _=>()
 | .unit=>()
 | .prod a b=>(a.zero,b.zero)
 | .st a=>a.zero
 | .arr _ t=>fun _=>t.zero
 | .sl _=>[]
 | .mp _ _=>[]
abbrev Val:=(t:Ty)×t.den
def Val.d (v:Val):D:=encD v.1 v.2
def wfT:(t:Ty)→t.den→Prop
 | .int k,n=>inR k n=true
 | .bool,_=>True
 | .str,s=>s.size≤9223372036854775807
 | .cst _,_=>True
 | .unit,_=>True
 | .prod a b,x=>wfT a x.1∧wfT b x.2
 | .st a,x=>wfT a x
 | .arr _ t,f=>∀ i,wfT t (f i)
 | .sl t,xs=>xs.length≤9223372036854775807∧∀ x∈xs,wfT t x
 | .mp _ t,l=>∀ x∈l,wfT t x.2
def Val.wf (v:Val):Prop:=wfT v.1 v.2
def Ty.noMp:Ty→Bool
 | .prod a b=>a.noMp&&b.noMp
 | .st a=>a.noMp
 | .arr _ t=>t.noMp
 | .sl t=>t.noMp
 | .mp _ _=>false
 | _=>true
theorem enc_len:∀ (t:Ty) (x:t.den),(enc t x).length=t.size
 | .int _,_ | .bool,_ | .str,_ | .cst _,_ | .unit,_ | .sl _,_ | .mp _ _,_=>rfl
 | .prod a b,x=>by simp [enc,Ty.size,enc_len a,enc_len b]
 | .st a,x=>by simpa [enc,Ty.size] using enc_len a x
 | .arr n t,f=>by
  have e:(fun i=>(enc t (f i)).length)=fun _=>t.size:=funext fun i=>enc_len t _
  show ((List.finRange n).flatMap fun i=>enc t (f i)).length=n * t.size
  rw [List.length_flatMap,e,List.map_const',List.length_finRange,List.sum_replicate_nat]
theorem D.cells_agg (cs:List D):(D.agg cs).cells=cs:=rfl
def D.flat:D→Bool
 | .agg _=>false
 | _=>true
theorem D.flat_cells {x:D} (h:D.flat x=true):x.cells=[x]:=by cases x <;> simp_all [D.flat,D.cells]
theorem enc_one {t:Ty} (h:t.ag=some false) (x:t.den):∃ y,enc t x=[y]∧D.flat y=true:=by
 cases t <;> simp_all [Ty.ag,enc] <;> rfl
theorem encD_cells (t:Ty) (x:t.den):(encD t x).cells=enc t x:=by
 unfold encD wrapD
 split
 ·rename_i h
  obtain ⟨y,e,hf⟩:=enc_one h x
  rw [e];exact D.flat_cells hf
 rfl
theorem encD_ag {t:Ty} (h:t.ag=some true) (x:t.den):encD t x = .agg (enc t x):=by simp [encD,wrapD,h]
theorem wfL_mem {xs:List D}:D.wfL xs↔∀ x∈xs,x.wf:=by
 induction xs with
 | nil=>simp [D.wfL]
 | cons x xs ih=>simp [D.wfL,ih]
theorem encD_wf {t:Ty} {x:t.den} (h:∀ y∈enc t x,y.wf):(encD t x).wf:=by
 unfold encD wrapD
 split
 ·rename_i ha
  obtain ⟨y,e,_⟩:=enc_one ha x
  grind
 grind [D.wf,wfL_mem]
theorem cells_wf {d:D} (h:d.wf):∀ y∈d.cells,y.wf:=by
 cases d with
 | v c=>simpa [D.cells] using h
 | agg cs=>grind [D.cells,D.wf,wfL_mem]
 | sl xs=>simpa [D.cells] using h
theorem enc_wfT:∀ (t:Ty) (x:t.den),t.noMp=true→(∀ y∈enc t x,y.wf)→wfT t x
 | .int k,n,_,h=>by simp only [enc,List.mem_singleton,forall_eq,D.wf,okLeaf] at h;exact h
 | .bool,_,_,_=>trivial
 | .str,_,_,h=>by simp only [enc,List.mem_singleton,forall_eq,D.wf,okLeaf] at h;exact h
 | .cst c,_,_,_=>trivial
 | .unit,_,_,_=>trivial
 | .mp _ _,_,hn,_=>by simp [Ty.noMp] at hn
 | .prod a b,x,hn,h=>by
  simp only [Ty.noMp,Bool.and_eq_true] at hn
  simp only [enc,List.mem_append] at h
  exact ⟨enc_wfT a _ hn.1 fun y hy=>h y (.inl hy),enc_wfT b _ hn.2 fun y hy=>h y (.inr hy)⟩
 | .st a,x,hn,h=>enc_wfT a x hn h
 | .arr n t,f,hn,h=>fun i=>enc_wfT t _ hn fun y hy=>h y (by
   grind [enc])
 | .sl t,xs,hn,h=>by
  simp only [enc,List.mem_singleton,forall_eq,D.wf,List.length_map,wfL_mem,List.mem_map,forall_exists_index,and_imp,forall_apply_eq_imp_iff₂] at h
  exact ⟨h.1,fun x hx=>enc_wfT t x hn fun y hy=>cells_wf (h.2 x hx) y (by rw [show wrapD t (enc t x)=encD t x from rfl,encD_cells];grind)⟩
theorem Val.wf_of_d {v:Val} (hn:v.1.noMp=true) (h:v.d.wf):v.wf:=enc_wfT _ _ hn fun y hy=>cells_wf h y (by rw [show v.d=encD v.1 v.2 from rfl,encD_cells];grind)
theorem wf_sl {t:Ty} {xs:List t.den}:Val.wf ⟨.sl t,xs⟩↔xs.length≤9223372036854775807∧∀ x∈xs,Val.wf ⟨t,x⟩:=Iff.rfl
theorem wf_prod {a b:Ty} {x:a.den×b.den}:Val.wf ⟨.prod a b,x⟩↔Val.wf ⟨a,x.1⟩∧Val.wf ⟨b,x.2⟩:=Iff.rfl
theorem wf_st {a:Ty} {x:a.den}:Val.wf ⟨.st a,x⟩↔Val.wf ⟨a,x⟩:=Iff.rfl
theorem wf_arr {n:Nat} {t:Ty} {f:Fin n→t.den}:Val.wf ⟨.arr n t,f⟩↔∀ i,Val.wf ⟨t,f i⟩:=Iff.rfl
theorem wf_int {k:IntKind} {n:Int}:Val.wf ⟨.int k,n⟩↔inR k n=true:=Iff.rfl
theorem wf_bool {b:Bool}:Val.wf ⟨.bool,b⟩:=trivial
theorem wf_str {s:ByteArray}:Val.wf ⟨.str,s⟩↔s.size≤9223372036854775807:=Iff.rfl
theorem wf_cst {c:Cst} {x:Unit}:Val.wf ⟨.cst c,x⟩:=trivial
theorem wf_unit {x:Unit}:Val.wf ⟨.unit,x⟩:=trivial
theorem wf_mp {k:IntKind} {t:Ty} {l:List (Int×t.den)}:Val.wf ⟨.mp k t,l⟩↔∀ x∈l,Val.wf ⟨t,x.2⟩:=Iff.rfl
theorem wf_zero:∀ t:Ty,Val.wf ⟨t,t.zero⟩
 | .int k=>by rw [wf_int];cases k <;> rfl
 | .bool=>wf_bool
 | .str=>by rw [wf_str];simp [Ty.zero]
 | .cst _=>wf_cst
 | .unit=>wf_unit
 | .prod a b=>wf_prod.2 ⟨wf_zero a,wf_zero b⟩
 | .st a=>wf_st.2 (wf_zero a)
 | .arr _ t=>wf_arr.2 fun _=>wf_zero t
 | .sl t=>wf_sl.2 ⟨by simp [Ty.zero],by simp [Ty.zero]⟩
 | .mp _ t=>wf_mp.2 (by simp [Ty.zero])
end Go.Tx
namespace Go.Tx
open Go Go.Ab
def Ty.like:Ty→Ty→Bool
 | .cst _,.cst _=>true
 | .prod a b,.prod c d=>a.like c&&b.like d
 | .st a,.st b=>a.like b
 | .arr n a,.arr m b=>Nat.beq n m&&a.like b
 | a,b=>decide (a=b)
theorem Ty.like_size:∀ {a b:Ty},a.like b=true→a.size=b.size∧a.ag=b.ag:=by
 intro a
 induction a <;> intro b h <;> cases b <;> simp [Ty.like,Ty.size,Ty.ag] at h ⊢
 case prod.prod a b ih1 ih2 c d=>grind
 case st.st a ih b=>grind
 grind
def hit (t:Ty):Option Ty→Bool
 | none=>decide (t.ag=some false)
 | some u=>decide (t.ag=some true)&&u.like t
def partF:(t:Ty)→Nat→Option Ty→Option ((u:Ty)×(t.den→u.den))
 | .prod a b,off,w=>if off<a.size then (partF a off w).map fun r=>⟨r.1,fun x=>r.2 x.1⟩ else (partF b (off - a.size) w).map fun r=>⟨r.1,fun x=>r.2 x.2⟩
 | .st a,off,w=>if off=0∧hit (.st a) w=true then some ⟨.st a,fun x=>x⟩ else (partF a off w).map fun r=>⟨r.1,fun x=>r.2 x⟩
 | .arr n u,off,w=>if off=0∧hit (.arr n u) w=true then some ⟨.arr n u,fun x=>x⟩ else
   if h:u.size≠0∧off / u.size<n then (partF u (off % u.size) w).map fun r=>⟨r.1,fun g=>r.2 (g ⟨off / u.size,h.2⟩)⟩ else none
 | t,off,w=>if off=0∧hit t w=true then some ⟨t,fun x=>x⟩ else none
theorem take_drop_append {α:Type} {a b:List α} {o n:Nat} (h:o+n≤a.length):((a++b).drop o).take n=(a.drop o).take n:=by
 grind
theorem take_drop_append_r {α:Type} {a b:List α} {o n:Nat} (h:a.length≤o):((a++b).drop o).take n=(b.drop (o - a.length)).take n:=by
 grind [List.drop_append,List.drop_eq_nil_of_le]
theorem flatMap_drop {n:Nat} {t:Ty} (f:Fin n→t.den):∀ (l:List (Fin n)) (k:Nat) (hk:k<l.length),(l.flatMap fun i=>enc t (f i)).drop (k * t.size)=enc t (f l[k])++(l.drop (k+1)).flatMap fun i=>enc t (f i):=by
 intro l
 induction l with
 | nil=>grind
 | cons x l ih =>
  intro k hk
  cases k with
  | zero=>simp
  | succ k =>
   simp only [List.flatMap_cons,List.getElem_cons_succ,List.drop_succ_cons]
   rw [← ih k (by simpa using hk),List.drop_append,Nat.succ_mul]
   rw [List.drop_eq_nil_of_le (by rw [enc_len];omega),List.nil_append,enc_len]
   congr 1;omega
theorem arr_part {n:Nat} {t:Ty} (f:Fin n→t.den) {o m k:Nat} (hk:k<n) (ho:o+m≤t.size):((enc (.arr n t) f).drop (k * t.size+o)).take m=((enc t (f ⟨k,hk⟩)).drop o).take m:=by
 have h:=flatMap_drop f (List.finRange n) k (by grind)
 simp only [List.getElem_finRange,Fin.cast_mk] at h
 rw [enc,← List.drop_drop,h,take_drop_append (by rw [enc_len];grind)]
theorem mul_div_le {o s n:Nat} (h:o / s<n):o - o % s+s≤n * s:=by
 have h1:o / s+1≤n:=h
 have h2:=Nat.mul_le_mul_right s h1
 have h3:=Nat.div_add_mod o s
 rw [Nat.add_mul,Nat.one_mul,Nat.mul_comm] at h2
 omega
theorem partF_enc:∀ (t:Ty) (off:Nat) (w:Option Ty) (u:Ty) (f:t.den→u.den),partF t off w=some ⟨u,f⟩ →
  off+u.size≤t.size∧hit u w=true∧∀ x,enc u (f x)=((enc t x).drop off).take u.size:=by
 have base:∀ (t:Ty) (off:Nat) (w:Option Ty) (u:Ty) (f:t.den→u.den),(if off=0∧hit t w=true then some (⟨t,fun x=>x⟩:(u:Ty)×(t.den→u.den)) else none)=some ⟨u,f⟩ →
   off+u.size≤t.size∧hit u w=true∧∀ x,enc u (f x)=((enc t x).drop off).take u.size:=by
  intro t off w u f h
  split at h
  ·rename_i hc
   cases h
   exact ⟨by omega,hc.2,fun x=>by rw [hc.1,List.drop_zero,List.take_of_length_le (by rw [enc_len];exact Nat.le_refl _)]⟩
  ·cases h
 intro t
 induction t with
 | prod a b iha ihb =>
  intro off w u f h
  simp only [partF] at h
  split at h
  ·rename_i hlt
   obtain ⟨⟨v,g⟩,h1,h2⟩:=Option.map_eq_some_iff.1 h
   cases h2
   obtain ⟨k1,k2,k3⟩:=iha _ _ _ _ h1
   refine ⟨by simp only [Ty.size];omega,k2,fun x=>?_⟩
   simp only [k3,enc]
   rw [take_drop_append (by rw [enc_len];exact k1)]
  ·rename_i hge
   obtain ⟨⟨v,g⟩,h1,h2⟩:=Option.map_eq_some_iff.1 h
   cases h2
   obtain ⟨k1,k2,k3⟩:=ihb _ _ _ _ h1
   refine ⟨by simp only [Ty.size];omega,k2,fun x=>?_⟩
   simp only [k3,enc]
   rw [take_drop_append_r (by rw [enc_len];omega),enc_len]
 | st a ih =>
  intro off w u f h
  simp only [partF] at h
  split at h
  ·rename_i hc
   cases h
   exact ⟨by omega,hc.2,fun x=>by rw [hc.1,List.drop_zero,List.take_of_length_le (by rw [enc_len];exact Nat.le_refl _)]⟩
  ·obtain ⟨⟨v,g⟩,h1,h2⟩:=Option.map_eq_some_iff.1 h
   cases h2
   obtain ⟨k1,k2,k3⟩:=ih _ _ _ _ h1
   exact ⟨k1,k2,fun x=>k3 x⟩
 | arr n t ih =>
  intro off w u f h
  simp only [partF] at h
  split at h
  ·rename_i hc
   cases h
   exact ⟨by omega,hc.2,fun x=>by rw [hc.1,List.drop_zero,List.take_of_length_le (by rw [enc_len];exact Nat.le_refl _)]⟩
  ·split at h
   ·rename_i hd
    obtain ⟨⟨v,g⟩,h1,h2⟩:=Option.map_eq_some_iff.1 h
    cases h2
    obtain ⟨k1,k2,k3⟩:=ih _ _ _ _ h1
    have e:off / t.size * t.size+off % t.size=off:=by rw [Nat.mul_comm];exact Nat.div_add_mod off t.size
    refine ⟨?_,k2,fun x=>?_⟩
    ·have:=mul_div_le hd.2
     have hm:=Nat.mod_le off t.size
     simp only [Ty.size];omega
    ·simp only [k3]
     rw [← arr_part x hd.2 k1,e]
   ·cases h
 | _=>exact base _
theorem wf_part:∀ {t:Ty} {u:Ty} {off:Nat} {w:Option Ty} {f:t.den→u.den},partF t off w=some ⟨u,f⟩→∀ {x:t.den},Val.wf ⟨t,x⟩→Val.wf ⟨u,f x⟩:=by
 have base:∀ {t:Ty} {u:Ty} {off:Nat} {w:Option Ty} {f:t.den→u.den},(if off=0∧hit t w=true then some (⟨t,fun x=>x⟩:(u:Ty)×(t.den→u.den)) else none)=some ⟨u,f⟩→∀ {x:t.den},Val.wf ⟨t,x⟩→Val.wf ⟨u,f x⟩:=by
  intro t u off w f h x hx
  split at h
  ·cases h;grind
  grind
 intro t
 induction t with
 | prod a b iha ihb =>
  intro u off w f h x hx
  simp only [partF] at h
  split at h
  all_goals
   obtain ⟨⟨v,g⟩,h1,h2⟩:=Option.map_eq_some_iff.1 h
   cases h2
  ·exact iha h1 (wf_prod.1 hx).1
  grind [wf_prod]
 | st a ih =>
  intro u off w f h x hx
  simp only [partF] at h
  split at h
  ·cases h;grind
  ·obtain ⟨⟨v,g⟩,h1,h2⟩:=Option.map_eq_some_iff.1 h
   cases h2
   exact ih h1 hx
 | arr n t ih =>
  intro u off w f h x hx
  simp only [partF] at h
  split at h
  ·cases h;grind
  ·split at h
   ·obtain ⟨⟨v,g⟩,h1,h2⟩:=Option.map_eq_some_iff.1 h
    cases h2
    exact ih h1 (hx _)
   grind
 | _=>intro u off w f h x hx;exact base h hx
def updF:(t u:Ty)→Nat→Option ((v:Ty)×(t.den→u.den→v.den))
 | .prod a b,u,off=>if off<a.size then (updF a u off).map fun r=>⟨.prod r.1 b,fun x y=>(r.2 x.1 y,x.2)⟩ else (updF b u (off - a.size)).map fun r=>⟨.prod a r.1,fun x y=>(x.1,r.2 x.2 y)⟩
 | .st a,u,off=>if off=0∧(Ty.st a).like u=true then some ⟨u,fun _ y=>y⟩ else (updF a u off).map fun r=>⟨.st r.1,fun x y=>r.2 x y⟩
 | .arr n t,u,off=>if off=0∧(Ty.arr n t).like u=true then some ⟨u,fun _ y=>y⟩ else
   if h:t.size≠0∧off / t.size<n then match updF t u (off % t.size) with
    | some ⟨v,f⟩=>if hv:v=t then some ⟨.arr n t,fun g y=>fun j=>if j=⟨off / t.size,h.2⟩ then hv ▸ f (g ⟨off / t.size,h.2⟩) y else g j⟩ else none
    | none=>none
   else none
 | .unit,_,_=>none
 | .mp _ _,_,_=>none
 | t,u,off=>if off=0∧t.like u=true then some ⟨u,fun _ y=>y⟩ else none
def over {α:Type} (cs ds:List α) (off:Nat):List α:=cs.take off++ds++cs.drop (off+ds.length)
theorem over_len {α:Type} {cs ds:List α} {off:Nat} (h:off+ds.length≤cs.length):(over cs ds off).length=cs.length:=by
 grind [over]
theorem over_left {α:Type} {a b ds:List α} {off:Nat} (h:off+ds.length≤a.length):over (a++b) ds off=over a ds off++b:=by
 grind [over]
theorem over_right {α:Type} {a b ds:List α} {off:Nat} (h:a.length≤off):over (a++b) ds off=a++over b ds (off - a.length):=by
 simp only [over]
 rw [List.take_append,List.take_of_length_le h,List.drop_append,List.drop_eq_nil_of_le (by omega)]
 simp only [List.nil_append,List.append_assoc]
 rw [show off+ds.length - a.length=off - a.length+ds.length by omega]
theorem over_all {α:Type} {cs ds:List α} (h:cs.length=ds.length):over cs ds 0=ds:=by
 grind [over]
theorem flatMap_upd {n:Nat} {t:Ty} (f:Fin n→t.den) (i:Fin n) (y:t.den):∀ (l:List (Fin n)) (k:Nat) (hk:k<l.length),l[k]=i→l.Nodup →
  (l.flatMap fun j=>enc t (if j=i then y else f j))=over (l.flatMap fun j=>enc t (f j)) (enc t y) (k * t.size):=by
 intro l
 induction l with
 | nil=>grind
 | cons x l ih =>
  intro k hk he hn
  simp only [List.flatMap_cons]
  rw [List.nodup_cons] at hn
  cases k with
  | zero =>
   grind [over_left,enc_len,over_all,List.map_congr_left]
  | succ k =>
   simp only [List.getElem_cons_succ] at he
   have hx:x≠i:=fun e=>hn.1 (by rw [e,← he];exact List.getElem_mem _)
   rw [if_neg hx,ih k (by simpa using hk) he hn.2,over_right (by rw [enc_len,Nat.succ_mul];omega),enc_len,Nat.succ_mul,Nat.add_sub_cancel]
theorem over_over' {α:Type} {A b C c:List α} {p:Nat} (h:p+c.length≤b.length):over (A++(b++C)) (over b c p) A.length=over (A++(b++C)) c (A.length+p):=by
 have hl:=over_len h
 have h1:over (A++(b++C)) (over b c p) A.length=A++(over b c p++C):=by
  grind [over_right,over_left,over_all]
 have h2:over (A++(b++C)) c (A.length+p)=A++(over b c p++C):=by
  rw [over_right (by omega),Nat.add_sub_cancel_left,over_left (by omega)]
 grind
theorem over_over {α:Type} {a b c:List α} {o p:Nat} (h:p+c.length≤b.length) (hb:o+b.length≤a.length) (hs:(a.drop o).take b.length=b):over a (over b c p) o=over a c (o+p):=by
 have e:a=a.take o++(b++a.drop (o+b.length)):=by
  conv=>lhs;rw [← List.take_append_drop o a,← List.take_append_drop b.length (a.drop o)]
  rw [hs,List.drop_drop]
 have ht:(a.take o).length=o:=by rw [List.length_take];omega
 grind [over_over']
theorem arr_upd {n:Nat} {t:Ty} (f:Fin n→t.den) (i:Fin n) (y:t.den):enc (.arr n t) (fun j=>if j=i then y else f j)=over (enc (.arr n t) f) (enc t y) (i.1 * t.size) :=
 flatMap_upd f i y (List.finRange n) i.1 (by simp) (by simp) (List.nodup_finRange n)
theorem updF_enc:∀ (t u:Ty) (off:Nat) (v:Ty) (f:t.den→u.den→v.den),updF t u off=some ⟨v,f⟩ →
  off+u.size≤t.size∧v.size=t.size∧v.ag=t.ag∧∀ x y,enc v (f x y)=over (enc t x) (enc u y) off:=by
 have base:∀ (t u:Ty) (off:Nat) (v:Ty) (f:t.den→u.den→v.den),(if off=0∧t.like u=true then some (⟨u,fun _ y=>y⟩:(v:Ty)×(t.den→u.den→v.den)) else none)=some ⟨v,f⟩ →
   off+u.size≤t.size∧v.size=t.size∧v.ag=t.ag∧∀ x y,enc v (f x y)=over (enc t x) (enc u y) off:=by
  intro t u off v f h
  split at h
  ·rename_i hc
   cases h
   have hl:=Ty.like_size hc.2
   exact ⟨by omega,hl.1.symm,hl.2.symm,fun x y=>by rw [hc.1,over_all (by rw [enc_len,enc_len,hl.1])]⟩
  ·cases h
 intro t
 induction t with
 | prod a b iha ihb =>
  intro u off v f h
  simp only [updF] at h
  split at h
  ·obtain ⟨⟨v',g⟩,h1,h2⟩:=Option.map_eq_some_iff.1 h
   cases h2
   obtain ⟨k1,k2,_,k3⟩:=iha _ _ _ _ h1
   refine ⟨by simp only [Ty.size];omega,by simp only [Ty.size,k2],rfl,fun x y=>?_⟩
   simp only [k3,enc]
   rw [over_left (by rw [enc_len,enc_len];exact k1)]
  ·rename_i hge
   obtain ⟨⟨v',g⟩,h1,h2⟩:=Option.map_eq_some_iff.1 h
   cases h2
   obtain ⟨k1,k2,_,k3⟩:=ihb _ _ _ _ h1
   refine ⟨by simp only [Ty.size];omega,by simp only [Ty.size,k2],rfl,fun x y=>?_⟩
   simp only [k3,enc]
   rw [over_right (by rw [enc_len];omega),enc_len]
 | st a ih =>
  intro u off v f h
  simp only [updF] at h
  split at h
  ·rename_i hc
   cases h
   have hl:=Ty.like_size hc.2
   exact ⟨by omega,hl.1.symm,hl.2.symm,fun x y=>by rw [hc.1,over_all (by rw [enc_len,enc_len,hl.1])]⟩
  ·obtain ⟨⟨v',g⟩,h1,h2⟩:=Option.map_eq_some_iff.1 h
   cases h2
   obtain ⟨k1,k2,_,k3⟩:=ih _ _ _ _ h1
   exact ⟨k1,k2,rfl,fun x y=>k3 x y⟩
 | arr n t ih =>
  intro u off v f h
  simp only [updF] at h
  split at h
  ·rename_i hc
   cases h
   have hl:=Ty.like_size hc.2
   exact ⟨by omega,hl.1.symm,hl.2.symm,fun x y=>by rw [hc.1,over_all (by rw [enc_len,enc_len,hl.1])]⟩
  ·split at h
   ·rename_i hd
    split at h
    ·rename_i v' g h1
     split at h
     ·rename_i hv
      subst hv
      cases h
      obtain ⟨k1,k2,_,k3⟩:=ih _ _ _ _ h1
      have e:off / v'.size * v'.size+off % v'.size=off:=by rw [Nat.mul_comm];exact Nat.div_add_mod off v'.size
      have:=mul_div_le hd.2
      have hm:=Nat.mod_le off v'.size
      refine ⟨by simp only [Ty.size];omega,rfl,rfl,fun x y=>?_⟩
      rw [arr_upd,k3]
      simp only
      rw [over_over (by rw [enc_len,enc_len];exact k1) (by rw [enc_len,enc_len];simp only [Ty.size];omega),e]
      have:=arr_part x (o:=0) (m:=v'.size) hd.2 (by omega)
      simp only [Nat.add_zero,List.drop_zero] at this
      rw [enc_len,this,List.take_of_length_le (by rw [enc_len];exact Nat.le_refl _)]
     ·cases h
    ·cases h
   ·cases h
 | unit=>intro u off v f h;simp [updF] at h
 | mp k t=>intro u off v f h;simp [updF] at h
 | _=>exact base _
theorem wf_upd:∀ {t u v:Ty} {off:Nat} {f:t.den→u.den→v.den},updF t u off=some ⟨v,f⟩→∀ {x:t.den} {y:u.den},Val.wf ⟨t,x⟩→Val.wf ⟨u,y⟩→Val.wf ⟨v,f x y⟩:=by
 have base:∀ {t u v:Ty} {off:Nat} {f:t.den→u.den→v.den},(if off=0∧t.like u=true then some (⟨u,fun _ y=>y⟩:(v:Ty)×(t.den→u.den→v.den)) else none)=some ⟨v,f⟩→∀ {x:t.den} {y:u.den},Val.wf ⟨t,x⟩→Val.wf ⟨u,y⟩→Val.wf ⟨v,f x y⟩:=by
  intro t u v off f h x y hx hy
  split at h
  ·cases h;grind
  grind
 intro t
 induction t with
 | prod a b iha ihb =>
  intro u v off f h x y hx hy
  simp only [updF] at h
  split at h
  all_goals
   obtain ⟨⟨v',g⟩,h1,h2⟩:=Option.map_eq_some_iff.1 h
   cases h2
  ·exact ⟨iha h1 hx.1 hy,hx.2⟩
  ·exact ⟨hx.1,ihb h1 hx.2 hy⟩
 | st a ih =>
  intro u v off f h x y hx hy
  simp only [updF] at h
  split at h
  ·simp_all
  ·obtain ⟨⟨v',g⟩,h1,h2⟩:=Option.map_eq_some_iff.1 h
   cases h2
   exact ih h1 (x:=x) (y:=y) hx hy
 | arr n t ih =>
  intro u v off f h x y hx hy
  simp only [updF] at h
  split at h
  ·simp_all
  ·split at h
   ·split at h
    ·rename_i v' g h1
     split at h
     ·rename_i hv
      subst hv
      cases h
      intro j
      show wfT _ (if _ then _ else _)
      split
      ·exact ih h1 (hx _) hy
      ·exact hx j
     grind
    grind
   grind
 | unit=>grind [updF]
 | mp k t=>grind [updF]
 | _=>intro u v off f h x y hx hy;exact base h hx hy
end Go.Tx
namespace Go.Tx
open Go Go.Ab
def eqT:(t:Ty)→Option (t.den→t.den→Bool)
 | .int _=>some fun x y=>x==y
 | .bool=>some fun x y=>x==y
 | .unit=>some fun _ _=>true
 | .prod a b=>match eqT a,eqT b with | some f,some g=>some fun x y=>f x.1 y.1&&g x.2 y.2 | _,_=>none
 | .st a=>match eqT a with | some f=>some fun x y=>f x y | none=>none
 | .arr n t=>match eqT t with | some f=>some fun x y=>(List.finRange n).all fun i=>f (x i) (y i) | none=>none
 | _=>none
def kindsT:Ty→Option (List Bool)
 | .int _=>some [false]
 | .bool=>some [true]
 | .unit=>some []
 | .prod a b=>match kindsT a,kindsT b with | some x,some y=>some (x++y) | _,_=>none
 | .st a=>kindsT a
 | .arr n t=>(kindsT t).map fun ks=>(List.replicate n ks).flatten
 | _=>none
theorem kindsT_len:∀ {t:Ty} {ks:List Bool},kindsT t=some ks→ks.length=t.size:=by
 intro t
 induction t with
 | prod a b iha ihb =>
  grind [kindsT,Ty.size]
 | st a ih=>intro ks h;exact ih h
 | arr n t ih =>
  intro ks h
  obtain ⟨k,h1,rfl⟩:=Option.map_eq_some_iff.1 h
  simp [Ty.size,ih h1]
 | int k=>intro ks h;cases h;rfl
 | bool=>intro ks h;cases h;rfl
 | unit=>intro ks h;cases h;rfl
 | _=>grind [kindsT]
theorem eqDs_app {ks bs:List Bool} {a b c d:List D} {r s:Bool} (h1:eqDs ks a b=some r) (h2:eqDs bs c d=some s) (ha:a.length=ks.length) (hb:b.length=ks.length):eqDs (ks++bs) (a++c) (b++d)=some (r&&s):=by
 induction ks generalizing a b r with
 | nil =>
  grind [eqDs]
 | cons k ks ih =>
  cases a with
  | nil=>grind
  | cons x a=>cases b with
   | nil=>grind
   | cons y b =>
    have ha' : a.length=ks.length:=by grind
    have hb' : b.length=ks.length:=by grind
    rw [List.cons_append,List.cons_append,List.cons_append]
    cases k with
    | true =>
     cases x with
     | v x=>cases x with
      | bool p=>cases y with
       | v y=>cases y with
        | bool q =>
         grind [eqDs]
        | _=>simp [eqDs] at h1
       | _=>simp [eqDs] at h1
      | _=>simp [eqDs] at h1
     | _=>simp [eqDs] at h1
    | false =>
     cases x with
     | v x=>cases x with
      | int kp p=>cases y with
       | v y=>cases y with
        | int kq q =>
         grind [eqDs]
        | _=>simp [eqDs] at h1
       | _=>simp [eqDs] at h1
      | _=>simp [eqDs] at h1
     | _=>simp [eqDs] at h1
theorem eqT_arr {t:Ty} {ks:List Bool} {f:t.den→t.den→Bool} (hk:kindsT t=some ks) (h:∀ x y,eqDs ks (enc t x) (enc t y)=some (f x y)) {n:Nat} (x y:Fin n→t.den):∀ l:List (Fin n),
  eqDs (List.replicate l.length ks).flatten (l.flatMap fun i=>enc t (x i)) (l.flatMap fun i=>enc t (y i))=some (l.all fun i=>f (x i) (y i)):=by
 intro l
 induction l with
 | nil=>rfl
 | cons i l ih =>
  simp only [List.length_cons,List.replicate_succ,List.flatten_cons,List.flatMap_cons,List.all_cons]
  grind [eqDs_app,enc_len,kindsT_len]
theorem eqT_ok:∀ {t:Ty} {ks:List Bool} {f:t.den→t.den→Bool},kindsT t=some ks→eqT t=some f→∀ x y,eqDs ks (enc t x) (enc t y)=some (f x y):=by
 intro t
 induction t with
 | prod a b iha ihb =>
  intro ks f hk hf x y
  simp only [kindsT] at hk
  simp only [eqT] at hf
  split at hk
  ·rename_i k1 k2 h1 h2
   split at hf
   ·rename_i f1 f2 g1 g2
    cases hk;cases hf
    exact eqDs_app (iha h1 g1 _ _) (ihb h2 g2 _ _) (by rw [enc_len,kindsT_len h1]) (by rw [enc_len,kindsT_len h1])
   grind
  grind
 | st a ih =>
  intro ks f hk hf x y
  simp only [eqT] at hf
  split at hf
  ·rename_i g hg
   cases hf
   exact ih hk hg x y
  grind
 | arr n t ih =>
  intro ks f hk hf x y
  obtain ⟨k,h1,rfl⟩:=Option.map_eq_some_iff.1 hk
  simp only [eqT] at hf
  split at hf
  ·rename_i g hg
   cases hf
   have:=eqT_arr h1 (ih h1 hg) x y (List.finRange n)
   simp only [List.length_finRange] at this
   exact this
  grind
 | int k=>intro ks f hk hf x y;cases hk;cases hf;simp [enc,eqDs]
 | bool=>intro ks f hk hf x y;cases hk;cases hf;simp [enc,eqDs]
 | unit=>intro ks f hk hf x y;cases hk;cases hf;rfl
 | _=>grind [kindsT]
inductive P1 where
 | part (off:Nat) (w:Option Ty) | len | neg | not | conv (k:IntKind) | mk | fst | snd | some1 | nonneg | sort
 deriving DecidableEq
inductive P2 where
 | bin (op:BinOp) | pair | upd (off:Nat) | mget | mhas | mput
 deriving DecidableEq
def prim1 (o:P1) (t:Ty):Option ((u:Ty)×(t.den→u.den)) :=
 match o,t with
 | .part off w,t=>partF t off w
 | .len,.sl _=>some ⟨.int .i64,fun l=>(l.length:Int)⟩
 | .len,.str=>some ⟨.int .i64,fun (s:ByteArray)=>(s.size:Int)⟩
 | .neg,.int k=>some ⟨.int k,fun (n:Int)=>k.wrap (0 - n)⟩
 | .not,.bool=>some ⟨.bool,fun (b:Bool)=>!b⟩
 | .conv k,.int _=>some ⟨.int k,fun (n:Int)=>k.wrap n⟩
 | .mk,a=>some ⟨.st a,fun x=>x⟩
 | .fst,.prod a _=>some ⟨a,fun x=>x.1⟩
 | .snd,.prod _ b=>some ⟨b,fun x=>x.2⟩
 | .some1,.sl _=>some ⟨.bool,fun l=>!l.isEmpty⟩
 | .sort,.sl (.int k)=>some ⟨.sl (.int k),fun (l:List Int)=>l.mergeSort (fun a b=>decide (a≤b))⟩
 | .nonneg,.int _=>some ⟨.bool,fun (n:Int)=>decide (0≤n)⟩
 | _,_=>none
def binF (op:BinOp) (k:IntKind):Option ((u:Ty)×(Int→Int→u.den)) :=
 match op with
 | .eql=>some ⟨.bool,fun a b=>a==b⟩
 | .neq=>some ⟨.bool,fun a b=>a != b⟩
 | .lss=>some ⟨.bool,fun a b=>decide (a<b)⟩
 | .leq=>some ⟨.bool,fun a b=>decide (a≤b)⟩
 | .gtr=>some ⟨.bool,fun a b=>decide (a>b)⟩
 | .geq=>some ⟨.bool,fun a b=>decide (a≥b)⟩
 | .add=>some ⟨.int k,fun a b=>k.wrap (a+b)⟩
 | .sub=>some ⟨.int k,fun a b=>k.wrap (a - b)⟩
 | .mul=>some ⟨.int k,fun a b=>k.wrap (a * b)⟩
 | .and=>some ⟨.int k,fun a b=>andI k a b⟩
 | .or=>some ⟨.int k,fun a b=>orI k a b⟩
 | .xor=>some ⟨.int k,fun a b=>xorI k a b⟩
 | .andNot=>some ⟨.int k,fun a b=>andNotI k a b⟩
 | _=>none
def mgetV {α:Type} (z:α) (l:List (Int×α)) (a:Int):α:=match l with
 | []=>z
 | (b,c)::l=>if a=b then c else mgetV z l a
def mhasV {α:Type} (l:List (Int×α)) (a:Int):Bool:=match l with
 | []=>false
 | (b,_)::l=>if a=b then true else mhasV l a
def mputV {α:Type} (l:List (Int×α)) (a:Int) (c:α):List (Int×α):=match l with
 | []=>[(a,c)]
 | (b,e)::l=>if a=b then (a,c)::l else (b,e)::mputV l a c
def prim2 (o:P2) (t u:Ty):Option ((v:Ty)×(t.den→u.den→v.den)) :=
 match o,t,u with
 | .bin op,.int k,.int q=>if k=q then binF op k else none
 | .bin .eql,.bool,.bool=>some ⟨.bool,fun a b=>a==b⟩
 | .bin .neq,.bool,.bool=>some ⟨.bool,fun a b=>!(a==b)⟩
 | .bin .eql,.str,.str=>some ⟨.bool,fun (a b:ByteArray)=>a.toList==b.toList⟩
 | .bin .neq,.str,.str=>some ⟨.bool,fun (a b:ByteArray)=>!(a.toList==b.toList)⟩
 | .bin op,.st a,.st b=>if h:b=a then (match eqT a,op with
   | some f,.eql=>some ⟨.bool,fun x (y:b.den)=>f x (h ▸ y)⟩
   | some f,.neq=>some ⟨.bool,fun x (y:b.den)=>!(f x (h ▸ y))⟩
   | _,_=>none) else none
 | .bin op,.arr n a,.arr m b=>if h:Ty.arr m b=Ty.arr n a then (match eqT (.arr n a),op with
   | some f,.eql=>some ⟨.bool,fun x (y:(Ty.arr m b).den)=>f x (h ▸ y)⟩
   | some f,.neq=>some ⟨.bool,fun x (y:(Ty.arr m b).den)=>!(f x (h ▸ y))⟩
   | _,_=>none) else none
 | .pair,t,u=>some ⟨.prod t u,fun x y=>(x,y)⟩
 | .upd off,t,u=>updF t u off
 | .mget,.mp k t,.int q=>if k=q then some ⟨t,fun l a=>mgetV t.zero l a⟩ else none
 | .mhas,.mp k _,.int q=>if k=q then some ⟨.bool,fun l a=>mhasV l a⟩ else none
 | .mput,.mp k t,.prod (.int q) u=>if h:u=t then (if k=q then some ⟨.mp k t,fun l x=>mputV l x.1 (h ▸ x.2)⟩ else none) else none
 | _,_,_=>none
inductive E where
 | var (i:Nat) | int (k:IntKind) (n:Int) | bool (b:Bool) | str (s:ByteArray) | cst (c:Cst) | zero (t:Ty) | p1 (o:P1) (x:E) | p2 (o:P2) (x y:E) | pick (c x y:E)
 deriving Inhabited
def app1 (o:P1):Option Val→Option Val
 | some v=>(prim1 o v.1).map fun r=>⟨r.1,r.2 v.2⟩
 | none=>none
def app2 (o:P2):Option Val→Option Val→Option Val
 | some v,some u=>(prim2 o v.1 u.1).map fun r=>⟨r.1,r.2 v.2 u.2⟩
 | _,_=>none
def appP:Option Val→Option Val→Option Val→Option Val
 | some ⟨.bool,c⟩,some v,some u=>if h:u.1=v.1 then some ⟨v.1,if c=true then v.2 else h ▸ u.2⟩ else none
 | _,_,_=>none
def E.val (env:List Val):E→Option Val
 | .var i=>env[i]?
 | .int k n=>if inR k n=true then some ⟨.int k,n⟩ else none
 | .bool b=>some ⟨.bool,b⟩
 | .str s=>if s.size≤9223372036854775807 then some ⟨.str,s⟩ else none
 | .cst c=>some ⟨.cst c,()⟩
 | .zero t=>some ⟨t,t.zero⟩
 | .p1 o x=>app1 o (x.val env)
 | .p2 o x y=>app2 o (x.val env) (y.val env)
 | .pick c x y=>appP (c.val env) (x.val env) (y.val env)
def EnvWf (env:List Val):Prop:=∀ v∈env,v.wf
theorem prim1_wf {o:P1} {t u:Ty} {f:t.den→u.den} (h:prim1 o t=some ⟨u,f⟩) {x:t.den} (hx:Val.wf ⟨t,x⟩):Val.wf ⟨u,f x⟩:=by
 unfold prim1 at h
 split at h
 ·exact wf_part h hx
 ·cases h;have:=(wf_sl.1 hx).1;rw [wf_int];simp [inR];omega
 ·cases h;have:=wf_str.1 hx;rw [wf_int];simp [inR];omega
 ·cases h;exact wf_int.2 (inR_wrap _ _)
 ·cases h;exact wf_bool
 ·cases h;exact wf_int.2 (inR_wrap _ _)
 ·cases h;exact wf_st.2 hx
 ·cases h;exact (wf_prod.1 hx).1
 ·cases h;exact (wf_prod.1 hx).2
 ·cases h;exact wf_bool
 ·cases h
  grind [wf_sl,List.length_mergeSort,List.mem_mergeSort]
 ·cases h;exact wf_bool
 grind
theorem binF_wf {op:BinOp} {k:IntKind} {u:Ty} {f:Int→Int→u.den} (h:binF op k=some ⟨u,f⟩) (x y:Int):Val.wf ⟨u,f x y⟩:=by
 unfold binF at h
 split at h <;> first
  | (cases h;exact wf_bool)
  | (cases h;exact wf_int.2 (inR_wrap _ _))
  | grind
theorem mget_wf {t:Ty} {l:List (Int×t.den)} {a:Int} (h:∀ x∈l,Val.wf ⟨t,x.2⟩):Val.wf ⟨t,mgetV t.zero l a⟩:=by
 induction l with
 | nil=>exact wf_zero t
 | cons x l ih =>
  grind [mgetV]
theorem mput_wf {t:Ty} {l:List (Int×t.den)} {a:Int} {c:t.den} (h:∀ x∈l,Val.wf ⟨t,x.2⟩) (hc:Val.wf ⟨t,c⟩):∀ x∈mputV l a c,Val.wf ⟨t,x.2⟩:=by
 induction l with
 | nil=>grind [mputV]
 | cons y l ih =>
  grind [mputV]
theorem prim2_wf {o:P2} {t u v:Ty} {f:t.den→u.den→v.den} (h:prim2 o t u=some ⟨v,f⟩) {x:t.den} {y:u.den} (hx:Val.wf ⟨t,x⟩) (hy:Val.wf ⟨u,y⟩):Val.wf ⟨v,f x y⟩:=by
 unfold prim2 at h
 split at h
 ·split at h
  ·exact binF_wf h x y
  grind
 ·cases h;exact wf_bool
 ·cases h;exact wf_bool
 ·cases h;exact wf_bool
 ·cases h;exact wf_bool
 ·split at h
  ·split at h
   ·cases h;exact wf_bool
   ·cases h;exact wf_bool
   grind
  grind
 ·split at h
  ·split at h
   ·cases h;exact wf_bool
   ·cases h;exact wf_bool
   grind
  grind
 ·cases h;exact ⟨hx,hy⟩
 ·exact wf_upd h hx hy
 ·split at h
  ·cases h;exact mget_wf (wf_mp.1 hx)
  grind
 ·split at h
  ·cases h;exact wf_bool
  grind
 ·split at h
  ·rename_i e
   subst e
   split at h
   ·cases h;exact mput_wf (wf_mp.1 hx) (wf_prod.1 hy).2
   grind
  grind
 grind
theorem E.val_wf {env:List Val} (he:EnvWf env):∀ {x:E} {v:Val},x.val env=some v→v.wf:=by
 intro x
 induction x with
 | var i=>intro v h;exact he v (List.mem_of_getElem? h)
 | int k n =>
  grind [E.val,wf_int]
 | bool b=>intro v h;cases h;exact wf_bool
 | str s =>
  grind [E.val,wf_str]
 | cst c=>intro v h;cases h;exact wf_cst
 | zero t=>intro v h;cases h;exact wf_zero t
 | p1 o x ih =>
  intro v h
  simp only [E.val,app1] at h
  split at h
  ·grind [Option.map_eq_some_iff,prim1_wf]
  grind
 | p2 o x y ihx ihy =>
  intro v h
  simp only [E.val,app2] at h
  split at h
  ·grind [Option.map_eq_some_iff,prim2_wf]
  grind
 | pick c x y _ ihx ihy =>
  intro v h
  simp only [E.val,appP] at h
  split at h
  ·grind
  grind
theorem E.val_app {env:List Val} (l:List Val):∀ {x:E} {v:Val},x.val env=some v→x.val (env++l)=some v:=by
 intro x
 induction x with
 | var i=>grind [E.val]
 | p1 o x ih =>
  intro v h
  simp only [E.val,app1] at h ⊢
  split at h
  ·grind
  grind
 | p2 o x y ihx ihy =>
  intro v h
  simp only [E.val,app2] at h ⊢
  split at h
  ·grind
  grind
 | pick c x y ihc ihx ihy =>
  intro v h
  simp only [E.val,appP] at h ⊢
  split at h
  ·grind
  grind
 | _=>intro v h;exact h
def E.lt (n:Nat):E→Bool
 | .var i=>decide (i<n)
 | .p1 _ x=>x.lt n
 | .p2 _ x y=>x.lt n&&y.lt n
 | .pick c x y=>c.lt n&&x.lt n&&y.lt n
 | _=>true
theorem E.val_lt {env:List Val} (l:List Val):∀ {x:E},x.lt env.length=true→x.val (env++l)=x.val env:=by
 intro x
 induction x with
 | var i=>grind [E.lt,E.val]
 | p1 o x ih=>grind [E.lt,E.val]
 | p2 o x y ihx ihy=>grind [E.lt,E.val]
 | pick c x y ihc ihx ihy=>grind [E.lt,E.val]
 | _=>intro h;rfl
def E.same:E→E→Bool
 | .var i,.var j=>Nat.beq i j
 | .int k n,.int q m=>decide (k=q)&&decide (n=m)
 | .bool a,.bool b=>a==b
 | .str a,.str b=>decide (a=b)
 | .cst a,.cst b=>decide (a=b)
 | .zero a,.zero b=>decide (a=b)
 | .p1 o x,.p1 p y=>x.same y&&decide (o=p)
 | .p2 o x y,.p2 p u v=>x.same u&&y.same v&&decide (o=p)
 | .pick a b c,.pick d e f=>a.same d&&b.same e&&c.same f
 | _,_=>false
theorem E.same_eq:∀ {x y:E},x.same y=true→x=y:=by
 intro x
 induction x <;> intro y h <;> cases y <;> simp only [E.same,Bool.false_eq_true,Bool.and_eq_true,decide_eq_true_eq,beq_iff_eq] at h
 case var.var i j=>simp_all
 case int.int k n q m=>grind
 case bool.bool a b=>rw [h]
 case str.str a b=>rw [h]
 case cst.cst a b=>rw [h]
 case zero.zero a b=>rw [h]
 case p1.p1 o x ih p y=>grind
 case p2.p2 o x y ihx ihy p u v=>grind
 grind
def E.size:E→Nat
 | .p1 _ x=>x.size+1
 | .p2 _ x y=>x.size+y.size+1
 | .pick c x y=>c.size+x.size+y.size+1
 | _=>1
def ty1 (o:P1) (t:Ty):Option Ty:=(prim1 o t).map (·.1)
def ty2 (o:P2) (t u:Ty):Option Ty:=(prim2 o t u).map (·.1)
def tyE (Γ:List Ty):E→Option Ty
 | .var i=>Γ[i]?
 | .int k n=>if inR k n=true then some (.int k) else none
 | .bool _=>some .bool
 | .str s=>if s.size≤9223372036854775807 then some .str else none
 | .cst c=>some (.cst c)
 | .zero t=>some t
 | .p1 o x=>match tyE Γ x with | some t=>ty1 o t | none=>none
 | .p2 o x y=>match tyE Γ x,tyE Γ y with | some t,some u=>ty2 o t u | _,_=>none
 | .pick c x y=>match tyE Γ c,tyE Γ x,tyE Γ y with | some .bool,some t,some u=>if u=t then some t else none | _,_,_=>none
theorem val1 {env:List Val} {o:P1} {t u:Ty} {x:E} {a:t.den} (h:ty1 o t=some u) (hx:x.val env=some ⟨t,a⟩):∃ f,prim1 o t=some ⟨u,f⟩∧(E.p1 o x).val env=some ⟨u,f a⟩:=by
 obtain ⟨⟨v,f⟩,h1,h2⟩:=Option.map_eq_some_iff.1 h
 simp only at h2;subst h2
 grind [E.val,app1]
theorem val2 {env:List Val} {o:P2} {t u v:Ty} {x y:E} {a:t.den} {b:u.den} (h:ty2 o t u=some v) (hx:x.val env=some ⟨t,a⟩) (hy:y.val env=some ⟨u,b⟩):∃ f,prim2 o t u=some ⟨v,f⟩∧(E.p2 o x y).val env=some ⟨v,f a b⟩:=by
 obtain ⟨⟨w,f⟩,h1,h2⟩:=Option.map_eq_some_iff.1 h
 simp only at h2;subst h2
 grind [E.val,app2]
theorem pick_val {env:List Val} {c x z:E} {t:Ty} {b:Bool} {a1 a2:t.den} (hc:c.val env=some ⟨.bool,b⟩) (hx:x.val env=some ⟨t,a1⟩) (hz:z.val env=some ⟨t,a2⟩):(E.pick c x z).val env=some ⟨t,if b=true then a1 else a2⟩:=by
 grind [E.val,appP]
theorem tyE_ok {env:List Val} {Γ:List Ty} (hg:env.map (·.1)=Γ):∀ {x:E} {t:Ty},tyE Γ x=some t→∃ a,x.val env=some ⟨t,a⟩:=by
 intro x
 induction x with
 | var i =>
  intro t h
  simp only [tyE,← hg,List.getElem?_map] at h
  obtain ⟨⟨u,a⟩,h1,h2⟩:=Option.map_eq_some_iff.1 h
  simp only at h2;subst h2
  exact ⟨a,h1⟩
 | int k n =>
  simp_all [tyE,E.val]
 | str s =>
  simp_all [tyE,E.val]
 | bool b=>intro t h;cases h;exact ⟨b,rfl⟩
 | cst c=>intro t h;cases h;exact ⟨(),rfl⟩
 | zero u=>intro t h;cases h;exact ⟨_,rfl⟩
 | p1 o x ih =>
  grind [tyE,val1]
 | p2 o x y ihx ihy =>
  grind [tyE,val2]
 | pick c x y ihc ihx ihy =>
  grind [tyE,pick_val]
end Go.Tx
namespace Go.Tx
open Go Go.Ab
inductive R2 where
 | idx | aidx | sidx | par (op:BinOp) | app (bytes:Nat) | rep (bytes:Nat) | cpy
inductive R3 where
 | slc | aset | lset | ins (bytes:Nat) | del
def rel2 (o:R2) (t u:Ty):Option ((v:Ty)×(t.den→u.den→Option v.den)) :=
 match o,t,u with
 | .idx,.sl t,.int _=>some ⟨t,fun l (i:Int)=>if 0≤i then l[i.toNat]? else none⟩
 | .aidx,.arr n t,.int _=>some ⟨t,fun f (i:Int)=>if h:0≤i∧i.toNat<n then some (f ⟨i.toNat,h.2⟩) else none⟩
 | .sidx,.str,.int _=>some ⟨.int .u8,fun (s:ByteArray) (i:Int)=>if 0≤i then (s[i.toNat]?).map fun c=>(c.toNat:Int) else none⟩
 | .par .quo,.int k,.int q=>if k=q then some ⟨.int k,fun (a b:Int)=>if b≠0 then some (k.wrap (a.tdiv b)) else none⟩ else none
 | .par .rem,.int k,.int q=>if k=q then some ⟨.int k,fun (a b:Int)=>if b≠0 then some (a.tmod b) else none⟩ else none
 | .par .shl,.int k,.int _=>some ⟨.int k,fun (a b:Int)=>if 0≤b then some (k.wrap (a * 2 ^ (min b.toNat k.bits))) else none⟩
 | .par .shr,.int k,.int _=>some ⟨.int k,fun (a b:Int)=>if 0≤b then some (a.fdiv (2 ^ (min b.toNat k.bits))) else none⟩
 | .app bytes,.sl t,.sl u=>if h:u=t then (if bytes≠0 then some ⟨.sl t,fun a (b:List u.den)=>if (a.length+b.length) * bytes≤140737488355328 then some (a++(h ▸ b:List t.den)) else none⟩ else none) else none
 | .rep bytes,t,.int _=>if bytes≠0 then some ⟨.sl t,fun z (n:Int)=>if 0≤n∧n.toNat * bytes≤140737488355328 then some (List.replicate n.toNat z) else none⟩ else none
 | .cpy,.sl t,.sl u=>if h:u=t then some ⟨.sl t,fun a (b:List u.den)=>some ((h ▸ b:List t.den).take a.length++a.drop b.length)⟩ else none
 | _,_,_=>none
def rel3 (o:R3) (t u v:Ty):Option ((w:Ty)×(t.den→u.den→v.den→Option w.den)) :=
 match o,t,u,v with
 | .slc,.sl t,.int _,.int _=>some ⟨.sl t,fun l (lo hi:Int)=>if 0≤lo∧lo≤hi∧hi≤l.length then some ((l.take hi.toNat).drop lo.toNat) else none⟩
 | .aset,.arr n t,.int _,v=>if h:v=t then some ⟨.arr n t,fun f (i:Int) (x:v.den)=>if hi:0≤i∧i.toNat<n then some (fun j=>if j=⟨i.toNat,hi.2⟩ then (h ▸ x:t.den) else f j) else none⟩ else none
 | .lset,.sl t,.int _,v=>if h:v=t then some ⟨.sl t,fun l (i:Int) (x:v.den)=>if 0≤i∧i.toNat<l.length then some (l.set i.toNat (h ▸ x:t.den)) else none⟩ else none
 | .ins bytes,.sl t,.int _,.sl u=>if h:u=t then (if bytes≠0 then some ⟨.sl t,fun l (i:Int) (ys:List u.den)=>if 0≤i∧i≤l.length∧(l.length+ys.length) * bytes≤140737488355328 then some (l.take i.toNat++(h ▸ ys:List t.den)++l.drop i.toNat) else none⟩ else none) else none
 | .del,.sl t,.int _,.int _=>some ⟨.sl t,fun l (i j:Int)=>if 0≤i∧i<j∧j≤l.length then some (l.take i.toNat++l.drop j.toNat) else none⟩
 | _,_,_,_=>none
inductive B where
 | lets (x:E) | guard (c:E) | r2 (o:R2) (x y:E) | r3 (o:R3) (x y z:E) | call (g:Nat) (args:List E) | list (t:Ty) (es:List E) | ifb (gs:List E) (b:B) (t:Ty)
def castL (t:Ty):List Val→Option (List t.den)
 | []=>some []
 | v::vs=>if h:v.1=t then (castL t vs).map fun l=>(h ▸ v.2)::l else none
def holds (env:List Val):List E→Option Bool
 | []=>some true
 | g::gs=>match g.val env,holds env gs with
  | some ⟨.bool,b⟩,some r=>some (b&&r)
  | _,_=>none
def evs (env:List Val):List E→Option (List Val)
 | []=>some []
 | e::es=>match e.val env,evs env es with
  | some v,some vs=>some (v::vs)
  | _,_=>none
abbrev Calls':=Nat→List Val→Val→Prop
def B.ok (CS:Calls') (env:List Val) (v:Val):B→Prop
 | .lets x=>x.val env=some v
 | .guard c=>c.val env=some ⟨.bool,true⟩∧v=⟨.unit,()⟩
 | .r2 o x y=>∃ a b r c,x.val env=some a∧y.val env=some b∧rel2 o a.1 b.1=some r∧r.2 a.2 b.2=some c∧v=⟨r.1,c⟩
 | .r3 o x y z=>∃ a b d r c,x.val env=some a∧y.val env=some b∧z.val env=some d∧rel3 o a.1 b.1 d.1=some r∧r.2 a.2 b.2 d.2=some c∧v=⟨r.1,c⟩
 | .call g args=>∃ vs,evs env args=some vs∧CS g vs v
 | .list t es=>∃ vs l,evs env es=some vs∧castL t vs=some l∧es.length≤16777216∧v=⟨.sl t,l⟩
 | .ifb gs b t=>∃ c,holds env gs=some c∧(c=true→b.ok CS env v∧v.1=t)∧(c=false→v=⟨t,t.zero⟩)
inductive T where
 | fail | hole (i:Nat) | jump (j:Nat) (es:List E) | bind (b:B) (t:Ty) (k:T) | ite (c:E) (x y:T)
 | letj (ps:List Ty) (k body:T)
 | loop (ps:List Ty) (init:List E) (body:T)
 | range (ps:List Ty) (init:List E) (l:E) (body done:T)
 deriving Inhabited
abbrev Jt:=Nat→List Val→Prop
def consJ (K:List Val→Prop) (J:Jt):Jt
 | 0=>K
 | j+1=>J j
def repeatN (ps:List Ty) (F:(List Val→Prop)→List Val→Prop):Nat→List Val→Prop
 | 0,_=>False
 | n+1,vs=>vs.map (·.1)=ps∧F (repeatN ps F n) vs
def rangeN {α:Type} (ps:List Ty) (F:(List Val→Prop)→Int→α→List Val→Prop) (done:List Val→Prop):List α→Int→List Val→Prop
 | [],_,vs=>vs.map (·.1)=ps∧done vs
 | x::l,i,vs=>vs.map (·.1)=ps∧F (rangeN ps F done l (i+1)) i x vs
def T.sat (CS:Calls'):T→Jt→(Nat→List Val→Prop)→List Val→Prop
 | .fail,_,_,_=>False
 | .hole i,_,Q,env=>Q i env
 | .jump j es,J,_,env=>∃ vs,evs env es=some vs∧J j vs
 | .bind b t k,J,Q,env=>∃ v:Val,v.1=t∧b.ok CS env v∧k.sat CS J Q (env++[v])
 | .ite c x y,J,Q,env=>∃ b,c.val env=some ⟨.bool,b⟩∧(b=true→x.sat CS J Q env)∧(b=false→y.sat CS J Q env)
 | .letj ps k body,J,Q,env=>body.sat CS (consJ (fun vs=>vs.map (·.1)=ps∧k.sat CS J Q (env++vs)) J) Q env
 | .loop ps init body,J,Q,env=>∃ n vs,evs env init=some vs∧repeatN ps (fun again vs=>body.sat CS (consJ again J) Q (env++vs)) n vs
 | .range ps init l body done,J,Q,env=>∃ (t:Ty) (es:List t.den) (vs:List Val),l.val env=some ⟨.sl t,es⟩∧evs env init=some vs ∧
   rangeN ps (fun again i x vs=>body.sat CS (consJ again J) Q (env++vs++[⟨.int .i64,i⟩,⟨t,x⟩])) (fun vs=>done.sat CS J Q (env++vs)) es 0 vs
section
variable {CS:Calls'}
theorem repeatN_mono {ps:List Ty} {F G:(List Val→Prop)→List Val→Prop} (h:∀ K K' vs,(∀ x,K x→K' x)→F K vs→G K' vs):∀ n vs,repeatN ps F n vs→repeatN ps G n vs
 | 0,_,h'=>h'
 | n+1,vs,h'=>⟨h'.1,h _ _ _ (repeatN_mono h n) h'.2⟩
theorem rangeN_mono {α:Type} {ps:List Ty} {F G:(List Val→Prop)→Int→α→List Val→Prop} {d e:List Val→Prop} (h:∀ K K' i x vs,(∀ x,K x→K' x)→F K i x vs→G K' i x vs) (hd:∀ vs,d vs→e vs):∀ l i vs,rangeN ps F d l i vs→rangeN ps G e l i vs
 | [],_,vs,h'=>⟨h'.1,hd _ h'.2⟩
 | _::l,i,vs,h'=>⟨h'.1,h _ _ _ _ _ (rangeN_mono h hd l (i+1)) h'.2⟩
theorem consJ_mono {K K' : List Val→Prop} {J J' : Jt} (hK:∀ vs,K vs→K' vs) (hJ:∀ j vs,J j vs→J' j vs):∀ j vs,consJ K J j vs→consJ K' J' j vs
 | 0,vs,h=>hK vs h
 | j+1,vs,h=>hJ j vs h
theorem T.sat_mono:∀ {t:T} {J J' : Jt} {Q Q' : Nat→List Val→Prop} {env:List Val},(∀ j vs,J j vs→J' j vs)→(∀ i e,Q i e→Q' i e)→t.sat CS J Q env→t.sat CS J' Q' env:=by
 intro t
 induction t with
 | fail=>intro _ _ _ _ _ _ _ h;exact h
 | hole i=>intro _ _ _ _ _ _ hQ h;exact hQ _ _ h
 | jump j es=>intro _ _ _ _ _ hJ _ h;obtain ⟨vs,h1,h2⟩:=h;exact ⟨vs,h1,hJ _ _ h2⟩
 | bind b t k ih=>intro _ _ _ _ _ hJ hQ h;obtain ⟨v,h0,h1,h2⟩:=h;exact ⟨v,h0,h1,ih hJ hQ h2⟩
 | ite c x y ihx ihy=>intro _ _ _ _ _ hJ hQ h;obtain ⟨b,h1,h2,h3⟩:=h;exact ⟨b,h1,fun e=>ihx hJ hQ (h2 e),fun e=>ihy hJ hQ (h3 e)⟩
 | letj ps k body ihk ihb=>intro _ _ _ _ _ hJ hQ h;exact ihb (consJ_mono (fun vs hv=>⟨hv.1,ihk hJ hQ hv.2⟩) hJ) hQ h
 | loop ps init body ih =>
  intro _ _ _ _ _ hJ hQ h
  obtain ⟨n,vs,h1,h2⟩:=h
  refine ⟨n,vs,h1,repeatN_mono ?_ n vs h2⟩
  grind [consJ_mono]
 | range ps init l body done ihb ihd =>
  intro _ _ _ _ _ hJ hQ h
  obtain ⟨t,es,vs,h1,h2,h3⟩:=h
  refine ⟨t,es,vs,h1,h2,rangeN_mono ?_ ?_ es 0 vs h3⟩
  ·grind [consJ_mono]
  grind
def T.lift (c:Nat):T→T
 | .jump j es=>.jump (if j<c then j else j+1) es
 | .bind b t k=>.bind b t (k.lift c)
 | .ite e x y=>.ite e (x.lift c) (y.lift c)
 | .letj ps k body=>.letj ps (k.lift c) (body.lift (c+1))
 | .loop ps init body=>.loop ps init (body.lift (c+1))
 | .range ps init l body done=>.range ps init l (body.lift (c+1)) (done.lift c)
 | t=>t
def T.sub (σ:Nat→T):T→T
 | .hole i=>σ i
 | .bind b t k=>.bind b t (k.sub σ)
 | .ite e x y=>.ite e (x.sub σ) (y.sub σ)
 | .letj ps k body=>.letj ps (k.sub σ) (body.sub fun i=>(σ i).lift 0)
 | .loop ps init body=>.loop ps init (body.sub fun i=>(σ i).lift 0)
 | .range ps init l body done=>.range ps init l (body.sub fun i=>(σ i).lift 0) (done.sub σ)
 | t=>t
def cut (c:Nat) (J:Jt):Jt:=fun j=>J (if j<c then j else j+1)
theorem cut_cons (c:Nat) (K:List Val→Prop) (J:Jt):consJ K (cut c J)=cut (c+1) (consJ K J):=by
 funext j
 cases j with
 | zero=>rfl
 | succ j =>
  grind [consJ,cut]
theorem T.sat_lift:∀ {t:T} {c:Nat} {J:Jt} {Q:Nat→List Val→Prop} {env:List Val},(t.lift c).sat CS J Q env=t.sat CS (cut c J) Q env:=by
 intro t
 induction t with
 | fail=>intros;rfl
 | hole i=>intros;rfl
 | jump j es=>intros;rfl
 | bind b t k ih=>grind [T.lift,T.sat]
 | ite c x y ihx ihy=>grind [T.lift,T.sat]
 | letj ps k body ihk ihb=>grind [T.lift,T.sat,cut_cons]
 | loop ps init body ih=>simp_all [T.lift,T.sat,cut_cons]
 | range ps init l body done ihb ihd=>simp_all [T.lift,T.sat,cut_cons]
theorem cut_zero (K:List Val→Prop) (J:Jt):cut 0 (consJ K J)=J:=by
 funext j;rfl
theorem T.sat_sub:∀ {t:T} {σ:Nat→T} {J:Jt} {Q:Nat→List Val→Prop} {env:List Val},(t.sub σ).sat CS J Q env=t.sat CS J (fun i e=>(σ i).sat CS J Q e) env:=by
 intro t
 induction t with
 | fail=>intros;rfl
 | hole i=>intros;rfl
 | jump j es=>intros;rfl
 | bind b t k ih=>grind [T.sub,T.sat]
 | ite c x y ihx ihy=>grind [T.sub,T.sat]
 | letj ps k body ihk ihb=>grind [T.sub,T.sat,T.sat_lift,cut_zero]
 | loop ps init body ih=>simp_all [T.sub,T.sat,T.sat_lift,cut_zero]
 | range ps init l body done ihb ihd=>simp_all [T.sub,T.sat,T.sat_lift,cut_zero]
theorem rel2_wf {o:R2} {t u v:Ty} {f:t.den→u.den→Option v.den} (h:rel2 o t u=some ⟨v,f⟩) {x:t.den} {y:u.den} {c:v.den} (hf:f x y=some c) (hx:Val.wf ⟨t,x⟩) (hy:Val.wf ⟨u,y⟩):Val.wf ⟨v,c⟩:=by
 unfold rel2 at h
 split at h
 ·cases h
  simp only at hf
  split at hf
  ·grind [wf_sl]
  grind
 ·cases h
  simp only at hf
  split at hf
  ·cases hf;exact wf_arr.1 hx _
  grind
 ·cases h
  simp only at hf
  split at hf
  ·obtain ⟨c',_,rfl⟩:=Option.map_eq_some_iff.1 hf
   refine wf_int.2 ?_
   have:=c'.toNat_lt
   simp [inR];omega
  grind
 ·split at h
  ·cases h;simp only at hf;split at hf
   ·grind [wf_int,inR_wrap]
   grind
  grind
 ·split at h
  ·cases h;simp only at hf;split at hf
   ·grind [wf_int,inR_tmod]
   grind
  grind
 ·cases h;simp only at hf;split at hf
  ·grind [wf_int,inR_wrap]
  grind
 ·cases h;simp only at hf;split at hf
  ·grind [wf_int,inR_fdiv]
  grind
 ·split at h
  ·rename_i e
   subst e
   split at h
   ·rename_i hb
    cases h;simp only at hf;split at hf
    ·rename_i hle
     cases hf
     refine wf_sl.2 ⟨?_,fun z hz=>?_⟩
     ·simp only [List.length_append]
      have h1:=Nat.le_mul_of_pos_right (x.length+y.length) (Nat.pos_of_ne_zero hb)
      omega
     grind [wf_sl]
    grind
   grind
  grind
 ·split at h
  ·rename_i hb
   cases h
   simp only at hf
   split at hf
   ·rename_i hle
    cases hf
    refine wf_sl.2 ⟨?_,fun z hz=>by rw [List.eq_of_mem_replicate hz];exact hx⟩
    rw [List.length_replicate]
    have h1:=Nat.le_mul_of_pos_right (Int.toNat y) (Nat.pos_of_ne_zero hb)
    omega
   ·cases hf
  ·cases h
 ·split at h
  ·rename_i e
   subst e
   cases h
   simp only [Option.some.injEq] at hf
   subst hf
   refine wf_sl.2 ⟨?_,fun z hz=>?_⟩
   ·have:=(wf_sl.1 hx).1
    have:=(wf_sl.1 hy).1
    simp only [List.length_append,List.length_take,List.length_drop];omega
   ·rcases List.mem_append.1 hz with hz | hz
    ·exact (wf_sl.1 hy).2 z (List.mem_of_mem_take hz)
    ·exact (wf_sl.1 hx).2 z (List.mem_of_mem_drop hz)
  ·cases h
 grind
theorem rel3_wf {o:R3} {t u v w:Ty} {f:t.den→u.den→v.den→Option w.den} (h:rel3 o t u v=some ⟨w,f⟩) {x:t.den} {y:u.den} {z:v.den} {c:w.den} (hf:f x y z=some c) (hx:Val.wf ⟨t,x⟩) (hz:Val.wf ⟨v,z⟩):Val.wf ⟨w,c⟩:=by
 unfold rel3 at h
 split at h
 ·cases h
  simp only at hf
  split at hf
  ·grind [wf_sl]
  grind
 ·split at h
  ·rename_i e
   subst e
   cases h
   grind [wf_arr]
  grind
 ·split at h
  ·rename_i e
   subst e
   cases h
   grind [wf_sl]
  grind
 ·split at h
  ·rename_i e
   subst e
   split at h
   ·rename_i hb
    cases h
    simp only at hf
    split at hf
    ·rename_i hle
     cases hf
     refine wf_sl.2 ⟨?_,fun q hq=>?_⟩
     ·obtain ⟨_,h2,h3⟩:=hle
      have h1:=Nat.le_mul_of_pos_right (x.length+z.length) (Nat.pos_of_ne_zero hb)
      grind
     grind [wf_sl]
    grind
   grind
  grind
 ·cases h
  simp only at hf
  split at hf
  ·grind [wf_sl]
  grind
 grind
theorem castL_wf {t:Ty}:∀ {vs:List Val} {l:List t.den},castL t vs=some l→(∀ v∈vs,v.wf)→l.length=vs.length∧∀ x∈l,Val.wf ⟨t,x⟩
 | [],l,h,_=>by cases h;simp
 | v::vs,l,h,hw=>by
  obtain ⟨u,x⟩:=v
  simp only [castL] at h
  split at h
  ·rename_i e
   subst e
   obtain ⟨l',h1,h2⟩:=Option.map_eq_some_iff.1 h
   subst h2
   obtain ⟨k1,k2⟩:=castL_wf h1 fun v hv=>hw v (List.mem_cons_of_mem _ hv)
   grind
  grind
theorem evs_len {env:List Val}:∀ {es:List E} {vs:List Val},evs env es=some vs→vs.length=es.length
 | [],vs,h=>by cases h;rfl
 | e::es,vs,h=>by
  simp only [evs] at h
  split at h
  ·rename_i v vs' h1 h2;cases h;simp [evs_len h2]
  grind
def CallsWf (CS:Calls'):Prop:=∀ g vs v,CS g vs v→v.wf
theorem EnvWf.app {env l:List Val} (h:EnvWf env) (hl:∀ v∈l,v.wf):EnvWf (env++l):=fun v hv=>(List.mem_append.1 hv).elim (h v) (hl v)
theorem EnvWf.snoc {env:List Val} {v:Val} (h:EnvWf env) (hv:v.wf):EnvWf (env++[v]):=h.app (by grind)
theorem evs_wf {env:List Val} (he:EnvWf env):∀ {es:List E} {vs:List Val},evs env es=some vs→∀ v∈vs,v.wf
 | [],vs,h=>by cases h;simp
 | e::es,vs,h=>by
  simp only [evs] at h
  split at h
  ·rename_i v vs' h1 h2
   cases h
   intro x hx
   rcases List.mem_cons.1 hx with rfl | hx
   ·exact E.val_wf he h1
   ·exact evs_wf he h2 x hx
  grind
theorem B.ok_wf (hCS:CallsWf CS) {env:List Val} {v:Val} (he:EnvWf env):∀ {b:B},b.ok CS env v→v.wf
 | .lets _,h=>E.val_wf he h
 | .guard _,h=>by rw [h.2];exact wf_unit
 | .r2 o x y,⟨a,b,r,c,h1,h2,h3,h4,h5⟩=>by grind [rel2_wf,E.val_wf]
 | .r3 o x y z,⟨a,b,d,r,c,h1,h2,h3,h4,h5,h6⟩=>by rw [h6];exact rel3_wf h4 h5 (E.val_wf he h1) (E.val_wf he h3)
 | .call g args,⟨vs,h1,h2⟩=>hCS _ _ _ h2
 | .list t es,⟨vs,l,h1,h2,h3,h4⟩=>by
  obtain ⟨k1,k2⟩:=castL_wf h2 (evs_wf he h1)
  grind [evs_len,wf_sl]
 | .ifb gs b t,⟨c,h1,h2,h3⟩=>by
  cases c with
  | true=>exact B.ok_wf hCS he (h2 rfl).1
  | false=>rw [h3 rfl];exact wf_zero t
abbrev WfL (vs:List Val):Prop:=∀ v∈vs,v.wf
theorem T.sat_ext (hCS:CallsWf CS):∀ {t:T} {J:Jt} {Q:Nat→List Val→Prop} {env:List Val},EnvWf env→t.sat CS J Q env →
  t.sat CS (fun j vs=>WfL vs∧J j vs) (fun i e=>(∃ l,e=env++l)∧EnvWf e∧Q i e) env:=by
 intro t
 induction t with
 | fail=>intro J Q env he h;exact h
 | hole i=>intro J Q env he h;exact ⟨⟨[],by simp⟩,he,h⟩
 | jump j es=>intro J Q env he h;obtain ⟨vs,h1,h2⟩:=h;exact ⟨vs,h1,evs_wf he h1,h2⟩
 | bind b t k ih =>
  intro J Q env he h
  obtain ⟨v,h0,h1,h2⟩:=h
  exact ⟨v,h0,h1,T.sat_mono (fun _ _ h=>h) (fun i e h=>⟨by grind,h.2⟩) (ih (he.snoc (B.ok_wf hCS he h1)) h2)⟩
 | ite c x y ihx ihy=>intro J Q env he h;obtain ⟨b,h1,h2,h3⟩:=h;exact ⟨b,h1,fun e=>ihx he (h2 e),fun e=>ihy he (h3 e)⟩
 | letj ps k body ihk ihb =>
  intro J Q env he h
  refine T.sat_mono (t:=body) ?_ (fun _ _ h=>h) (ihb he h)
  intro j vs hj
  cases j with
  | zero=>exact ⟨hj.2.1,T.sat_mono (fun _ _ h=>h) (fun i e h=>⟨by grind,h.2⟩) (ihk (he.app hj.1) hj.2.2)⟩
  | succ j=>exact hj
 | loop ps init body ih =>
  intro J Q env he h
  obtain ⟨n,vs,h1,h2⟩:=h
  refine ⟨n,vs,h1,?_⟩
  have key:∀ n vs,WfL vs→repeatN ps (fun again vs=>body.sat CS (consJ again J) Q (env++vs)) n vs →
    repeatN ps (fun again vs=>body.sat CS (consJ again fun j vs=>WfL vs∧J j vs) (fun i e=>(∃ l,e=env++l)∧EnvWf e∧Q i e) (env++vs)) n vs:=by
   intro n
   induction n with
   | zero=>intro vs _ h;exact h
   | succ n ihn =>
    intro vs hw h
    refine ⟨h.1,T.sat_mono ?_ (fun i e h=>⟨by obtain ⟨⟨l,e⟩,_⟩:=h;exact ⟨vs++l,by simp [e]⟩,h.2⟩) (ih (he.app hw) h.2)⟩
    intro j us hj
    cases j with
    | zero=>exact ihn us hj.1 hj.2
    | succ j=>exact hj
  exact key n vs (evs_wf he h1) h2
 | range ps init l body done ihb ihd =>
  intro J Q env he h
  obtain ⟨t,es,vs,h1,h2,h3⟩:=h
  refine ⟨t,es,vs,h1,h2,?_⟩
  have hsl:=wf_sl.1 (E.val_wf he h1)
  have key:∀ (es:List t.den) (i:Int) (vs:List Val),(∀ x∈es,Val.wf ⟨t,x⟩)→0≤i→i+es.length≤9223372036854775807→WfL vs→rangeN ps (fun again i x vs=>body.sat CS (consJ again J) Q (env++vs++[⟨.int .i64,i⟩,⟨t,x⟩])) (fun vs=>done.sat CS J Q (env++vs)) es i vs →
    rangeN ps (fun again i x vs=>body.sat CS (consJ again fun j vs=>WfL vs∧J j vs) (fun i e=>(∃ l,e=env++l)∧EnvWf e∧Q i e) (env++vs++[⟨.int .i64,i⟩,⟨t,x⟩])) (fun vs=>done.sat CS (fun j vs=>WfL vs∧J j vs) (fun i e=>(∃ l,e=env++l)∧EnvWf e∧Q i e) (env++vs)) es i vs:=by
   intro es
   induction es with
   | nil =>
    intro i vs _ _ _ hw h
    exact ⟨h.1,T.sat_mono (fun _ _ h=>h) (fun i e h=>⟨by obtain ⟨⟨l,e⟩,_⟩:=h;exact ⟨vs++l,by simp [e]⟩,h.2⟩) (ihd (he.app hw) h.2)⟩
   | cons x es ihn =>
    intro i' vs hes hi hle hw h
    have hl:(x::es).length=es.length+1:=rfl
    refine ⟨h.1,T.sat_mono ?_ (fun i e h=>⟨by obtain ⟨⟨l,e⟩,_⟩:=h;exact ⟨vs++([⟨.int .i64,i'⟩,⟨t,x⟩]++l),by simp [e]⟩,h.2⟩) (ihb ((he.app hw).app ?_) h.2)⟩
    ·intro j us hj
     cases j with
     | zero=>exact ihn (i' + 1) us (fun x hx=>hes x (List.mem_cons_of_mem _ hx)) (by omega) (by omega) hj.1 hj.2
     | succ j=>exact hj
    ·intro v hv
     simp only [List.mem_cons,List.not_mem_nil,or_false] at hv
     rcases hv with rfl | rfl
     ·exact wf_int.2 (by simp [inR];omega)
     ·exact hes x List.mem_cons_self
  exact key es 0 vs hsl.2 (by omega) (by have:=hsl.1;omega) (evs_wf he h2) h3
end
end Go.Tx
namespace Go.Tx
open Go Go.Ab
inductive SV where
 | e (t:Ty) (x:E)
 | nil
 | own (id:Name) (sz:Nat) (t:Ty) (x:E)
 | ptr (n:Name) (off:Nat)
 | aptr (n:Name) (off m:Nat) (t:Ty) (i:E) (inn:Nat)
 | ref (t:Ty) (x:E) (off:Nat)
 | fn (f:Nat) (cap:List SV)
 | yld (l:Name)
 | mref (n:Name)
 | mpc (k:IntKind) (t:Ty) (x:E)
 | agg (cs:List SV)
 | mix (t:Ty) (x:E) (os:List Nat) (zs:List SV)
 | tup (vs:List SV)
 | kd (cs:List Value)
 | gd (gs:List E) (x:SV)
 | vsl (n:Name)
 | vpt (n:Name) (t:Ty) (i:E) (inn:Nat)
 | dead
 deriving Inhabited
def scal:(t:Ty)→t.den→Option Value
 | .int k,n=>some (.int k n)
 | .bool,b=>some (.bool b)
 | .str,s=>some (.string s)
 | .cst c,_=>some c.val
 | _,_=>none
theorem scal_enc {t:Ty} {x:t.den} {c:Value} (h:scal t x=some c):encD t x = .v c:=by
 cases t <;> simp [scal] at h <;> subst h <;> rfl
def typed (env:List Val):SV→Prop
 | .e t x=>∃ a,x.val env=some ⟨t,a⟩
 | .ref t x _=>∃ a,x.val env=some ⟨t,a⟩
 | .own _ _ t x=>∃ a,x.val env=some ⟨.sl t,a⟩
 | _=>True
theorem typed_app {env:List Val} (l:List Val) {x:SV} (h:typed env x):typed (env++l) x:=by
 cases x <;> simp only [typed] at h ⊢
 all_goals grind [E.val_app]
mutual
def InstV (env:List Val):SV→V→Prop
 | .e t x,v=>∃ a,x.val env=some ⟨t,a⟩∧v = .d (encD t a)
 | .nil,v=>v = .nil
 | .own id sz t x,v=>∃ a:List t.den,x.val env=some ⟨.sl t,a⟩∧t.size=sz∧v = .own id sz (a.map (encD t))
 | .ptr n off,v=>v = .ptr n off
 | .aptr n off m t i inn,v=>∃ (k:IntKind) (j:Int),i.val env=some ⟨.int k,j⟩∧0≤j∧j.toNat<m∧v = .ptr n (off+j.toNat * t.size+inn)
 | .ref t x off,v=>∃ a cs,x.val env=some ⟨t,a⟩∧v = .ref cs∧((enc t a).drop off) <+: cs
 | .fn f cap,v=>∃ c,v = .fn f c∧InstL env cap c
 | .yld l,v=>v = .yld l
 | .mref n,v=>v = .mref n
 | .mpc k t x,v=>∃ (a:List (Int×t.den)) (kvs:List (Int×Value)),x.val env=some ⟨.mp k t,a⟩∧v = .mpc k kvs∧a.map (fun y=>(y.1,scal t y.2))=kvs.map (fun y=>(y.1,some y.2))
 | .agg cs,v=>∃ c,v = .agg c∧InstL env cs c
 | .mix t x os zs,v=>∃ a c,x.val env=some ⟨t,a⟩∧v = .agg c∧c.length=t.size∧InstP env os zs c∧∀ i,i<t.size→i ∉ os→c[i]? = ((enc t a)[i]?).map V.d
 | .tup cs,v=>∃ c,v = .tup c∧InstL env cs c
 | .kd cs,v=>v = .d (.agg (cs.map constD))
 | .gd gs x,v=>∃ b,holds env gs=some b∧typed env x∧(b=true→InstV env x v)∧(b=false→v = .tup [])
 | .vsl n,v=>v = .vsl n
 | .vpt n t i inn,v=>∃ (k:IntKind) (j:Int),i.val env=some ⟨.int k,j⟩∧0≤j∧v = .vpt n (j.toNat * t.size+inn)
 | .dead,v=>v = .dead
def InstL (env:List Val):List SV→List V→Prop
 | [],vs=>vs=[]
 | x::xs,vs=>∃ v vs',vs=v::vs' ∧ InstV env x v∧InstL env xs vs'
def InstP (env:List Val):List Nat→List SV→List V→Prop
 | os,[],c=>os=[]
 | os,z::zs,c=>∃ i os',os=i::os' ∧ (∃ v,c[i]? = some v∧InstV env z v)∧InstP env os' zs c
end
theorem holds_app {env:List Val} (l:List Val):∀ {gs:List E} {b:Bool},holds env gs=some b→holds (env++l) gs=some b
 | [],b,h=>h
 | g::gs,b,h=>by
  simp only [holds] at h ⊢
  split at h
  ·rename_i c r h1 h2
   rw [E.val_app l h1,holds_app l h2];grind
  grind
mutual
theorem InstV.app {env:List Val} (l:List Val):∀ {x:SV} {v:V},InstV env x v→InstV (env++l) x v
 | .e t x,v,h=>by simp only [InstV] at h ⊢; obtain ⟨a,h1,h2⟩:=h;exact ⟨a,E.val_app l h1,h2⟩
 | .nil,v,h=>h
 | .own id sz t x,v,h=>by simp only [InstV] at h ⊢; obtain ⟨a,h1,h2⟩:=h;exact ⟨a,E.val_app l h1,h2⟩
 | .ptr n off,v,h=>h
 | .aptr n off m t i inn,v,h=>by simp only [InstV] at h ⊢; obtain ⟨k,j,h1,h2⟩:=h;exact ⟨k,j,E.val_app l h1,h2⟩
 | .ref t x off,v,h=>by simp only [InstV] at h ⊢; obtain ⟨a,cs,h1,h2⟩:=h;exact ⟨a,cs,E.val_app l h1,h2⟩
 | .fn f cap,v,h=>by simp only [InstV] at h ⊢; obtain ⟨c,h1,h2⟩:=h;exact ⟨c,h1,InstL.app l h2⟩
 | .yld n,v,h=>h
 | .mref n,v,h=>h
 | .mpc k t x,v,h=>by simp only [InstV] at h ⊢; obtain ⟨a,kvs,h1,h2⟩:=h;exact ⟨a,kvs,E.val_app l h1,h2⟩
 | .agg cs,v,h=>by simp only [InstV] at h ⊢; obtain ⟨c,h1,h2⟩:=h;exact ⟨c,h1,InstL.app l h2⟩
 | .mix t x os zs,v,h=>by simp only [InstV] at h ⊢; obtain ⟨a,c,h1,h2,h3,h4,h5⟩:=h;exact ⟨a,c,E.val_app l h1,h2,h3,InstP.app l h4,h5⟩
 | .tup cs,v,h=>by simp only [InstV] at h ⊢; obtain ⟨c,h1,h2⟩:=h;exact ⟨c,h1,InstL.app l h2⟩
 | .kd cs,v,h=>h
 | .gd gs x,v,h=>by simp only [InstV] at h ⊢; obtain ⟨b,h1,h0,h2,h3⟩:=h;exact ⟨b,holds_app l h1,typed_app l h0,fun e=>InstV.app l (h2 e),h3⟩
 | .vsl n,v,h=>h
 | .vpt n t i inn,v,h=>by simp only [InstV] at h ⊢; obtain ⟨k,j,h1,h2⟩:=h;exact ⟨k,j,E.val_app l h1,h2⟩
 | .dead,v,h=>h
theorem InstL.app {env:List Val} (l:List Val):∀ {xs:List SV} {vs:List V},InstL env xs vs→InstL (env++l) xs vs
 | [],vs,h=>h
 | x::xs,vs,h=>by simp only [InstL] at h ⊢; obtain ⟨v,vs',h1,h2,h3⟩:=h;exact ⟨v,vs',h1,InstV.app l h2,InstL.app l h3⟩
theorem InstP.app {env:List Val} (l:List Val):∀ {zs:List SV} {os:List Nat} {c:List V},InstP env os zs c→InstP (env++l) os zs c
 | [],os,c,h=>h
 | z::zs,os,c,h=>by simp only [InstP] at h ⊢; obtain ⟨i,os',h1,⟨v,h2,h3⟩,h4⟩:=h;exact ⟨i,os',h1,⟨v,h2,InstV.app l h3⟩,InstP.app l h4⟩
end
theorem InstL.len {env:List Val}:∀ {xs:List SV} {vs:List V},InstL env xs vs→vs.length=xs.length
 | [],vs,h=>by grind [InstL]
 | x::xs,vs,h=>by simp only [InstL] at h;obtain ⟨v,vs',h1,h2,h3⟩:=h;simp [h1,h3.len]
theorem InstL.get {env:List Val}:∀ {xs:List SV} {vs:List V},InstL env xs vs→∀ {i:Nat} {x:SV},xs[i]? = some x→∃ v,vs[i]? = some v∧InstV env x v
 | [],vs,h,i,x,hx=>by grind
 | y::xs,vs,h,i,x,hx=>by
  simp only [InstL] at h
  obtain ⟨v,vs',h1,h2,h3⟩:=h
  subst h1
  cases i with
  | zero=>grind
  | succ i=>simpa using h3.get (by grind)
theorem InstL.append {env:List Val}:∀ {xs ys:List SV} {vs us:List V},InstL env xs vs→InstL env ys us→InstL env (xs++ys) (vs++us)
 | [],ys,vs,us,h,h'=>by grind [InstL]
 | x::xs,ys,vs,us,h,h'=>by
  simp only [InstL] at h
  obtain ⟨v,vs',h1,h2,h3⟩:=h
  subst h1
  simp only [List.cons_append,InstL]
  exact ⟨v,_,rfl,h2,h3.append h'⟩
theorem InstL.drop {env:List Val}:∀ {n:Nat} {xs:List SV} {vs:List V},InstL env xs vs→InstL env (xs.drop n) (vs.drop n)
 | 0,xs,vs,h=>h
 | n+1,[],vs,h=>by grind [InstL]
 | n+1,x::xs,vs,h=>by simp only [InstL] at h;obtain ⟨v,vs',h1,h2,h3⟩:=h;subst h1;exact h3.drop
theorem InstL.take {env:List Val}:∀ {n:Nat} {xs:List SV} {vs:List V},InstL env xs vs→InstL env (xs.take n) (vs.take n)
 | 0,xs,vs,h=>by rfl
 | n+1,[],vs,h=>by grind [InstL]
 | n+1,x::xs,vs,h=>by simp only [InstL] at h;obtain ⟨v,vs',h1,h2,h3⟩:=h;subst h1;simp only [List.take_succ_cons,InstL];exact ⟨v,_,rfl,h2,h3.take⟩
def InstK {κ:Type} (env:List Val):List (κ×SV)→List (κ×V)→Prop
 | [],l=>l=[]
 | (k,x)::xs,l=>∃ v l',l=(k,v)::l' ∧ InstV env x v∧InstK env xs l'
theorem InstK.app {κ:Type} {env:List Val} (l:List Val):∀ {xs:List (κ×SV)} {vs:List (κ×V)},InstK env xs vs→InstK (env++l) xs vs
 | [],vs,h=>h
 | (k,x)::xs,vs,h=>by simp only [InstK] at h ⊢; obtain ⟨v,vs',h1,h2,h3⟩:=h;exact ⟨v,vs',h1,h2.app l,h3.app l⟩
def lkS (t:Nat):List (Nat×SV)→SV
 | []=>.dead
 | (s,v)::l=>if s=t then v else lkS t l
def setS (t:Nat) (x:SV):List (Nat×SV)→List (Nat×SV)
 | []=>[(t,x)]
 | (s,v)::l=>if s=t then (s,x)::l else (s,v)::setS t x l
theorem InstK.lk {env:List Val} {t:Nat}:∀ {xs:List (Nat×SV)} {vs:List (Nat×V)},InstK env xs vs→InstV env (lkS t xs) (lkT t vs)
 | [],vs,h=>by grind [InstK,lkS,lkT,InstV]
 | (k,x)::xs,vs,h=>by
  simp only [InstK] at h
  obtain ⟨v,vs',h1,h2,h3⟩:=h
  subst h1
  simp only [lkS,lkT]
  split
  ·grind
  ·exact h3.lk
theorem InstK.set {env:List Val} {t:Nat} {x:SV} {v:V} (hv:InstV env x v):∀ {xs:List (Nat×SV)} {vs:List (Nat×V)},InstK env xs vs→InstK env (setS t x xs) (setT t v vs)
 | [],vs,h=>by grind [InstK,setS,setT]
 | (k,y)::xs,vs,h=>by
  simp only [InstK] at h
  obtain ⟨u,vs',h1,h2,h3⟩:=h
  subst h1
  simp only [setS,setT]
  split
  ·exact ⟨v,vs',rfl,hv,h3⟩
  ·exact ⟨u,_,rfl,h2,h3.set hv⟩
theorem InstK.look {env:List Val} {n:Name}:∀ {xs:List (Name×SV)} {vs:List (Name×V)},InstK env xs vs→(∀ {x},lookN n xs=some x→∃ v,lookN n vs=some v∧InstV env x v)∧(lookN n xs=none→lookN n vs=none)
 | [],vs,h=>by grind [InstK,lookN]
 | (k,y)::xs,vs,h=>by
  simp only [InstK] at h
  obtain ⟨u,vs',h1,h2,h3⟩:=h
  subst h1
  simp only [lookN]
  split
  ·grind
  ·exact h3.look
theorem InstK.setN {env:List Val} {n:Name} {x:SV} {v:V} (hv:InstV env x v):∀ {xs:List (Name×SV)} {vs:List (Name×V)},InstK env xs vs→InstK env (Ab.setN n x xs) (Ab.setN n v vs)
 | [],vs,h=>by grind [InstK,Ab.setN]
 | (k,y)::xs,vs,h=>by
  simp only [InstK] at h
  obtain ⟨u,vs',h1,h2,h3⟩:=h
  subst h1
  simp only [Ab.setN]
  split
  ·exact ⟨v,vs',rfl,hv,h3⟩
  ·exact ⟨u,_,rfl,h2,h3.setN hv⟩
theorem InstK.map {κ:Type} {env:List Val} {f:SV→SV} {g:V→V} (hf:∀ x v,InstV env x v→InstV env (f x) (g v)):∀ {xs:List (κ×SV)} {vs:List (κ×V)},InstK env xs vs→InstK env (xs.map fun y=>(y.1,f y.2)) (vs.map fun y=>(y.1,g y.2))
 | [],vs,h=>by grind [InstK]
 | (k,y)::xs,vs,h=>by
  simp only [InstK] at h
  obtain ⟨u,vs',h1,h2,h3⟩:=h
  subst h1
  simp only [List.map_cons,InstK]
  exact ⟨_,_,rfl,hf _ _ h2,h3.map hf⟩
theorem InstK.any {κ:Type} {env:List Val} {f:SV→Bool} {g:V→Bool} (hf:∀ x v,InstV env x v→f x=false→g v=false):∀ {xs:List (κ×SV)} {vs:List (κ×V)},InstK env xs vs→xs.any (fun y=>f y.2)=false→vs.any (fun y=>g y.2)=false
 | [],vs,h,_=>by grind [InstK]
 | (k,y)::xs,vs,h,ha=>by
  simp only [InstK] at h
  obtain ⟨u,vs',h1,h2,h3⟩:=h
  subst h1
  simp only [List.any_cons,Bool.or_eq_false_iff] at ha ⊢
  exact ⟨hf _ _ h2 ha.1,h3.any hf ha.2⟩
structure SFr where
 rd:Option Name
 n:Nat
 ts:List (Nat×SV)
structure Sy where
 g:List Ty
 rd:Option Name
 n:Nat
 ts:List (Nat×SV)
 sv:List SFr
 bx:List (Name×SV)
 lp:List (Name×Lp)
 ow:List Name
 vc:List (Name×Ty×E)
def InstC (env:List Val):List (Name×Ty×E)→List (Name×Nat×List D)→Prop
 | [],l=>l=[]
 | (n,t,x)::r,l=>∃ (a:List t.den) (l' : List (Name×Nat×List D)),l=(n,t.size,a.map (encD t))::l' ∧ x.val env=some ⟨.sl t,a⟩∧InstC env r l'
theorem InstC.app {env:List Val} (l:List Val):∀ {xs:List (Name×Ty×E)} {vs:List (Name×Nat×List D)},InstC env xs vs→InstC (env++l) xs vs
 | [],vs,h=>h
 | (n,t,x)::xs,vs,h=>by obtain ⟨a,l',h1,h2,h3⟩:=h;exact ⟨a,l',h1,E.val_app l h2,h3.app l⟩
theorem InstC.look {env:List Val} {n:Name}:∀ {xs:List (Name×Ty×E)} {vs:List (Name×Nat×List D)},InstC env xs vs→(∀ {t x},lookN n xs=some (t,x)→∃ a:List t.den,x.val env=some ⟨.sl t,a⟩∧lookN n vs=some (t.size,a.map (encD t)))∧(lookN n xs=none→lookN n vs=none)
 | [],vs,h=>by grind [InstC,lookN]
 | (k,t,x)::xs,vs,h=>by
  obtain ⟨a,l',rfl,h2,h3⟩:=h
  simp only [lookN]
  split
  ·grind
  ·exact h3.look
theorem InstC.set {env:List Val} {n:Name} {t:Ty} {x:E} {a:List t.den} (hv:x.val env=some ⟨.sl t,a⟩):∀ {xs:List (Name×Ty×E)} {vs:List (Name×Nat×List D)},InstC env xs vs→InstC env (Ab.setN n (t,x) xs) (Ab.setN n (t.size,a.map (encD t)) vs)
 | [],vs,h=>by grind [InstC,Ab.setN]
 | (k,u,y)::xs,vs,h=>by
  obtain ⟨b,l',rfl,h2,h3⟩:=h
  simp only [Ab.setN]
  split
  ·exact ⟨a,l',rfl,hv,h3⟩
  ·exact ⟨b,_,rfl,h2,h3.set hv⟩
theorem InstC.filter {env:List Val} {q:Name→Bool}:∀ {xs:List (Name×Ty×E)} {vs:List (Name×Nat×List D)},InstC env xs vs→InstC env (xs.filter fun x=>q x.1) (vs.filter fun x=>q x.1)
 | [],vs,h=>by grind [InstC]
 | (k,t,x)::xs,vs,h=>by
  obtain ⟨a,l',rfl,h2,h3⟩:=h
  simp only [List.filter_cons]
  split
  ·exact ⟨a,_,rfl,h2,h3.filter⟩
  ·exact h3.filter
def InstF (env:List Val):List SFr→List Fr→Prop
 | [],l=>l=[]
 | f::fs,l=>∃ g l',l=g::l' ∧ g.rd=f.rd∧g.n=f.n∧InstK env f.ts g.ts∧InstF env fs l'
structure Inst (env:List Val) (y:Sy) (s:Sa):Prop where
 g:env.map (·.1)=y.g
 rd:s.rd=y.rd
 n:s.n=y.n
 ts:InstK env y.ts s.ts
 sv:InstF env y.sv s.sv
 bx:InstK env y.bx s.bx
 lp:s.lp=y.lp
 ow:s.ow=y.ow
 vc:InstC env y.vc s.vc
theorem InstF.app {env:List Val} (l:List Val):∀ {xs:List SFr} {vs:List Fr},InstF env xs vs→InstF (env++l) xs vs
 | [],vs,h=>h
 | f::xs,vs,h=>by simp only [InstF] at h ⊢; obtain ⟨v,vs',h1,h2,h3,h4,h5⟩:=h;exact ⟨v,vs',h1,h2,h3,h4.app l,h5.app l⟩
theorem InstF.len {env:List Val}:∀ {xs:List SFr} {vs:List Fr},InstF env xs vs→vs.length=xs.length
 | [],vs,h=>by grind [InstF]
 | f::xs,vs,h=>by simp only [InstF] at h;obtain ⟨v,vs',h1,h2,h3,h4,h5⟩:=h;simp [h1,h5.len]
def Sy.more (y:Sy) (ts:List Ty):Sy:={ y with g:=y.g++ts }
theorem Inst.app {env:List Val} {y:Sy} {s:Sa} (h:Inst env y s) (l:List Val):Inst (env++l) (y.more (l.map (·.1))) s :=
 ⟨by simp [Sy.more,h.g],h.rd,h.n,h.ts.app l,h.sv.app l,h.bx.app l,h.lp,h.ow,h.vc.app l⟩
theorem Inst.snoc {env:List Val} {y:Sy} {s:Sa} (h:Inst env y s) (v:Val):Inst (env++[v]) (y.more [v.1]) s:=h.app [v]
theorem Inst.len {env:List Val} {y:Sy} {s:Sa} (h:Inst env y s):env.length=y.g.length:=by rw [← h.g,List.length_map]
end Go.Tx
