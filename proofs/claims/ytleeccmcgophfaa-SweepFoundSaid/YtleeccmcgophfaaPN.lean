import Derived.Test.YtleeccmcgophfaaPM
import Derived.Test.YtleeccmcgophfaaPL
import Derived.Test.YtleeccmcgophfaaPJ
set_option linter.all false
namespace Go.Fn
open Go Go.Ab Go.Tx
def unO (a b:Int) (o:D6):D6:=if o.1=a then gV o ((lnk o).filter (· != b)) else o
def unl (l:List D6) (a b:Int):List D6:=l.map (unO a b)
theorem JU (a b:Int) (o:D6):(unO a b o).1=o.1:=by unfold unO;split <;> rfl
theorem yV {a b:Int} {o:D6} {x:Int}:x∈lnk (unO a b o)↔x∈lnk o∧¬ (o.1=a∧x=b):=by
 unfold unO
 by_cases h:o.1=a
 ·rw [if_pos h]
  show x∈List.filter _ _↔_
  simp [h]
 ·rw [if_neg h];simp [h]
theorem XB (a b:Int) (o:D6):(lnk (unO a b o)).length≤(lnk o).length:=by
 unfold unO
 split
 ·exact List.length_filter_le _ _
 ·exact Nat.le_refl _
theorem Ub {a b:Int} {o:D6} (h:(lnk o).Pairwise (· < ·)):(lnk (unO a b o)).Pairwise (· < ·):=by
 unfold unO
 split
 ·exact h.filter _
 ·exact h
theorem nI {l:List D6} {a b:Int} {x:D6}:x∈unl l a b↔∃ o∈l,unO a b o=x:=by simp [unl]
theorem Dz {l:List D6} {a b x:Int}:(∃ o∈unl l a b,o.1=x)↔∃ o∈l,o.1=x:=by
 constructor
 ·rintro ⟨o,ho,rfl⟩
  obtain ⟨d,hd,rfl⟩:=nI.1 ho
  exact ⟨d,hd,(JU ..).symm⟩
 ·rintro ⟨o,ho,rfl⟩
  exact ⟨_,nI.2 ⟨o,ho,rfl⟩,JU ..⟩
theorem SW.unl {l:List D6} {root:Int} (h:SW l root) (a b:Int):SW (unl l a b) root:=by
 refine ⟨by simpa [Fn.unl] using h.few,?_,fun o ho=>?_,fun o ho=>?_,fun o ho x hx=>?_,fun o ho hx=>?_⟩
 ·unfold Fn.unl
  rw [List.pairwise_map]
  exact h.ris.imp fun hab=>by rw [JU,JU];exact hab
 ·obtain ⟨d,hd,rfl⟩:=nI.1 ho
  have:=h.lns d hd;have:=XB a b d;omega
 ·obtain ⟨d,hd,rfl⟩:=nI.1 ho
  exact Ub (h.lnk d hd)
 ·obtain ⟨d,hd,rfl⟩:=nI.1 ho
  exact Dz.2 (h.has d hd x (yV.1 hx).1)
 ·obtain ⟨d,hd,rfl⟩:=nI.1 ho
  exact h.top d hd (yV.1 hx).1
theorem Uc {l:List D6} {root:Int} (h:SW l root) {o:D6} (ho:o∈l) (b:Int):tH l (gV o ((lnk o).filter (· != b)))=unl l o.1 b:=by
 obtain ⟨A,B,hA,hP⟩:=FT (o':=gV o ((lnk o).filter (· != b))) h.ris ho rfl
 have hr:=h.ris
 rw [hP]
 rw [hA,List.pairwise_append,List.pairwise_cons] at hr
 have hid:∀ {C:List D6},(∀ d∈C,d.1≠o.1)→C.map (unO o.1 b)=C:=fun {C} hC=>by
  conv=>rhs;rw [← List.map_id C]
  exact List.map_congr_left fun d hd=>by unfold unO;rw [if_neg (hC d hd)];rfl
 conv=>rhs;rw [hA]
 unfold unl
 rw [List.map_append,List.map_cons,hid fun d hd=>by have:=hr.2.2 d hd o List.mem_cons_self;omega,hid fun d hd=>by have:=hr.2.1.1 d hd;omega]
 unfold unO
 rw [if_pos rfl]
def Held (l:List D6) (root:Int):Prop:=∀ o∈l,o.1≠root→∃ d∈l,o.1∈lnk d
structure vG (l:List D6) (root a b:Int) (L:List Int) (l' : List D6):Prop where
 one:∃ o∈l,o.1=a∧b∈lnk o
 goes:Goes (unl l a b) root L l'
 clo:Clo (unl l a b) root L
theorem LY {w:D7} {a b:Int} (hw:SW (objs w) w.2.2.1):(XJ w a b=(w,[],1)∧¬ ∃ o∈objs w,o.1=a∧b∈lnk o)∨∃ L l',XJ w a b=(dZ w l',L,0)∧vG (objs w) w.2.2.1 a b L l':=by
 unfold XJ
 by_cases hc:(dK (objs w) a).2=false∨b ∉ lnk (dK (objs w) a).1
 ·rw [if_pos hc]
  refine .inl ⟨rfl,?_⟩
  rintro ⟨o,ho,rfl,hb⟩
  rw [mM hw.ris o ho] at hc
  rcases hc with hc | hc
  ·cases hc
  ·exact hc hb
 ·rw [if_neg hc]
  have hf:(dK (objs w) a).2=true:=by
   cases h9:(dK (objs w) a).2 with
   | true=>rfl
   | false=>exact absurd (.inl h9) hc
  have hb:b∈lnk (dK (objs w) a).1:=Classical.byContradiction fun h9=>hc (.inr h9)
  obtain ⟨ho,e⟩:=qj hf
  have hp:=Uc hw ho b
  rw [e] at hp
  have hlen:(tH (objs w) (gV (dK (objs w) a).1 ((lnk (dK (objs w) a).1).filter (· != b)))).length≤1024:=by
   rw [hp];have:=hw.few;simp [unl];omega
  have hv:TW w (gV (dK (objs w) a).1 ((lnk (dK (objs w) a).1).filter (· != b)))=dZ w (unl (objs w) a b):=by
   unfold TW;rw [if_pos hlen,hp]
  simp only [hv]
  obtain ⟨g1,g2⟩:=yU (root:=w.2.2.1) (unl (objs w) a b).length (unl (objs w) a b) [] (JR _ _) (Nat.le_refl _)
  exact .inr ⟨_,_,rfl,⟨_,ho,e,hb⟩,g1,JQ g1 g2⟩
namespace vG
variable {l:List D6} {root a b:Int} {L:List Int} {l' : List D6}
theorem mem (h:vG l root a b L l') {x:D6}:x∈l' ↔ x∈unl l a b∧x.1 ∉ L:=by rw [h.goes.left];simp
theorem gone (h:vG l root a b L l') {x:Int} (hx:x∈L) {o:D6} (ho:o∈unl l a b) (hl:x∈lnk o):o.1∈L:=by
 obtain ⟨A,h1,_,h3⟩:=h.goes.ord
 obtain ⟨pre,post,e⟩:=List.append_of_mem ((h1 x).2 hx)
 have:=h3 pre x post e o ho hl
 exact (h1 _).1 (by rw [e];simp [this])
theorem none (h:vG l root a b L l') {x:Int} (hx:x∈L):∀ o∈l',x ∉ lnk o:=fun o ho hl=>by
 obtain ⟨h1,h2⟩:=h.mem.1 ho
 exact h2 (h.gone hx h1 hl)
theorem sw (h:vG l root a b L l') (hw:SW l root):SW l' root:=by
 have hu:=hw.unl a b
 refine ⟨?_,?_,fun o ho=>hu.lns o (h.mem.1 ho).1,fun o ho=>hu.lnk o (h.mem.1 ho).1,fun o ho x hx=>?_,fun o ho=>hu.top o (h.mem.1 ho).1⟩
 ·rw [h.goes.left]
  exact Nat.le_trans (List.length_filter_le _ _) hu.few
 ·rw [h.goes.left];exact hu.ris.filter _
 ·obtain ⟨y,hy,rfl⟩:=hu.has o (h.mem.1 ho).1 x hx
  exact ⟨y,h.mem.2 ⟨hy,fun hc=>h.none hc o ho hx⟩,rfl⟩
theorem held (h:vG l root a b L l'):Held l' root:=fun o ho hr=>by
 obtain ⟨h1,h2⟩:=h.mem.1 ho
 obtain ⟨d,hd,h3,h4⟩:=h.clo o h1 hr h2
 exact ⟨d,h.mem.2 ⟨hd,h3⟩,h4⟩
theorem head (h:vG l root a b L l') (hh:Held l root) (hL:L≠[]):∀ o∈unl l a b,b ∉ lnk o:=by
 obtain ⟨A,h1,h2,h3⟩:=h.goes.ord
 cases A with
 | nil =>
  cases L with
  | nil=>exact absurd rfl hL
  | cons x L=>have:=(h1 x).2 (by simp);cases this
 | cons y A =>
  obtain ⟨h4,h5⟩:=h2 y (by simp)
  obtain ⟨o,ho,rfl⟩:=Dz.1 h4
  obtain ⟨d,hd,hl⟩:=hh o ho h5
  have hno:∀ c∈unl l a b,o.1 ∉ lnk c:=fun c hc hx=>by
   have:=h3 [] o.1 A rfl c hc hx
   cases this
  have hb:d.1=a∧o.1=b:=Classical.byContradiction fun hn=>hno _ (nI.2 ⟨d,hd,rfl⟩) (yV.2 ⟨hl,hn⟩)
  intro c hc
  have:=hno c hc
  rwa [hb.2] at this
theorem bR (h:vG l root a b L l') (hw:SW l root):b≠root∧∃ y∈l,y.1=b:=by
 obtain ⟨o,ho,_,hb⟩:=h.one
 exact ⟨fun e=>hw.top o ho (e ▸ hb),hw.has o ho b hb⟩
theorem stays (h:vG l root a b L l') (hw:SW l root) (hh:Held l root):(∃ o∈l',o.1=b)↔∃ d∈l,d.1≠a∧b∈lnk d:=by
 obtain ⟨hbr,hby⟩:=h.bR hw
 constructor
 ·rintro ⟨o,ho,e⟩
  obtain ⟨h1,h2⟩:=h.mem.1 ho
  obtain ⟨d,hd,_,h4⟩:=h.clo o h1 (e ▸ hbr) h2
  obtain ⟨c,hc,rfl⟩:=nI.1 hd
  obtain ⟨h5,h6⟩:=yV.1 h4
  exact ⟨c,hc,fun hca=>h6 ⟨hca,e⟩,e ▸ h5⟩
 ·rintro ⟨d,hd,h1,h2⟩
  have hn:b ∉ L:=fun hc=>h.head hh (fun e=>by rw [e] at hc;cases hc) _ (nI.2 ⟨d,hd,rfl⟩) (yV.2 ⟨h2,fun hx=>h1 hx.1⟩)
  obtain ⟨o,ho,rfl⟩:=Dz (a:=a) (b:=b) |>.2 hby
  exact ⟨o,h.mem.2 ⟨ho,hn⟩,rfl⟩
theorem below (h:vG l root a b L l') (hw:SW l root) (hh:Held l root) {o:D6} (ho:o∈l) (e:o.1=b) {x:Int} (hx:x∈lnk o):(∃ y∈l',y.1=x)↔(∃ y∈l',y.1=b)∨aQ l' x≠[]:=by
 have hs:=h.sw hw
 obtain ⟨hbr,hby⟩:=h.bR hw
 have hxr:x≠root:=fun hc=>hw.top o ho (hc ▸ hx)
 constructor
 ·rintro ⟨y,hy,rfl⟩
  obtain ⟨d,hd,hl⟩:=h.held y hy hxr
  refine .inr fun hc=>?_
  have:d.1∈aQ l' y.1:=dS.2 ⟨d,hd,hl,rfl⟩
  rw [hc] at this;cases this
 ·rintro (⟨y,hy,hyb⟩ | hn)
  ·have hL:L=[]:=Classical.byContradiction fun hL=>by
    obtain ⟨h1,h2⟩:=h.mem.1 hy
    obtain ⟨d,hd,_,h4⟩:=h.clo y h1 (hyb ▸ hbr) h2
    exact h.head hh hL d hd (hyb ▸ h4)
   obtain ⟨y,hy,rfl⟩:=Dz (a:=a) (b:=b) |>.2 (hw.has o ho x hx)
   exact ⟨y,h.mem.2 ⟨hy,by rw [hL];simp⟩,rfl⟩
  ·cases hc:aQ l' x with
   | nil=>exact absurd hc hn
   | cons d ds =>
    have:d∈aQ l' x:=by rw [hc];simp
    obtain ⟨c,hc,hl,_⟩:=dS.1 this
    exact hs.has c hc x hl
end vG
theorem Iy {l:List D6} {root a b:Int} (hw:SW l root) (h:∃ o∈l,o.1=a∧b∈lnk o):1<(aQ l b).length↔∃ d∈l,d.1≠a∧b∈lnk d:=by
 obtain ⟨o,ho,rfl,hb⟩:=h
 have hp:(aQ l b).Pairwise (· < ·):=by
  unfold aQ
  rw [List.pairwise_map]
  exact (hw.ris.filter _)
 have ho' : o.1∈aQ l b:=dS.2 ⟨o,ho,hb,rfl⟩
 constructor
 ·intro h1
  refine Classical.byContradiction fun hn=>?_
  have hall:∀ x∈aQ l b,x∈[o.1]:=fun x hx=>by
   obtain ⟨d,hd,hl,rfl⟩:=dS.1 hx
   refine Classical.byContradiction fun hc=>hn ⟨d,hd,by simpa using hc,hl⟩
  have:=yM _ _ (hp.imp (fun h=>by omega)) hall
  simp at this;omega
 ·rintro ⟨d,hd,hne,hl⟩
  have h2:=yM [o.1,d.1] (aQ l b) (by simp;exact fun h=>hne h.symm) (fun x hx=>by
   simp only [List.mem_cons,List.not_mem_nil,or_false] at hx
   rcases hx with rfl | rfl
   ·exact ho'
   ·exact dS.2 ⟨d,hd,hl,rfl⟩)
  simp only [List.length_cons,List.length_nil] at h2;omega
end Go.Fn
namespace Go.Fn
open Go Go.Ab Go.Tx
theorem aao:yB 100 L7.tr 7 (mG [] ()) .bool=some true:=by kernel_rfl
theorem YW:F7=some true:=TK (n:=100) (g:=7) («as»:=[]) (rty:=.bool) (l:=L7.tr) (F:=L8.cf) (f:=fun _=>F7) L7.le () aao
theorem qU {l:List D6} (hp:l.Pairwise (fun a b=>a.1<b.1)) (x:Int):(dK l x).2=true↔∃ o∈l,o.1=x:=by
 constructor
 ·intro h;exact ⟨_,qj h⟩
 ·rintro ⟨o,ho,rfl⟩;rw [mM hp o ho]
theorem ZP (w:D7) (a b:Int) (hok:∀ o∈objs w,OkO o):F4 w a b=some true:=by
 obtain ⟨f,h1,h2⟩:=YV w hok
 unfold F4
 rw [h1,Option.bind_some,YW]
 cases f with
 | false=>simp only [Bool.not_false,if_true,Option.bind_some]
 | true =>
  obtain ⟨hSW,hheld⟩:=ZO (h2 rfl)
  have hfew:=hSW.few
  simp only [Bool.not_true,Bool.false_eq_true,if_false,ZN w a b hSW hheld,Option.bind_some]
  rcases LY (a:=a) (b:=b) hSW with ⟨e,_⟩ | ⟨K,l',e,hs⟩
  ·rw [e];rfl
  ·rw [e]
   have hs':=hs.sw hSW
   have hl' : (objs (dZ w l')).length≤1000:=by show l'.length≤1000;have:=hs'.few;omega
   have hk' : ∀ o∈objs (dZ w l'),(lnk o).length≤1000:=fun o ho=>by have:=hs'.lns o ho;omega
   have hh:=hs.stays hSW hheld
   have h2':=Iy hSW hs.one
   obtain ⟨_,y,hy,hyb⟩:=hs.bR hSW
   have hf:dK (objs w) b=(y,true):=by rw [← hyb];exact mM hSW.ris y hy
   have hthere:(dK l' b).2=decide (1<(aQ (objs w) b).length):=by
    rw [Bool.eq_iff_iff,decide_eq_true_eq,qU hs'.ris,hh,h2']
   have ecmp:((dK l' b).2==decide (((List.length (aQ (objs w) b):Nat):Int)>(1:Int)))=true:=by
    rw [hthere,beq_iff_eq]
    exact decide_eq_decide.2 (by omega)
   have hl:(objs w).length≤1000:=by omega
   have hk:∀ o∈objs w,(lnk o).length≤1000:=fun o ho=>by have:=hSW.lns o ho;omega
   simp only [bne_self_eq_false,Bool.false_eq_true,if_false]
   rw [AU _ b hl',Option.bind_some,JI w b hl hk,Option.bind_some]
   have e0:objs (dZ w l')=l':=rfl
   rw [e0,ecmp]
   simp only [Bool.not_true,Bool.false_eq_true,if_false]
   rw [AU w b hl,Option.bind_some,hf]
   refine Def.eq ?_
   simp only [aK]
   refine Def.JF (l:=lnk y) (fun _=>True) (by have:=hSW.lns y hy;omega) trivial (fun pre v post e _=>?_) (fun _=>.done (.ret rfl))
   have hv:v∈lnk y:=by rw [e];simp
   rw [AU _ v hl',Option.bind_some,JI _ v hl' hk',e0]
   have hb:=hs.below hSW hheld hy hyb hv
   have hx:(dK l' v).2=((dK l' b).2 || decide (0<(aQ l' v).length)):=by
    rw [Bool.eq_iff_iff,Bool.or_eq_true,decide_eq_true_eq,qU hs'.ris,qU hs'.ris,hb,List.length_pos_iff]
   rw [hx]
   cases hq:(dK l' b).2 with
   | true =>
    simp only [Bool.not_true,Bool.false_and,Bool.false_eq_true,if_false,Option.bind_some,Bool.true_or,if_true,beq_self_eq_true]
    exact .turn ⟨rfl,trivial⟩
   | false =>
    simp only [Bool.not_false,Bool.true_and,if_true,Option.bind_some,Bool.false_or,Bool.false_eq_true,if_false]
    have:(decide (0<(aQ l' v).length)==decide (((List.length (aQ l' v):Nat):Int)>(0:Int)))=true:=by
     rw [beq_iff_eq];exact decide_eq_decide.2 (by omega)
    rw [this]
    simp only [Bool.not_true,Bool.false_eq_true,if_false]
    exact .turn ⟨rfl,trivial⟩
theorem YX {o:D6} (h:wfT t6 o):OkO o:=by
 obtain ⟨_,_,h1,_,_,h2,h3,h4,h5,h6,h7,h8,_⟩:=h
 obtain ⟨_,_,c1,_,_,_,_,_,c2,_,c3,_⟩:=h5
 obtain ⟨g1,g2,_⟩:=h6
 exact ⟨h1.1,h2.1,h3.1,h4.1,c1.1,c2.1,fun i=>(c3 i).1,g1.1,g2.1,h7.1,h8.1⟩
theorem XC (w:D7) (a b:Int) (h:wfT t7 w):F4 w a b=some true:=by
 obtain ⟨_,_,_,h,_⟩:=h
 exact ZP w a b (fun o ho=>YX (h.2 o ho))
end Go.Fn
namespace Go.Fn
set_option maxRecDepth 100000
open Go Go.Ab Go.Tx
theorem law4 {st:tC [t7,(.int .u64),(.int .u64)]} (h:dh (mG [t7,(.int .u64),(.int .u64)] st)→F4 st.1 st.2.1 st.2.2=some true):kQ Go.Proofs.Try.prog 4 ((mG [t7,(.int .u64),(.int .u64)] st).map Val.d) [.b true] :=
 YB L7 pm 4 [t7,(.int .u64),(.int .u64)] .bool (fun st=>F4 st.1 st.2.1 st.2.2) [] [(1,[55],[],[],[],[])] [] au (fun st=>by kernel_rfl) (by kernel_rfl) h
end Go.Fn
