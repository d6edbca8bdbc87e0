import Derived.Test.YtleeccmcgophfaaPM
import Derived.Test.YtleeccmcgophfaaPL
import Derived.Test.YtleeccmcgophfaaPJ
set_option linter.all false
namespace Go.Fn
open Go Go.Ab Go.Tx
theorem ams {l:List D6} {a:Int} {p:List Int→Prop} (h0:p []) (h:∀ o∈l,p (lnk o)):p (lnk (abR l a).1):=by
 unfold abR
 split
 ·rename_i o ho;exact h o (List.mem_of_find?_eq_some ho)
 ·exact h0
theorem aoH:∀ {A B:List Int},A.Pairwise (· < ·)→B.Pairwise (· < ·)→(∀ x,x∈A↔x∈B)→A=B
 | [],[],_,_,_=>rfl
 | [],b::B,_,_,h=>by have:=(h b).2 List.mem_cons_self;cases this
 | a::A,[],_,_,h=>by have:=(h a).1 List.mem_cons_self;cases this
 | a::A,b::B,hA,hB,h=>by
  have a1:=(List.pairwise_cons.1 hA).1
  have b1:=(List.pairwise_cons.1 hB).1
  have e:a=b:=by
   rcases List.mem_cons.1 ((h a).1 List.mem_cons_self) with e | e
   ·exact e
   ·rcases List.mem_cons.1 ((h b).2 List.mem_cons_self) with e2 | e2
    ·exact e2.symm
    ·have:=a1 b e2;have:=b1 a e;omega
  subst e
  rw [aoH (List.pairwise_cons.1 hA).2 (List.pairwise_cons.1 hB).2 fun x=>?_]
  have:=h x
  simp only [List.mem_cons] at this
  constructor
  ·intro hx
   rcases this.1 (.inr hx) with e | e
   ·have:=a1 x hx;omega
   ·exact e
  ·intro hx
   rcases this.2 (.inr hx) with e | e
   ·have:=b1 x hx;omega
   ·exact e
theorem amu {l:List Int} (h:l.Nodup):(l.mergeSort (fun a b=>decide (a≤b))).Pairwise (· < ·):=by
 have h1:(l.mergeSort (fun a b=>decide (a≤b))).Pairwise (fun a b=>decide (a≤b)=true):=List.pairwise_mergeSort (fun a b c h1 h2=>by simp at *; omega) (fun a b=>by simp;omega) l
 have h2:(l.mergeSort (fun a b=>decide (a≤b))).Nodup:=(List.mergeSort_perm l _).nodup_iff.2 h
 exact (h1.and h2).imp fun ⟨h3,h4⟩=>by simp at h3;omega
theorem anL {l:List D6} {root:Int} {m:List (Int×Int)} {gone:List Int} (h:Mid l root [] m gone) :
  gone.mergeSort (fun a b=>decide (a≤b))=(rounds root l.length l []).2∧l.filter (fun o=>!(gone.mergeSort (fun a b=>decide (a≤b))).contains o.1)=(rounds root l.length l []).1:=by
 obtain ⟨g1,g2⟩:=aiX l.length l [] (aoG l root) (Nat.le_refl _)
 have hclo:=aoF g1 g2
 have hnd:gone.Nodup:=by simpa using h.nod
 have hth:Things l root gone:=by simpa using h.thg
 have hcg:Clo l root gone:=fun o ho hr hn=>by
  have h1:=h.all o ho hr
  simp only [List.append_nil] at h1
  have h2:cnt (l.filter fun d=>!gone.contains d.1) o.1≠0:=fun h3=>hn (h1.2 h3)
  refine Classical.byContradiction fun hno=>h2 (ak5.2 fun d hd hx=>hno ?_)
  rw [List.mem_filter] at hd
  exact ⟨d,hd.1,by simpa using hd.2,hx⟩
 obtain ⟨A,a1,a2,a3⟩:=g1.ord
 have e:gone.mergeSort (fun a b=>decide (a≤b))=(rounds root l.length l []).2:=by
  refine aoH (amu hnd) g1.rise fun x=>?_
  rw [(List.mergeSort_perm gone _).mem_iff]
  exact ⟨ak3 hth h.ord hclo x,fun hx=>ak3 a2 a3 hcg x ((a1 x).2 hx)⟩
 exact ⟨e,by rw [e];exact g1.left.symm⟩
theorem auL (w:D7) (a b:Int) (hw:SW (objs w) w.2.2.1) (held:∀ o∈objs w,o.1≠w.2.2.1→∃ d∈objs w,o.1∈lnk d):F8 w a b=some (axD w a b):=by
 have hfew:=hw.few
 refine Def.eq ?_
 unfold F8
 refine Def.bind (Def.of (avp w a (by omega) hw.ris) ?_)
 obtain ⟨oa,hoa⟩:∃ oa,oa=(abR (objs w) a).1:=⟨_,rfl⟩
 have hk70:(lnk oa).length≤70:=by rw [hoa];exact ams (p:=fun l=>l.length≤70) (by simp) hw.lns
 have hkr:(lnk oa).Pairwise (· < ·):=by rw [hoa];exact ams (p:=fun l=>l.Pairwise (· < ·)) List.Pairwise.nil hw.lnk
 rw [← hoa]
 refine Def.bind (Def.of (avo (lnk oa) b (by omega) hkr) ?_)
 have hc:((if (!(abR (objs w) a).2)=true then true else (!decide (b∈lnk oa)))=true)↔((abR (objs w) a).2=false∨b ∉ lnk (abR (objs w) a).1):=by
  rw [← hoa]
  cases (abR (objs w) a).2 <;> simp
 refine Def.ite (fun h=>.ret ?_) (fun h=>?_)
 ·unfold axD;rw [if_pos (hc.1 h)]
 have hn : ¬ ((abR (objs w) a).2=false∨b ∉ lnk (abR (objs w) a).1):=fun h'=>h (hc.2 h')
 unfold axD
 rw [if_neg hn]
 rw [← hoa] at hn ⊢
 have hfound:(abR (objs w) a).2=true:=by cases h9:(abR (objs w) a).2 with | true=>rfl | false=>exact absurd (.inl h9) hn
 have hb:b∈lnk oa:=Classical.byContradiction fun h9=>hn (.inr h9)
 obtain ⟨hoam,hoae⟩:=agF hfound
 rw [← hoa] at hoam hoae
 have hflat:=anI hw.lns
 refine Def.aaH (fun m:List (Int×Int)=>∀ x,aa6 0 m x=(cnt (objs w) x:Nat)) (fun m hi=>?_) (fun j5 hj5=>?_)
 ·refine Def.bind (Def.app (by simp only [List.length_nil];show (0+(lnk oa).length) * 8≤_;omega) ?_)
  obtain ⟨d1,d2⟩:=del_eq hkr hb
  refine Def.bind (Def.of (a:=(lnk oa).filter (· != b)) ?_ ?_)
  ·rw [wrap_i64 (by omega) (by omega),azJ,if_pos ⟨by omega,by omega,by simp only [List.nil_append];show (ach (lnk oa) b:Int)+1≤((lnk oa).length:Nat);omega⟩]
   have t1:((ach (lnk oa) b:Nat):Int).toNat=ach (lnk oa) b:=Int.toNat_natCast _
   have t2:(((ach (lnk oa) b:Nat):Int)+1).toNat=ach (lnk oa) b+1:=by omega
   simp only [List.nil_append]
   show some (List.take ((ach (lnk oa) b:Nat):Int).toNat (lnk oa)++List.drop (((ach (lnk oa) b:Nat):Int)+1).toNat (lnk oa))=_
   rw [t1,t2,d2]
  ·refine Def.bind (Def.of (ayz w _ (by omega) hw.ris) ?_)
   obtain ⟨o',ho'⟩:∃ o',o' = aa1 oa ((lnk oa).filter (· != b)):=⟨_,rfl⟩
   rw [← ho']
   have e1:o'.1=oa.1:=by rw [ho']
   have e2:lnk o' = (lnk oa).filter (· != b):=by rw [ho']
   obtain ⟨hSW,hb1,hmid⟩:=asA hw held hoam hb e1 e2 hi
   have hv:auD w o' = aa2 w (agL (objs w) o'):=by unfold auD;rw [if_pos (by have:=hSW.few;omega)]
   obtain ⟨v,hvd⟩:∃ v,v=auD w o':=⟨_,rfl⟩
   rw [← hvd]
   have hvo:objs v=agL (objs w) o':=by rw [hvd,hv]
   have hvr:v.2.2.1=w.2.2.1:=by rw [hvd,hv]
   rw [← hvo,← hvr] at hSW hmid
   have hcb:=cnt_le (l:=objs w) (x:=b)
   have hib:=hi b
   have hw1:IntKind.wrap .i64 (aa6 0 m b - 1)=aa6 0 m b - 1:=wrap_i64 (by omega) (by omega)
   rw [hw1]
   refine Def.aaH (fun todo:List Int=>todo=if aa6 0 m b - 1=0 then [b] else []) (fun todo ht=>?_) (fun j9 hj9=>?_)
   ·rw [← ht] at hmid
    have hlen:∀ {todo:List Int} {m:List (Int×Int)} {gone:List Int},Mid (objs v) v.2.2.1 todo m gone→(gone++todo).length≤(objs v).length:=fun h=>amq h.nod fun x hx=>(h.thg x hx).1
    have hfv:=hSW.few
    refine Def.aaH (fun s10:(D7×(Unit×((List Int)×((List Int)×Unit))))×(List Int×(List (Int×Int)×List Int))=>s10.1.1=v∧Mid (objs v) v.2.2.1 [] s10.2.2.1 s10.2.2.2) (fun s10 hs=>?_) (fun j10 hj10=>?_)
    ·obtain ⟨hx,hM⟩:=hs
     have hgl:=hlen hM
     rw [List.append_nil] at hgl
     obtain ⟨q1,q2⟩:=anL hM
     have hnd:s10.2.2.2.Nodup:=by have:=hM.nod;rwa [List.append_nil] at this
     have hsr:=amu hnd
     have hsl:(s10.2.2.2.mergeSort (fun a b=>decide (a≤b))).length=s10.2.2.2.length:=List.length_mergeSort _
     refine Def.bind (Def.of (ayI _ (by omega)) ?_)
     obtain ⟨srt,hsrt⟩:∃ srt,srt=s10.2.2.2.mergeSort (fun a b=>decide (a≤b)):=⟨_,rfl⟩
     rw [← hsrt] at q1 q2 hsr hsl ⊢
     refine Def.aaH (fun s15:D7×List D6=>s15=(v,(rounds v.2.2.1 (objs v).length (objs v) []).1)) (fun s15 h15=>?_) (fun j15 hj15=>?_)
     ·subst h15
      exact .ret (by simp only;rw [q1])
     ·simp only [aaB]
      rw [hx]
      refine Def.ayo (l:=objs v) (fun s:Int×D7×List D6=>s.1) (fun pre s=>s.2.1=v∧s.2.2=pre.filter (fun o=>!srt.contains o.1)) (by omega) rfl ⟨rfl,rfl⟩ (fun pre u post s e hs hi=>?_) (fun s hs hi=>.done (hj15 _ ?_))
      ·refine Def.bind' (by rw [hs];exact Def.at e) (fun u' hu=>?_)
       subst hu
       obtain ⟨i1,i2⟩:=hi
       refine Def.bind (Def.of (avo srt u'.1 (by omega) hsr) ?_)
       have hpl:pre.length≤20:=by rw [e] at hfv;simp at hfv;omega
       have hfl:(pre.filter (fun o=>!srt.contains o.1)).length≤pre.length:=List.length_filter_le _ _
       refine Def.ite (fun h9=>?_) (fun h9=>?_)
       ·have h9:u'.1 ∉ srt:=by simpa using h9
        refine Def.bind (.ret ?_)
        refine Def.bind (Def.app (by rw [i2];simp only [List.length_cons,List.length_nil];omega) (.turn ⟨by rw [hs],i1,?_⟩))
        rw [i2,List.filter_append];simp [h9]
       ·have h9:u'.1∈srt:=by simpa using h9
        refine .turn ⟨by rw [hs],i1,?_⟩
        rw [i2,List.filter_append];simp [h9]
      ·rw [hi.1,hi.2,q2]
    ·simp only [aaB]
     refine Def.loop (fun s:(D7×(Unit×((List Int)×((List Int)×Unit))))×(List Int×(List (Int×Int)×List Int))=>s.1.1=v∧Mid (objs v) v.2.2.1 s.2.1 s.2.2.1 s.2.2.2) (fun s=>(objs v).length - s.2.2.2.length) ⟨rfl,hmid⟩ (fun s hi=>?_)
     obtain ⟨X,td,mm,gone⟩:=s
     obtain ⟨hx,hM⟩:=hi
     simp only at hx hM
     refine Def.ite (fun h9=>.done (hj10 _ ⟨hx,?_⟩)) (fun h9=>?_)
     ·have h9:td=[]:=by
       simp only [beq_iff_eq] at h9
       exact List.eq_nil_of_length_eq_zero (by omega)
      subst h9;exact hM
     ·cases td with
      | nil=>simp at h9
      | cons x rest =>
       have hgl:=hlen hM
       simp only [List.length_append,List.length_cons] at hgl
       obtain ⟨o,ho,ex,hf⟩:=asz hSW.ris (hM.thg x (by simp)).1
       subst ex
       refine Def.bind (Def.of (a:=o.1) rfl ?_)
       rw [hx]
       refine Def.bind (Def.of ((avp v o.1 (by omega) hSW.ris).trans (congrArg some hf)) ?_)
       refine Def.bind (Def.of (a:=rest) ?_ ?_)
       ·simp only
        rw [azI,if_pos ⟨by omega,by simp only [List.length_cons];omega,by omega⟩]
        simp
       ·refine Def.bind (.ret ?_)
        refine Def.bind (Def.app (by simp only [List.length_cons,List.length_nil];omega) ?_)
        refine Def.ayo (l:=lnk o) (fun s:Int×(D7×(Unit×((List Int)×((List Int)×Unit))))×(List Int×List (Int×Int))=>s.1) (fun q s=>s.2.1.1=v∧anK (objs v) v.2.2.1 gone o.1 q s.2.2.1 s.2.2.2) (by have:=hSW.lns o ho;omega) rfl ⟨hx,hM.start⟩ (fun q z post s e hs hi=>?_) (fun s hs hi=>.done (.turn ⟨⟨hi.1,hi.2.fin hSW hM ho⟩,?_⟩))
        ·refine Def.bind' (by rw [hs];exact Def.at e) (fun z' hz=>?_)
         subst hz
         obtain ⟨i1,i2⟩:=hi
         obtain ⟨k1,k2⟩:=i2.step hSW hM ho e
         have hc1:=cnt_le (l:=(objs v).filter fun d=>!gone.contains d.1) (x:=z')
         have hc2:=anI (l:=(objs v).filter fun d=>!gone.contains d.1) (fun d hd=>hSW.lns d (List.mem_filter.1 hd).1)
         have hc3:((objs v).filter fun d=>!gone.contains d.1).length≤(objs v).length:=List.length_filter_le _ _
         have hc4:=i2.map z'
         have hw2:IntKind.wrap .i64 (aa6 0 s.2.2.2 z' - 1)=aa6 0 s.2.2.2 z' - 1:=wrap_i64 (by omega) (by omega)
         rw [hw2]
         have hg:aa6 0 (adx s.2.2.2 z' (aa6 0 s.2.2.2 z' - 1)) z' = aa6 0 s.2.2.2 z' - 1:=by rw [afA,if_pos rfl]
         rw [hg]
         have htl:=amq i2.nod fun x hx=>(i2.thg x hx).1
         simp only [List.length_append] at htl
         refine Def.ite (fun h8=>?_) (fun h8=>?_)
         ·have h8:aa6 0 s.2.2.2 z' - 1=0:=by simpa using h8
          rw [if_pos h8] at k2
          refine Def.bind (.ret ?_)
          exact Def.bind (Def.app (by simp only [List.length_cons,List.length_nil];omega) (.turn ⟨by rw [hs],i1,k2⟩))
         ·have h8 : ¬ aa6 0 s.2.2.2 z' - 1=0:=by simpa using h8
          rw [if_neg h8] at k2
          exact .turn ⟨by rw [hs],i1,k2⟩
        ·simp only [List.length_append,List.length_cons,List.length_nil];omega
   ·have hg:aa6 0 (adx m b (aa6 0 m b - 1)) b=aa6 0 m b - 1:=by rw [afA,if_pos rfl]
    rw [hg]
    refine Def.ite (fun h9=>?_) (fun h9=>?_)
    ·refine Def.bind (.ret ?_)
     refine Def.bind (Def.app (by simp) (hj9 _ ?_))
     have h9:aa6 0 m b - 1=0:=by simpa using h9
     rw [if_pos h9];rfl
    ·have h9 : ¬ aa6 0 m b - 1=0:=by simpa using h9
     exact hj9 _ (by rw [if_neg h9])
 ·simp only [aaB]
  refine Def.ayo (l:=objs w) (fun s:Int×List (Int×Int)=>s.1) (fun pre s=>∀ x,aa6 0 s.2 x=(cnt pre x:Nat)) (by omega) rfl (by simp [cnt,aa6]) (fun pre u post s e hs hi=>?_) (fun s hs hi=>.done (hj5 s.2 hi))
  refine Def.bind' (by rw [hs];exact Def.at e) (fun u' hu=>?_)
  subst hu
  have hum:u' ∈ objs w:=by rw [e];simp
  have hpre:pre.length≤20:=by rw [e] at hfew;simp at hfew;omega
  have hfp:=anI (l:=pre) (fun o ho=>hw.lns o (by rw [e];exact List.mem_append_left _ ho))
  have h70:=hw.lns u' hum
  refine Def.ayo (l:=lnk u') (fun s:Int×List (Int×Int)=>s.1) (fun q s=>∀ x,aa6 0 s.2 x=((cnt pre x+q.count x:Nat):Int)) (by omega) rfl (by simpa using hi) (fun q z post' s' e' hs' hi'=>?_) (fun s' hs' hi'=>.done (.turn ⟨by rw [hs],fun x=>?_⟩))
  ·refine Def.bind' (by rw [hs'];exact Def.at e') (fun z' hz=>?_)
   subst hz
   have hq:q.count z' ≤ q.length:=List.count_le_length
   have hql:q.length≤70:=by rw [e'] at h70;simp at h70;omega
   have hcl:=cnt_le (l:=pre) (x:=z')
   refine .turn ⟨by rw [hs'],fun x=>?_⟩
   rw [afA,hi',wrap_i64 (by omega) (by omega)]
   by_cases hx:x=z'
   ·subst hx;rw [if_pos rfl];simp [List.count_append];omega
   ·rw [if_neg hx,hi',List.count_append]
    simp [List.count_cons,Ne.symm hx,fun h:z' = x=>hx h.symm]
  ·rw [hi' x,afg,ak4]
end Go.Fn
namespace Go.Fn
open Go Go.Ab Go.Tx
theorem ayJ (w:D7) (hok:∀ o∈objs w,OkO o):Def (F6 w) fun b=>b=true→Whole (objs w) w.2.2.1:=by
 unfold F6
 refine Def.ite (fun h=>.ret (fun h=>by cases h)) (fun h=>?_)
 have hn:(objs w).length≤20:=by simp at h;exact_mod_cast h
 simp only [aaB,acX]
 refine Def.loop (fun i:Int=>0≤i∧i≤(objs w).length∧∀ o∈(objs w).take i.toNat,azL o) (fun i:Int=>(objs w).length - i.toNat) ⟨by omega,by omega,by simp⟩ (fun i hi=>?_)
 refine Def.ite (fun h1=>?_) (fun h1=>?_)
 ·have h1:i<(objs w).length:=by simpa [objs] using h1
  refine Def.bind (Def.idx hi.1 h1 (fun o ho hm=>?_))
  refine Def.ite (fun h2=>.done (.ret (fun h=>by cases h))) (fun h2=>.turn ?_)
  have hw:IntKind.wrap .i64 (i+1)=i+1:=wrap_i64 (by omega) (by omega)
  have e:(i+1).toNat=i.toNat+1:=by omega
  rw [hw]
  refine ⟨⟨by omega,by omega,?_⟩,by omega⟩
  rw [e,List.take_add_one,ho]
  intro x hx
  rcases List.mem_append.1 hx with hx | hx
  ·exact hi.2.2 x hx
  ·simp at hx;subst hx
   simp at h2
   exact ⟨by omega,by omega,by omega,by omega⟩
 ·have h1 : ¬ i<(objs w).length:=by simpa [objs] using h1
  have e:i.toNat=(objs w).length:=by omega
  have hf:=hi.2.2
  rw [e,List.take_length] at hf
  exact .done (Def.bind' (axp w hn hf hok) fun b hb=>.ret fun h=>(hb h).1)
theorem azu {l:List D6} {root:Int} (h:Whole l root):SW l root∧∀ o∈l,o.1≠root→∃ d∈l,o.1∈lnk d:=by
 refine ⟨⟨h.few,h.ids,h.lns,h.lnk,h.has,fun o ho hx=>?_⟩,fun o ho hr=>?_⟩
 ·obtain ⟨r,hr,e⟩:=h.top
  have h0:=(amg h hr e).1
  have:o.1∈aaY l r.1:=acs.2 ⟨o,ho,by rw [e];exact hx,rfl⟩
  rw [h0] at this;cases this
 ·have h0:=held h ho hr
  cases hh:aaY l o.1 with
  | nil=>exact absurd hh h0
  | cons d ds =>
   have:d∈aaY l o.1:=by rw [hh];exact List.mem_cons_self
   obtain ⟨e,he,h3,_⟩:=acs.1 this
   exact ⟨e,he,h3⟩
theorem asB {o:D6} {l:List Int} (h:OkO o) (hl:l.length≤big):OkO (aa1 o l):=⟨h.lab,hl,h.dat,h.mps,h.clr,h.alr,h.lbs,h.gra,h.gcl,h.inn,h.out⟩
end Go.Fn
namespace Go.Fn
open Go Go.Ab Go.Tx
def unO (a b:Int) (o:D6):D6:=if o.1=a then aa1 o ((lnk o).filter (· != b)) else o
def unl (l:List D6) (a b:Int):List D6:=l.map (unO a b)
theorem aj0 (a b:Int) (o:D6):(unO a b o).1=o.1:=by unfold unO;split <;> rfl
theorem ak6 {a b:Int} {o:D6} {x:Int}:x∈lnk (unO a b o)↔x∈lnk o∧¬ (o.1=a∧x=b):=by
 unfold unO
 by_cases h:o.1=a
 ·rw [if_pos h]
  show x∈List.filter _ _↔_
  simp [h]
 ·rw [if_neg h];simp [h]
theorem axw (a b:Int) (o:D6):(lnk (unO a b o)).length≤(lnk o).length:=by
 unfold unO
 split
 ·exact List.length_filter_le _ _
 ·exact Nat.le_refl _
theorem auM {a b:Int} {o:D6} (h:(lnk o).Pairwise (· < ·)):(lnk (unO a b o)).Pairwise (· < ·):=by
 unfold unO
 split
 ·exact h.filter _
 ·exact h
theorem auN (a b c d:Int) (o:D6):unO c d (unO a b o)=unO a b (unO c d o):=by
 have hs:∀ (o:D6) (k m:List Int),aa1 (aa1 o k) m=aa1 o m:=fun _ _ _=>rfl
 have hl:∀ (o:D6) (k:List Int),lnk (aa1 o k)=k:=fun _ _=>rfl
 have hi:∀ (o:D6) (k:List Int),(aa1 o k).1=o.1:=fun _ _=>rfl
 by_cases h1:o.1=a <;> by_cases h2:o.1=c
 ·have e1:unO a b o=aa1 o ((lnk o).filter (· != b)):=by unfold unO;rw [if_pos h1]
  have e2:unO c d o=aa1 o ((lnk o).filter (· != d)):=by unfold unO;rw [if_pos h2]
  rw [e1,e2]
  unfold unO
  rw [hi,hi,if_pos h1,if_pos h2,hs,hs,hl,hl,List.filter_filter,List.filter_filter]
  exact congrArg (aa1 o) (List.filter_congr fun x _=>Bool.and_comm _ _)
 ·have e1:unO a b o=aa1 o ((lnk o).filter (· != b)):=by unfold unO;rw [if_pos h1]
  have e2:unO c d o=o:=by unfold unO;rw [if_neg h2]
  rw [e1,e2,e1]
  unfold unO
  rw [hi,if_neg h2]
 ·have e1:unO a b o=o:=by unfold unO;rw [if_neg h1]
  have e2:unO c d o=aa1 o ((lnk o).filter (· != d)):=by unfold unO;rw [if_pos h2]
  rw [e1,e2]
  unfold unO
  rw [hi,if_neg h1]
 ·have e1:unO a b o=o:=by unfold unO;rw [if_neg h1]
  have e2:unO c d o=o:=by unfold unO;rw [if_neg h2]
  rw [e1,e2,e1]
theorem auO (l:List D6) (a b c d:Int):unl (unl l a b) c d=unl (unl l c d) a b:=by
 unfold unl
 rw [List.map_map,List.map_map]
 exact List.map_congr_left fun o _=>auN a b c d o
theorem apL (l:List D6) (a b:Int) (p:Int→Bool):unl (l.filter fun o=>p o.1) a b=(unl l a b).filter fun o=>p o.1:=by
 unfold unl
 rw [List.filter_map]
 congr 1
 exact List.filter_congr fun o _=>by simp [aj0]
theorem aeJ {l:List D6} {a b:Int} {x:D6}:x∈unl l a b↔∃ o∈l,unO a b o=x:=by simp [unl]
theorem aiY {l:List D6} {a b x:Int}:(∃ o∈unl l a b,o.1=x)↔∃ o∈l,o.1=x:=by
 constructor
 ·rintro ⟨o,ho,rfl⟩
  obtain ⟨d,hd,rfl⟩:=aeJ.1 ho
  exact ⟨d,hd,(aj0 ..).symm⟩
 ·rintro ⟨o,ho,rfl⟩
  exact ⟨_,aeJ.2 ⟨o,ho,rfl⟩,aj0 ..⟩
theorem SW.unl {l:List D6} {root:Int} (h:SW l root) (a b:Int):SW (unl l a b) root:=by
 refine ⟨by simpa [Fn.unl] using h.few,?_,fun o ho=>?_,fun o ho=>?_,fun o ho x hx=>?_,fun o ho hx=>?_⟩
 ·unfold Fn.unl
  rw [List.pairwise_map]
  exact h.ris.imp fun hab=>by rw [aj0,aj0];exact hab
 ·obtain ⟨d,hd,rfl⟩:=aeJ.1 ho
  have:=h.lns d hd;have:=axw a b d;omega
 ·obtain ⟨d,hd,rfl⟩:=aeJ.1 ho
  exact auM (h.lnk d hd)
 ·obtain ⟨d,hd,rfl⟩:=aeJ.1 ho
  exact aiY.2 (h.has d hd x (ak6.1 hx).1)
 ·obtain ⟨d,hd,rfl⟩:=aeJ.1 ho
  exact h.top d hd (ak6.1 hx).1
theorem auP {l:List D6} {root:Int} (h:SW l root) {o:D6} (ho:o∈l) (b:Int):agL l (aa1 o ((lnk o).filter (· != b)))=unl l o.1 b:=by
 obtain ⟨A,B,hA,hP⟩:=amr (o':=aa1 o ((lnk o).filter (· != b))) h.ris ho rfl
 have hr:=h.ris
 rw [hP]
 rw [hA,List.pairwise_append,List.pairwise_cons] at hr
 have hid:∀ {C:List D6},(∀ d∈C,d.1≠o.1)→C.map (unO o.1 b)=C:=fun {C} hC=>by
  conv=>rhs;rw [← List.map_id C]
  exact List.map_congr_left fun d hd=>by unfold unO;rw [if_neg (hC d hd)];rfl
 conv=>rhs;rw [hA]
 unfold unl
 rw [List.map_append,List.map_cons,hid fun d hd=>by have:=hr.2.2 d hd o List.mem_cons_self;omega,hid fun d hd=>by have:=hr.2.1.1 d hd;omega]
 unfold unO
 rw [if_pos rfl]
def Held (l:List D6) (root:Int):Prop:=∀ o∈l,o.1≠root→∃ d∈l,o.1∈lnk d
structure aer (l:List D6) (root a b:Int) (L:List Int) (l' : List D6):Prop where
 one:∃ o∈l,o.1=a∧b∈lnk o
 goes:Goes (unl l a b) root L l'
 clo:Clo (unl l a b) root L
theorem aes {w:D7} {a b:Int} (hw:SW (objs w) w.2.2.1):(axD w a b=(w,[],1)∧¬ ∃ o∈objs w,o.1=a∧b∈lnk o)∨∃ L l',axD w a b=(aa2 w l',L,0)∧aer (objs w) w.2.2.1 a b L l':=by
 unfold axD
 by_cases hc:(abR (objs w) a).2=false∨b ∉ lnk (abR (objs w) a).1
 ·rw [if_pos hc]
  refine .inl ⟨rfl,?_⟩
  rintro ⟨o,ho,rfl,hb⟩
  rw [agE hw.ris o ho] at hc
  rcases hc with hc | hc
  ·cases hc
  ·exact hc hb
 ·rw [if_neg hc]
  have hf:(abR (objs w) a).2=true:=by
   cases h9:(abR (objs w) a).2 with
   | true=>rfl
   | false=>exact absurd (.inl h9) hc
  have hb:b∈lnk (abR (objs w) a).1:=Classical.byContradiction fun h9=>hc (.inr h9)
  obtain ⟨ho,e⟩:=agF hf
  have hp:=auP hw ho b
  rw [e] at hp
  have hlen:(agL (objs w) (aa1 (abR (objs w) a).1 ((lnk (abR (objs w) a).1).filter (· != b)))).length≤1024:=by
   rw [hp];have:=hw.few;simp [unl];omega
  have hv:auD w (aa1 (abR (objs w) a).1 ((lnk (abR (objs w) a).1).filter (· != b)))=aa2 w (unl (objs w) a b):=by
   unfold auD;rw [if_pos hlen,hp]
  simp only [hv]
  obtain ⟨g1,g2⟩:=aiX (root:=w.2.2.1) (unl (objs w) a b).length (unl (objs w) a b) [] (aoG _ _) (Nat.le_refl _)
  exact .inr ⟨_,_,rfl,⟨_,ho,e,hb⟩,g1,aoF g1 g2⟩
namespace aer
variable {l:List D6} {root a b:Int} {L:List Int} {l' : List D6}
theorem mem (h:aer l root a b L l') {x:D6}:x∈l' ↔ x∈unl l a b∧x.1 ∉ L:=by rw [h.goes.left];simp
theorem gone (h:aer l root a b L l') {x:Int} (hx:x∈L) {o:D6} (ho:o∈unl l a b) (hl:x∈lnk o):o.1∈L:=by
 obtain ⟨A,h1,_,h3⟩:=h.goes.ord
 obtain ⟨pre,post,e⟩:=List.append_of_mem ((h1 x).2 hx)
 have:=h3 pre x post e o ho hl
 exact (h1 _).1 (by rw [e];simp [this])
theorem thing (h:aer l root a b L l') {x:Int} (hx:x∈L):(∃ o∈l,o.1=x)∧x≠root:=by
 obtain ⟨A,h1,h2,_⟩:=h.goes.ord
 obtain ⟨h3,h4⟩:=h2 x ((h1 x).2 hx)
 exact ⟨aiY.1 h3,h4⟩
theorem none (h:aer l root a b L l') {x:Int} (hx:x∈L):∀ o∈l',x ∉ lnk o:=fun o ho hl=>by
 obtain ⟨h1,h2⟩:=h.mem.1 ho
 exact h2 (h.gone hx h1 hl)
theorem sw (h:aer l root a b L l') (hw:SW l root):SW l' root:=by
 have hu:=hw.unl a b
 refine ⟨?_,?_,fun o ho=>hu.lns o (h.mem.1 ho).1,fun o ho=>hu.lnk o (h.mem.1 ho).1,fun o ho x hx=>?_,fun o ho=>hu.top o (h.mem.1 ho).1⟩
 ·rw [h.goes.left]
  exact Nat.le_trans (List.length_filter_le _ _) hu.few
 ·rw [h.goes.left];exact hu.ris.filter _
 ·obtain ⟨y,hy,rfl⟩:=hu.has o (h.mem.1 ho).1 x hx
  exact ⟨y,h.mem.2 ⟨hy,fun hc=>h.none hc o ho hx⟩,rfl⟩
theorem held (h:aer l root a b L l'):Held l' root:=fun o ho hr=>by
 obtain ⟨h1,h2⟩:=h.mem.1 ho
 obtain ⟨d,hd,h3,h4⟩:=h.clo o h1 hr h2
 exact ⟨d,h.mem.2 ⟨hd,h3⟩,h4⟩
theorem head (h:aer l root a b L l') (hh:Held l root) (hL:L≠[]):∀ o∈unl l a b,b ∉ lnk o:=by
 obtain ⟨A,h1,h2,h3⟩:=h.goes.ord
 cases A with
 | nil =>
  cases L with
  | nil=>exact absurd rfl hL
  | cons x L=>have:=(h1 x).2 (by simp);cases this
 | cons y A =>
  obtain ⟨h4,h5⟩:=h2 y (by simp)
  obtain ⟨o,ho,rfl⟩:=aiY.1 h4
  obtain ⟨d,hd,hl⟩:=hh o ho h5
  have hno:∀ c∈unl l a b,o.1 ∉ lnk c:=fun c hc hx=>by
   have:=h3 [] o.1 A rfl c hc hx
   cases this
  have hb:d.1=a∧o.1=b:=Classical.byContradiction fun hn=>hno _ (aeJ.2 ⟨d,hd,rfl⟩) (ak6.2 ⟨hl,hn⟩)
  intro c hc
  have:=hno c hc
  rwa [hb.2] at this
theorem bR (h:aer l root a b L l') (hw:SW l root):b≠root∧∃ y∈l,y.1=b:=by
 obtain ⟨o,ho,_,hb⟩:=h.one
 exact ⟨fun e=>hw.top o ho (e ▸ hb),hw.has o ho b hb⟩
theorem below (h:aer l root a b L l') (hw:SW l root) (hh:Held l root) {o:D6} (ho:o∈l) (e:o.1=b) {x:Int} (hx:x∈lnk o):(∃ y∈l',y.1=x)↔(∃ y∈l',y.1=b)∨aaY l' x≠[]:=by
 have hs:=h.sw hw
 obtain ⟨hbr,hby⟩:=h.bR hw
 have hxr:x≠root:=fun hc=>hw.top o ho (hc ▸ hx)
 constructor
 ·rintro ⟨y,hy,rfl⟩
  obtain ⟨d,hd,hl⟩:=h.held y hy hxr
  refine .inr fun hc=>?_
  have:d.1∈aaY l' y.1:=acs.2 ⟨d,hd,hl,rfl⟩
  rw [hc] at this;cases this
 ·rintro (⟨y,hy,hyb⟩ | hn)
  ·have hL:L=[]:=Classical.byContradiction fun hL=>by
    obtain ⟨h1,h2⟩:=h.mem.1 hy
    obtain ⟨d,hd,_,h4⟩:=h.clo y h1 (hyb ▸ hbr) h2
    exact h.head hh hL d hd (hyb ▸ h4)
   obtain ⟨y,hy,rfl⟩:=aiY (a:=a) (b:=b) |>.2 (hw.has o ho x hx)
   exact ⟨y,h.mem.2 ⟨hy,by rw [hL];simp⟩,rfl⟩
  ·cases hc:aaY l' x with
   | nil=>exact absurd hc hn
   | cons d ds =>
    have:d∈aaY l' x:=by rw [hc];simp
    obtain ⟨c,hc,hl,_⟩:=acs.1 this
    exact hs.has c hc x hl
end aer
theorem twice {l:List D6} {root a b c d:Int} {L M:List Int} {l1 l2:List D6} (h1:aer l root a b L l1) (h2:aer l1 root c d M l2) :
  l2=(unl (unl l a b) c d).filter (fun o=>!(L++M).contains o.1)∧(L++M).Nodup∧(∃ A:List Int,(∀ x,x∈A↔x∈L++M)∧Things (unl (unl l a b) c d) root A∧Ord (unl (unl l a b) c d) A)∧Clo (unl (unl l a b) c d) root (L++M):=by
 have hu:unl l1 c d=(unl (unl l a b) c d).filter fun o=>!L.contains o.1:=by
  rw [h1.goes.left]
  exact apL _ c d fun x=>!L.contains x
 have hmu:∀ {x:D6},x∈unl l1 c d↔x∈unl (unl l a b) c d∧x.1 ∉ L:=fun {x}=>by rw [hu];simp
 have hl2:l2=(unl (unl l a b) c d).filter (fun o=>!(L++M).contains o.1):=by
  rw [h2.goes.left,hu,List.filter_filter]
  exact List.filter_congr fun o _=>by
   by_cases e1:o.1∈L <;> by_cases e2:o.1∈M <;> simp [e1,e2]
 refine ⟨hl2,?_,?_,?_⟩
 ·rw [List.nodup_append]
  refine ⟨h1.goes.rise.imp (fun h=>by omega),h2.goes.rise.imp (fun h=>by omega),fun x hx y hy e=>?_⟩
  subst e
  obtain ⟨⟨o,ho,rfl⟩,_⟩:=h2.thing hy
  exact (h1.mem.1 ho).2 hx
 ·obtain ⟨A,a1,a2,a3⟩:=h1.goes.ord
  obtain ⟨B,b1,b2,b3⟩:=h2.goes.ord
  refine ⟨A++B,fun x=>by simp [a1,b1],fun x hx=>?_,fun pre x post e o ho hx=>?_⟩
  ·rcases List.mem_append.1 hx with hx | hx
   ·obtain ⟨h3,h4⟩:=a2 x hx
    exact ⟨aiY.2 h3,h4⟩
   ·obtain ⟨⟨o,ho,e⟩,h4⟩:=b2 x hx
    exact ⟨⟨o,(hmu.1 ho).1,e⟩,h4⟩
  ·have hA:∀ {pre' post'},A=pre' ++ x::post' → o.1∈pre':=fun e'=>by
    obtain ⟨q,hq,rfl⟩:=aeJ.1 ho
    rw [aj0]
    exact a3 _ _ _ e' q hq (ak6.1 hx).1
   have hB:∀ {pre' post'},B=pre' ++ x::post' → o.1∈A∨o.1∈pre':=fun e'=>by
    by_cases hl:o.1∈L
    ·exact .inl ((a1 _).2 hl)
    ·exact .inr (b3 _ _ _ e' o (hmu.2 ⟨ho,hl⟩) hx)
   rcases List.append_eq_append_iff.1 e with ⟨q,e1,e2⟩ | ⟨q,e1,e2⟩
   ·subst e1
    rcases hB e2 with h | h <;> simp [h]
   ·cases q with
    | nil =>
     simp only [List.append_nil] at e1
     subst e1
     rcases hB (pre':=[]) e2.symm with h | h
     ·exact h
     ·cases h
    | cons y q =>
     injection e2 with e3 e4
     subst e3
     exact hA e1
 ·intro o ho hr hn
  have hn' : o.1 ∉ L∧o.1 ∉ M:=by simpa using hn
  obtain ⟨q,hq,h3,h4⟩:=h2.clo o (hmu.2 ⟨ho,hn'.1⟩) hr hn'.2
  obtain ⟨h5,h6⟩:=hmu.1 hq
  exact ⟨q,h5,by simp [h3,h6],h4⟩
theorem apM {l:List D6} {root a b c d:Int} {L1 L2 M1 M2:List Int} {l1 l2 m1 m2:List D6} (h1:aer l root a b L1 l1) (h2:aer l1 root c d L2 l2) (k1:aer l root c d M1 m1) (k2:aer m1 root a b M2 m2):l2=m2∧L1.length+L2.length=M1.length+M2.length:=by
 obtain ⟨e1,n1,⟨A,a1,a2,a3⟩,c1⟩:=twice h1 h2
 obtain ⟨e2,n2,⟨B,b1,b2,b3⟩,c2⟩:=twice k1 k2
 rw [auO] at e2 b2 b3 c2
 have s1:∀ x,x∈L1++L2→x∈M1++M2:=fun x hx=>ak3 a2 a3 c2 x ((a1 x).2 hx)
 have s2:∀ x,x∈M1++M2→x∈L1++L2:=fun x hx=>ak3 b2 b3 c1 x ((b1 x).2 hx)
 constructor
 ·rw [e1,e2]
  exact List.filter_congr fun o _=>by
   by_cases h:o.1∈L1++L2
   ·have h':=s1 _ h
    rw [List.contains_eq_mem,List.contains_eq_mem,decide_eq_true h,decide_eq_true h']
   ·have h' : o.1 ∉ M1++M2:=fun hc=>h (s2 _ hc)
    rw [List.contains_eq_mem,List.contains_eq_mem,decide_eq_false h,decide_eq_false h']
 ·have l1:=aiP _ _ n1 s1
  have l2:=aiP _ _ n2 s2
  simp only [List.length_append] at l1 l2;omega
end Go.Fn
namespace Go.Fn
open Go Go.Ab Go.Tx
theorem azU:aiG 100 L7.tr 7 (toVs [] ()) .bool=some true:=by kernel_rfl
theorem ayK:F7=some true:=aur (n:=100) (g:=7) («as»:=[]) (rty:=.bool) (l:=L7.tr) (F:=L8.cf) (f:=fun _=>F7) L7.le () azU
theorem ayL {a b:Int} {o:D6} (h:OkO o):OkO (unO a b o):=by
 unfold unO
 split
 ·exact asB h (Nat.le_trans (List.length_filter_le _ _) h.lnk)
 ·exact h
theorem aer.okO {l:List D6} {root a b:Int} {L:List Int} {l' : List D6} (h:aer l root a b L l') (hok:∀ o∈l,OkO o):∀ o∈l',OkO o:=fun o ho=>by
 obtain ⟨d,hd,rfl⟩:=aeJ.1 (h.mem.1 ho).1
 exact ayL (hok d hd)
theorem azv (w:D7) (a b c d:Int) (hok:∀ o∈objs w,OkO o):F5 w a b c d=some true:=by
 obtain ⟨f,h1,h2⟩:=ayJ w hok
 unfold F5
 rw [h1,Option.bind_some,ayK]
 cases f with
 | false=>simp only [Bool.not_false,if_true,Option.bind_some]
 | true =>
  obtain ⟨hSW,hheld⟩:=azu (h2 rfl)
  have hfew:=hSW.few
  simp only [Bool.not_true,Bool.false_eq_true,if_false,auL w a b hSW hheld,auL w c d hSW hheld,Option.bind_some,Bool.and_true]
  rcases aes (a:=a) (b:=b) hSW with ⟨e1,_⟩ | ⟨K1,l1,e1,s1⟩
  ·rw [e1];rfl
  rcases aes (a:=c) (b:=d) hSW with ⟨e2,_⟩ | ⟨M1,m1,e2,t1⟩
  ·rw [e1,e2];rfl
  rw [e1,e2]
  by_cases hac:(if (a==c)=true then (b==d) else false)=true
  ·simp only [bne_self_eq_false,Bool.false_eq_true,if_false,hac,if_true]
  simp only [bne_self_eq_false,Bool.false_eq_true,if_false,hac]
  have q1:=s1.sw hSW
  have r1:=t1.sw hSW
  rw [auL (aa2 w l1) c d q1 s1.held,Option.bind_some,auL (aa2 w m1) a b r1 t1.held,Option.bind_some]
  rcases aes (w:=aa2 w l1) (a:=c) (b:=d) q1 with ⟨e3,_⟩ | ⟨K2,l2,e3,s2⟩
  ·rcases aes (w:=aa2 w m1) (a:=a) (b:=b) r1 with ⟨e4,_⟩ | ⟨M2,m2,e4,t2⟩
   ·rw [e3,e4];rfl
   ·rw [e3,e4];rfl
  rcases aes (w:=aa2 w m1) (a:=a) (b:=b) r1 with ⟨e4,_⟩ | ⟨M2,m2,e4,t2⟩
  ·rw [e3,e4];rfl
  rw [e3,e4]
  obtain ⟨k1,k2⟩:=apM s1 s2 t1 t2
  have k3:aa2 (aa2 w l1) l2=aa2 (aa2 w m1) m2:=by rw [k1]
  simp only [bne_self_eq_false,Bool.false_eq_true,if_false,k3,k2]
  have hb:(1000:Nat)≤big:=by decide
  have hm:=(t2.sw r1).few
  have k4:=axq (aa2 (aa2 w m1) m2) (by show m2.length≤big;omega) (t2.okO (t1.okO hok))
  rw [k4]
  have e5:IntKind.wrap .i64 (((List.length K1:Nat):Int)+((List.length K2:Nat):Int))=IntKind.wrap .i64 (((List.length M1:Nat):Int)+((List.length M2:Nat):Int)):=by
   congr 1;omega
  simp only [Option.bind_some,if_true,e5,beq_self_eq_true,acX]
theorem ayM {o:D6} (h:wfT t6 o):OkO o:=by
 obtain ⟨_,_,h1,_,_,h2,h3,h4,h5,h6,h7,h8,_⟩:=h
 obtain ⟨_,_,c1,_,_,_,_,_,c2,_,c3,_⟩:=h5
 obtain ⟨g1,g2,_⟩:=h6
 exact ⟨h1.1,h2.1,h3.1,h4.1,c1.1,c2.1,fun i=>(c3 i).1,g1.1,g2.1,h7.1,h8.1⟩
theorem F5_true (w:D7) (a b c d:Int) (h:wfT t7 w):F5 w a b c d=some true:=by
 obtain ⟨_,_,_,h,_⟩:=h
 exact azv w a b c d (fun o ho=>ayM (h.2 o ho))
end Go.Fn
namespace Go.Fn
set_option maxRecDepth 100000
open Go Go.Ab Go.Tx
theorem law5 {st:agK [t7,(.int .u64),(.int .u64),(.int .u64),(.int .u64)]} (h:abg (toVs [t7,(.int .u64),(.int .u64),(.int .u64),(.int .u64)] st)→F5 st.1 st.2.1 st.2.2.1 st.2.2.2.1 st.2.2.2.2=some true):adO Go.Proofs.Try.prog 5 ((toVs [t7,(.int .u64),(.int .u64),(.int .u64),(.int .u64)] st).map Val.d) [.b true] :=
 ayp L9 pm 5 [t7,(.int .u64),(.int .u64),(.int .u64),(.int .u64)] .bool (fun st=>F5 st.1 st.2.1 st.2.2.1 st.2.2.2.1 st.2.2.2.2) [] [] [] aat (fun st=>by kernel_rfl) (by kernel_rfl) h
end Go.Fn
