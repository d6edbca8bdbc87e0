import Derived.Test.YtleeccmcgophfaaGreatPM
import Derived.Test.YtleeccmcgophfaaGreatPL
import Derived.Test.YtleeccmcgophfaaGreatPJ
set_option linter.all false
namespace Go.Fn
open Go Go.Ab Go.Tx
theorem qw (z:Int) (a c b:Int):∀ l:List (Int×Int),bU z (jW l a c) b=if b=a then c else bU z l b
 | []=>by simp only [jW,bU]
 | (k,e)::l=>by
  have ih:=qw z a c b l
  simp only [jW]
  by_cases h:a=k
  ·subst h
   simp only [if_true,bU]
   split <;> rfl
  ·rw [if_neg h]
   simp only [bU,ih]
   by_cases h2:b=k
   ·subst h2
    rw [if_pos rfl,if_neg (fun e=>h e.symm)];simp
   ·rw [if_neg h2,if_neg h2]
def cnt (l:List D6) (x:Int):Nat:=(l.flatMap lnk).count x
theorem pG (a b:List D6) (x:Int):cnt (a++b) x=cnt a x+cnt b x:=by simp [cnt,List.count_append]
theorem DI (o:D6) (x:Int):cnt [o] x=(lnk o).count x:=by simp [cnt]
theorem DJ {l:List D6} {x:Int}:cnt l x=0↔∀ d∈l,x ∉ lnk d:=by
 unfold cnt
 rw [List.count_eq_zero,List.mem_flatMap]
 exact ⟨fun h d hd hx=>h ⟨d,hd,hx⟩,fun h ⟨d,hd,hx⟩=>h d hd hx⟩
theorem cnt_le {l:List D6} {x:Int}:cnt l x≤(l.flatMap lnk).length:=List.count_le_length
theorem IC {l:List D6} (h:∀ o∈l,(lnk o).length≤70):(l.flatMap lnk).length≤l.length * 70:=by
 induction l with
 | nil=>simp
 | cons o l ih =>
  have h1:=h o List.mem_cons_self
  have h2:=ih fun d hd=>h d (List.mem_cons_of_mem _ hd)
  rw [List.flatMap_cons,List.length_append,List.length_cons];omega
theorem IE {l:List D6} (hp:l.Pairwise (fun a b=>a.1<b.1)) {G:List Int} {o:D6} (ho:o∈l) (hn:o.1 ∉ G) (y:Int) :
  cnt (l.filter fun d=>!(G++[o.1]).contains d.1) y+(lnk o).count y=cnt (l.filter fun d=>!G.contains d.1) y:=by
 obtain ⟨A,B,rfl⟩:=List.append_of_mem ho
 rw [List.pairwise_append,List.pairwise_cons] at hp
 have hA:A.filter (fun d=>!(G++[o.1]).contains d.1)=A.filter fun d=>!G.contains d.1:=List.filter_congr fun d hd=>by
  have:d.1≠o.1:=by have:=hp.2.2 d hd o List.mem_cons_self;omega
  simp [this]
 have hB:B.filter (fun d=>!(G++[o.1]).contains d.1)=B.filter fun d=>!G.contains d.1:=List.filter_congr fun d hd=>by
  have:d.1≠o.1:=by have:=hp.2.1.1 d hd;omega
  simp [this]
 rw [List.filter_append,List.filter_append,List.filter_cons,List.filter_cons,hA,hB]
 have h1:(!(G++[o.1]).contains o.1)=false:=by simp
 have h2:(!G.contains o.1)=true:=by simpa using hn
 rw [if_neg (by rw [h1];simp),if_pos h2,pG,pG,show o::B.filter (fun d=>!G.contains d.1)=[o]++B.filter (fun d=>!G.contains d.1) from rfl,pG,DI]
 omega
structure SW (l:List D6) (root:Int):Prop where
 few:l.length≤20
 ris:l.Pairwise (fun a b=>a.1<b.1)
 lns:∀ o∈l,(lnk o).length≤70
 lnk:∀ o∈l,(Fn.lnk o).Pairwise (· < ·)
 has:∀ o∈l,∀ x∈Fn.lnk o,∃ y∈l,y.1=x
 top:∀ o∈l,root ∉ Fn.lnk o
structure Mid (l:List D6) (root:Int) (todo:List Int) (m:List (Int×Int)) (gone:List Int):Prop where
 nod:(gone++todo).Nodup
 thg:Things l root (gone++todo)
 map:∀ y,bU 0 m y=(cnt (l.filter fun d=>!gone.contains d.1) y:Nat)
 all:∀ o∈l,o.1≠root→(o.1∈gone++todo↔cnt (l.filter fun d=>!gone.contains d.1) o.1=0)
 ord:Ord l gone
theorem yZ {l:List D6} {A:List Int} (hA:A.Nodup) (h:∀ x∈A,∃ o∈l,o.1=x):A.length≤l.length:=by
 have:=Ir A (l.map (·.1)) hA (fun x hx=>by obtain ⟨o,ho,e⟩:=h x hx;exact List.mem_map.2 ⟨o,ho,e⟩)
 simpa using this
theorem QE {l:List D6} (hp:l.Pairwise (fun a b=>a.1<b.1)) {x:Int} (h:∃ o∈l,o.1=x):∃ o∈l,o.1=x∧bW l x=(o,true):=by
 obtain ⟨o,ho,rfl⟩:=h
 exact ⟨o,ho,rfl,yR hp o ho⟩
theorem Bc:∀ {l:List Int},l.Pairwise (· < ·)→∀ x:Int,l.count x=if x∈l then 1 else 0
 | [],_,x=>by simp
 | a::l,hp,x=>by
  have h1:=Bc (List.pairwise_cons.1 hp).2 x
  have h2:=(List.pairwise_cons.1 hp).1
  rw [List.count_cons,h1]
  by_cases e:a=x
  ·subst e
   have:a ∉ l:=fun h=>by have:=h2 a h;omega
   simp [this]
  ·have e' : ¬ x=a:=fun h=>e h.symm
   simp [e,e']
theorem del_eq:∀ {l:List Int},l.Pairwise (· < ·)→∀ {b:Int},b∈l→gV l b<l.length∧l.take (gV l b)++l.drop (gV l b+1)=l.filter (· != b)
 | [],_,b,hb=>by cases hb
 | c::l,hp,b,hb=>by
  have h1:=(List.pairwise_cons.1 hp).1
  have h2:=(List.pairwise_cons.1 hp).2
  rw [FQ]
  by_cases hc:c<b
  ·have hbl:b∈l:=by
    rcases List.mem_cons.1 hb with e | e
    ·omega
    ·exact e
   obtain ⟨g1,g2⟩:=del_eq h2 hbl
   rw [if_pos hc]
   refine ⟨by simp;omega,?_⟩
   have hcb:(c != b)=true:=by simp;omega
   rw [List.filter_cons,if_pos hcb,← g2]
   simp
  ·have e:c=b:=by
    rcases List.mem_cons.1 hb with e | e
    ·exact e.symm
    ·have:=h1 b e;omega
   subst e
   rw [if_neg hc]
   have h0:gV l c=0:=by
    unfold gV
    rw [List.length_eq_zero_iff,List.filter_eq_nil_iff]
    intro x hx;have:=h1 x hx;simp;omega
   have hf:(c::l).filter (· != c)=l:=by
    rw [List.filter_cons,if_neg (by simp)]
    exact List.filter_eq_self.2 fun x hx=>by have:=h1 x hx;simp;omega
   rw [h0,hf]
   exact ⟨by simp,by simp⟩
structure IG (l:List D6) (root:Int) (gone:List Int) (x:Int) (q todo:List Int) (m:List (Int×Int)):Prop where
 nod:(gone++[x]++todo).Nodup
 thg:Things l root (gone++[x]++todo)
 map:∀ y,bU 0 m y=((cnt (l.filter fun d=>!gone.contains d.1) y:Nat):Int) - (q.count y:Nat)
 all:∀ o∈l,o.1≠root→(o.1∈gone++[x]++todo↔((cnt (l.filter fun d=>!gone.contains d.1) o.1:Nat):Int) - (q.count o.1:Nat)=0)
theorem Mid.start {l:List D6} {root x:Int} {rest gone:List Int} {m:List (Int×Int)} (h:Mid l root (x::rest) m gone):IG l root gone x [] rest m:=by
 have e:gone++[x]++rest=gone++x::rest:=by simp
 refine ⟨by rw [e];exact h.nod,by rw [e];exact h.thg,fun y=>by rw [h.map y];simp,fun o ho hr=>?_⟩
 rw [e,h.all o ho hr];simp
theorem IG.fin {l:List D6} {root:Int} {rest gone todo:List Int} {m m' : List (Int×Int)} {o:D6} (hw:SW l root) (h:Mid l root (o.1::rest) m gone) (ho:o∈l) (h' : IG l root gone o.1 (lnk o) todo m'):Mid l root todo m' (gone++[o.1]):=by
 have hog:o.1 ∉ gone:=fun hc=>by
  have:=(List.nodup_append.1 h.nod).2.2 o.1 hc o.1 List.mem_cons_self
  exact this rfl
 have hor:o.1≠root:=(h.thg o.1 (by simp)).2
 refine ⟨h'.nod,h'.thg,fun y=>?_,fun d hd hr=>?_,J3 h.ord fun d hd hx=>?_⟩
 ·rw [h'.map y]
  have:=IE hw.ris ho hog y
  omega
 ·rw [h'.all d hd hr]
  have:=IE hw.ris ho hog d.1
  omega
 ·have h0:=(h.all o ho hor).1 (by simp)
  refine Classical.byContradiction fun hn=>?_
  exact DJ.1 h0 d (List.mem_filter.2 ⟨hd,by simpa using hn⟩) hx
theorem IG.step {l:List D6} {root:Int} {rest gone todo q post:List Int} {m m' : List (Int×Int)} {o:D6} {z:Int} (hw:SW l root) (h:Mid l root (o.1::rest) m gone) (ho:o∈l) (e:lnk o=q++z::post) (h' : IG l root gone o.1 q todo m') :
  1≤bU 0 m' z∧IG l root gone o.1 (q++[z]) (if bU 0 m' z - 1=0 then todo++[z] else todo) (jW m' z (bU 0 m' z - 1)):=by
 have hog:o.1 ∉ gone:=fun hc=>by
  have:=(List.nodup_append.1 h.nod).2.2 o.1 hc o.1 List.mem_cons_self
  exact this rfl
 have hzo:z∈lnk o:=by rw [e];simp
 obtain ⟨y,hy,rfl⟩:=hw.has o ho z hzo
 have hyr:y.1≠root:=fun hc=>hw.top o ho (by rw [← hc];exact hzo)
 have hge:(lnk o).count y.1≤cnt (l.filter fun d=>!gone.contains d.1) y.1:=by
  have:=IE hw.ris ho hog y.1
  omega
 have hq:q.count y.1+1≤(lnk o).count y.1:=by rw [e,List.count_append,List.count_cons];simp
 have h1:1≤bU 0 m' y.1:=by rw [h'.map y.1];omega
 have hno:y.1 ∉ gone++[o.1]++todo:=fun hc=>by
  have:=(h'.all y hy hyr).1 hc
  rw [← h'.map y.1] at this;omega
 have hcnt:∀ u:Int,(q++[y.1]).count u=q.count u+if u=y.1 then 1 else 0:=fun u=>by
  rw [List.count_append]
  by_cases hu:u=y.1
  ·subst hu;simp
  ·rw [if_neg hu]
   have hu' : ¬ y.1=u:=fun h=>hu h.symm
   simp [List.count_cons,hu']
 have hmap:∀ u,bU 0 (jW m' y.1 (bU 0 m' y.1 - 1)) u=((cnt (l.filter fun d=>!gone.contains d.1) u:Nat):Int) - ((q++[y.1]).count u:Nat):=fun u=>by
  rw [qw,hcnt u]
  by_cases hu:u=y.1
  ·subst hu
   rw [if_pos rfl,if_pos rfl,h'.map];omega
  ·rw [if_neg hu,if_neg hu,h'.map];omega
 refine ⟨h1,?_⟩
 by_cases hz:bU 0 m' y.1 - 1=0
 ·rw [if_pos hz]
  have ea:gone++[o.1]++(todo++[y.1])=(gone++[o.1]++todo)++[y.1]:=by simp
  refine ⟨?_,?_,hmap,fun d hd hr=>?_⟩
  ·rw [ea,List.nodup_append]
   refine ⟨h'.nod,by simp,fun a ha b hb=>?_⟩
   simp only [List.mem_singleton] at hb
   subst hb
   rintro rfl;exact hno ha
  ·rw [ea]
   intro u hu
   rcases List.mem_append.1 hu with hu | hu
   ·exact h'.thg u hu
   ·simp only [List.mem_singleton] at hu
    subst hu;exact ⟨⟨y,hy,rfl⟩,hyr⟩
  ·rw [ea,List.mem_append,List.mem_singleton,h'.all d hd hr,hcnt d.1]
   by_cases hu:d.1=y.1
   ·rw [if_pos hu,hu]
    have:=h'.map y.1
    constructor
    ·intro _;omega
    ·intro _;exact .inr rfl
   ·rw [if_neg hu]
    constructor
    ·rintro (h9 | h9)
     ·omega
     ·exact absurd h9 hu
    ·intro h9;exact .inl (by omega)
 ·rw [if_neg hz]
  refine ⟨h'.nod,h'.thg,hmap,fun d hd hr=>?_⟩
  rw [h'.all d hd hr,hcnt d.1]
  by_cases hu:d.1=y.1
  ·rw [if_pos hu,hu]
   have:=h'.map y.1
   omega
  ·rw [if_neg hu];omega
theorem QF {l:List D6} (hp:l.Pairwise (fun a b=>a.1<b.1)) {o o' : D6} (ho:o∈l) (e:o'.1=o.1):∃ A B,l=A++o::B∧nV l o' = A++o' :: B:=by
 obtain ⟨A,B,rfl⟩:=List.append_of_mem ho
 rw [List.pairwise_append,List.pairwise_cons] at hp
 refine ⟨A,B,rfl,?_⟩
 have a1:A.filter (fun x=>decide (x.1<o'.1))=A:=List.filter_eq_self.2 fun d hd=>by have:=hp.2.2 d hd o List.mem_cons_self;rw [e];simpa using this
 have a2:A.filter (fun x=>decide (o'.1<x.1))=[]:=List.filter_eq_nil_iff.2 fun d hd=>by have:=hp.2.2 d hd o List.mem_cons_self;rw [e];simp;omega
 have b1:B.filter (fun x=>decide (x.1<o'.1))=[]:=List.filter_eq_nil_iff.2 fun d hd=>by have:=hp.2.1.1 d hd;rw [e];simp;omega
 have b2:B.filter (fun x=>decide (o'.1<x.1))=B:=List.filter_eq_self.2 fun d hd=>by have:=hp.2.1.1 d hd;rw [e];simpa using this
 have c1 : ¬ o.1<o'.1:=by omega
 have c2 : ¬ o'.1<o.1:=by omega
 simp only [nV,List.filter_append,List.filter_cons,a1,a2,b1,b2,c1,c2,decide_false,Bool.false_eq_true,if_false,List.nil_append,List.append_nil]
theorem QG {l:List D6} {root b:Int} {o o' : D6} (hw:SW l root) (held:∀ o∈l,o.1≠root→∃ d∈l,o.1∈lnk d) (ho:o∈l) (hb:b∈lnk o) (e1:o'.1=o.1) (e2:lnk o' = (lnk o).filter (· != b)) {m:List (Int×Int)} (hm:∀ x,bU 0 m x=(cnt l x:Nat)) :
  SW (nV l o') root∧1≤bU 0 m b∧Mid (nV l o') root (if bU 0 m b - 1=0 then [b] else []) (jW m b (bU 0 m b - 1)) []:=by
 obtain ⟨A,B,hA,hP⟩:=QF hw.ris ho e1
 have sub:∀ d∈nV l o',∃ c∈l,c.1=d.1∧(lnk d).length≤(lnk c).length∧((lnk c).Pairwise (· < ·)→(lnk d).Pairwise (· < ·))∧∀ x∈lnk d,x∈lnk c:=fun d hd=>by
  rcases tK.1 hd with h | ⟨h,_⟩
  ·subst h
   exact ⟨o,ho,e1.symm,by rw [e2];exact List.length_filter_le _ _,fun hp=>by rw [e2];exact hp.filter _,fun x hx=>by rw [e2] at hx;exact (List.mem_filter.1 hx).1⟩
  ·exact ⟨d,h,rfl,Nat.le_refl _,id,fun _ h=>h⟩
 have ids:∀ c∈l,∃ d∈nV l o',d.1=c.1:=fun c hc=>by
  by_cases h:c.1=o'.1
  ·exact ⟨o',tK.2 (.inl rfl),h.symm⟩
  ·exact ⟨c,tK.2 (.inr ⟨hc,h⟩),rfl⟩
 have hlen:(nV l o').length=l.length:=by rw [hP,hA];simp
 have hSW:SW (nV l o') root:=⟨by rw [hlen];exact hw.few,Qu hw.ris o',fun d hd=>by
   obtain ⟨c,hc,_,h2,_⟩:=sub d hd
   have:=hw.lns c hc;omega,fun d hd=>by
   obtain ⟨c,hc,_,_,h3,_⟩:=sub d hd
   exact h3 (hw.lnk c hc),fun d hd x hx=>by
   obtain ⟨c,hc,_,_,_,h4⟩:=sub d hd
   obtain ⟨y,hy,e⟩:=hw.has c hc x (h4 x hx)
   obtain ⟨z,hz,ez⟩:=ids y hy
   exact ⟨z,hz,ez.trans e⟩,fun d hd hx=>by
   obtain ⟨c,hc,_,_,_,h4⟩:=sub d hd
   exact hw.top c hc (h4 _ hx)⟩
 have hone:(lnk o).count b=1:=by rw [Bc (hw.lnk o ho) b,if_pos hb]
 have hcnt:∀ x,cnt (nV l o') x+(if x=b then 1 else 0)=cnt l x:=fun x=>by
  have hf:(lnk o').count x+(if x=b then 1 else 0)=(lnk o).count x:=by
   rw [e2]
   by_cases h:x=b
   ·subst h
    rw [hone,if_pos rfl,List.count_eq_zero.2 (fun hc=>by simpa using (List.mem_filter.1 hc).2)]
   ·rw [if_neg h,List.count_filter (by simpa using h)];rfl
  have h1:cnt (nV l o') x=cnt A x+((lnk o').count x+cnt B x):=by
   rw [hP,pG,show o' :: B=[o']++B from rfl,pG,DI]
  have h2:cnt l x=cnt A x+((lnk o).count x+cnt B x):=by
   conv=>lhs;rw [hA]
   rw [pG,show o::B=[o]++B from rfl,pG,DI]
  omega
 have hb1:1≤bU 0 m b:=by
  rw [hm b]
  have:=hcnt b
  rw [if_pos rfl] at this;omega
 have hmap:∀ y,bU 0 (jW m b (bU 0 m b - 1)) y=(cnt (nV l o') y:Nat):=fun y=>by
  have:=hcnt y
  rw [qw]
  by_cases h:y=b
  ·subst h;rw [if_pos rfl,hm];rw [if_pos rfl] at this;omega
  ·rw [if_neg h,hm];rw [if_neg h] at this;omega
 have hfil:(nV l o').filter (fun d=>!([]:List Int).contains d.1)=nV l o':=List.filter_eq_self.2 fun d _=>by simp
 obtain ⟨y,hy,ey⟩:=hw.has o ho b hb
 obtain ⟨y',hy',ey'⟩:=ids y hy
 have hbr:b≠root:=fun h=>hw.top o ho (h ▸ hb)
 refine ⟨hSW,hb1,?_,?_,fun y=>by rw [hfil];exact hmap y,fun d hd hr=>?_,fun pre x post e=>by simp at e⟩
 ·split <;> simp
 ·intro x hx
  split at hx
  ·simp only [List.nil_append,List.mem_singleton] at hx
   subst hx;exact ⟨⟨y',hy',ey'.trans ey⟩,hbr⟩
  ·simp at hx
 ·rw [hfil,List.nil_append]
  obtain ⟨c,hc,hce,_⟩:=sub d hd
  obtain ⟨e,he,hx⟩:=held c hc (by rw [hce];exact hr)
  have hpos:cnt l d.1≠0:=fun h0=>DJ.1 h0 e he (by rw [← hce];exact hx)
  have h3:=hcnt d.1
  have h4:=hcnt b
  rw [if_pos rfl] at h4
  by_cases h:d.1=b
  ·rw [h]
   have h5:=hm b
   by_cases hz:bU 0 m b - 1=0
   ·rw [if_pos hz];simp;omega
   ·rw [if_neg hz];simp;omega
  ·rw [if_neg h] at h3
   have:d.1 ∉ (if bU 0 m b - 1=0 then [b] else []):=by split <;> simp [h]
   constructor
   ·intro h9;exact absurd h9 this
   ·intro h9;omega
end Go.Fn
namespace Go.Fn
open Go Go.Ab Go.Tx
theorem FZ {l:List D6} {a:Int} {p:List Int→Prop} (h0:p []) (h:∀ o∈l,p (lnk o)):p (lnk (bW l a).1):=by
 unfold bW
 split
 ·rename_i o ho;exact h o (List.mem_of_find?_eq_some ho)
 ·exact h0
theorem J5:∀ {A B:List Int},A.Pairwise (· < ·)→B.Pairwise (· < ·)→(∀ x,x∈A↔x∈B)→A=B
 | [],[],_,_,_=>rfl
 | [],b::B,_,_,h=>by have:=(h b).2 List.mem_cons_self;cases this
 | a::A,[],_,_,h=>by have:=(h a).1 List.mem_cons_self;cases this
 | a::A,b::B,hA,hB,h=>by
  have a1:=(List.pairwise_cons.1 hA).1
  have b1:=(List.pairwise_cons.1 hB).1
  have e:a=b:=by
   rcases List.mem_cons.1 ((h a).1 List.mem_cons_self) with e | e
   ·exact e
   ·rcases List.mem_cons.1 ((h b).2 List.mem_cons_self) with e2 | e2
    ·exact e2.symm
    ·have:=a1 b e2;have:=b1 a e;omega
  subst e
  rw [J5 (List.pairwise_cons.1 hA).2 (List.pairwise_cons.1 hB).2 fun x=>?_]
  have:=h x
  simp only [List.mem_cons] at this
  constructor
  ·intro hx
   rcases this.1 (.inr hx) with e | e
   ·have:=a1 x hx;omega
   ·exact e
  ·intro hx
   rcases this.2 (.inr hx) with e | e
   ·have:=b1 x hx;omega
   ·exact e
theorem F5 {l:List Int} (h:l.Nodup):(l.mergeSort (fun a b=>decide (a≤b))).Pairwise (· < ·):=by
 have h1:(l.mergeSort (fun a b=>decide (a≤b))).Pairwise (fun a b=>decide (a≤b)=true):=List.pairwise_mergeSort (fun a b c h1 h2=>by simp at *; omega) (fun a b=>by simp;omega) l
 have h2:(l.mergeSort (fun a b=>decide (a≤b))).Nodup:=(List.mergeSort_perm l _).nodup_iff.2 h
 exact (h1.and h2).imp fun ⟨h3,h4⟩=>by simp at h3;omega
theorem II {l:List D6} {root:Int} {m:List (Int×Int)} {gone:List Int} (h:Mid l root [] m gone) :
  gone.mergeSort (fun a b=>decide (a≤b))=(rounds root l.length l []).2∧l.filter (fun o=>!(gone.mergeSort (fun a b=>decide (a≤b))).contains o.1)=(rounds root l.length l []).1:=by
 obtain ⟨g1,g2⟩:=yY l.length l [] (DF l root) (Nat.le_refl _)
 have hclo:=UJ g1 g2
 have hnd:gone.Nodup:=by simpa using h.nod
 have hth:Things l root gone:=by simpa using h.thg
 have hcg:Clo l root gone:=fun o ho hr hn=>by
  have h1:=h.all o ho hr
  simp only [List.append_nil] at h1
  have h2:cnt (l.filter fun d=>!gone.contains d.1) o.1≠0:=fun h3=>hn (h1.2 h3)
  refine Classical.byContradiction fun hno=>h2 (DJ.2 fun d hd hx=>hno ?_)
  rw [List.mem_filter] at hd
  exact ⟨d,hd.1,by simpa using hd.2,hx⟩
 obtain ⟨A,a1,a2,a3⟩:=g1.ord
 have e:gone.mergeSort (fun a b=>decide (a≤b))=(rounds root l.length l []).2:=by
  refine J5 (F5 hnd) g1.rise fun x=>?_
  rw [(List.mergeSort_perm gone _).mem_iff]
  exact ⟨QD hth h.ord hclo x,fun hx=>QD a2 a3 hcg x ((a1 x).2 hx)⟩
 exact ⟨e,by rw [e];exact g1.left.symm⟩
theorem ZE (w:D7) (a b:Int) (hw:SW (objs w) w.2.2.1) (held:∀ o∈objs w,o.1≠w.2.2.1→∃ d∈objs w,o.1∈lnk d):F24 w a b=some (J4 w a b):=by
 have hfew:=hw.few
 refine Def.eq ?_
 unfold F24
 refine Def.bind (Def.of (Vu w a (by omega) hw.ris) ?_)
 obtain ⟨oa,hoa⟩:∃ oa,oa=(bW (objs w) a).1:=⟨_,rfl⟩
 have hk70:(lnk oa).length≤70:=by rw [hoa];exact FZ (p:=fun l=>l.length≤70) (by simp) hw.lns
 have hkr:(lnk oa).Pairwise (· < ·):=by rw [hoa];exact FZ (p:=fun l=>l.Pairwise (· < ·)) List.Pairwise.nil hw.lnk
 rw [← hoa]
 refine Def.bind (Def.of (Vt (lnk oa) b (by omega) hkr) ?_)
 have hc:((if (!(bW (objs w) a).2)=true then true else (!decide (b∈lnk oa)))=true)↔((bW (objs w) a).2=false∨b ∉ lnk (bW (objs w) a).1):=by
  rw [← hoa]
  cases (bW (objs w) a).2 <;> simp
 refine Def.ite (fun h=>.ret ?_) (fun h=>?_)
 ·unfold J4;rw [if_pos (hc.1 h)]
 have hn : ¬ ((bW (objs w) a).2=false∨b ∉ lnk (bW (objs w) a).1):=fun h'=>h (hc.2 h')
 unfold J4
 rw [if_neg hn]
 rw [← hoa] at hn ⊢
 have hfound:(bW (objs w) a).2=true:=by cases h9:(bW (objs w) a).2 with | true=>rfl | false=>exact absurd (.inl h9) hn
 have hb:b∈lnk oa:=Classical.byContradiction fun h9=>hn (.inr h9)
 obtain ⟨hoam,hoae⟩:=tJ hfound
 rw [← hoa] at hoam hoae
 have hflat:=IC hw.lns
 refine Def.aP (fun m:List (Int×Int)=>∀ x,bU 0 m x=(cnt (objs w) x:Nat)) (fun m hi=>?_) (fun j5 hj5=>?_)
 ·refine Def.bind (Def.app (by simp only [List.length_nil];show (0+(lnk oa).length) * 8≤_;omega) ?_)
  obtain ⟨d1,d2⟩:=del_eq hkr hb
  refine Def.bind (Def.of (a:=(lnk oa).filter (· != b)) ?_ ?_)
  ·rw [wrap_i64 (by omega) (by omega),abd,if_pos ⟨by omega,by omega,by simp only [List.nil_append];show (gV (lnk oa) b:Int)+1≤((lnk oa).length:Nat);omega⟩]
   have t1:((gV (lnk oa) b:Nat):Int).toNat=gV (lnk oa) b:=Int.toNat_natCast _
   have t2:(((gV (lnk oa) b:Nat):Int)+1).toNat=gV (lnk oa) b+1:=by omega
   simp only [List.nil_append]
   show some (List.take ((gV (lnk oa) b:Nat):Int).toNat (lnk oa)++List.drop (((gV (lnk oa) b:Nat):Int)+1).toNat (lnk oa))=_
   rw [t1,t2,d2]
  ·refine Def.bind (Def.of (Zw w _ (by omega) hw.ris) ?_)
   obtain ⟨o',ho'⟩:∃ o',o' = fO oa ((lnk oa).filter (· != b)):=⟨_,rfl⟩
   rw [← ho']
   have e1:o'.1=oa.1:=by rw [ho']
   have e2:lnk o' = (lnk oa).filter (· != b):=by rw [ho']
   obtain ⟨hSW,hb1,hmid⟩:=QG hw held hoam hb e1 e2 hi
   have hv:Iu w o' = dQ w (nV (objs w) o'):=by unfold Iu;rw [if_pos (by have:=hSW.few;omega)]
   obtain ⟨v,hvd⟩:∃ v,v=Iu w o':=⟨_,rfl⟩
   rw [← hvd]
   have hvo:objs v=nV (objs w) o':=by rw [hvd,hv]
   have hvr:v.2.2.1=w.2.2.1:=by rw [hvd,hv]
   rw [← hvo,← hvr] at hSW hmid
   have hcb:=cnt_le (l:=objs w) (x:=b)
   have hib:=hi b
   have hw1:IntKind.wrap .i64 (bU 0 m b - 1)=bU 0 m b - 1:=wrap_i64 (by omega) (by omega)
   rw [hw1]
   refine Def.aP (fun todo:List Int=>todo=if bU 0 m b - 1=0 then [b] else []) (fun todo ht=>?_) (fun j9 hj9=>?_)
   ·rw [← ht] at hmid
    have hlen:∀ {todo:List Int} {m:List (Int×Int)} {gone:List Int},Mid (objs v) v.2.2.1 todo m gone→(gone++todo).length≤(objs v).length:=fun h=>yZ h.nod fun x hx=>(h.thg x hx).1
    have hfv:=hSW.few
    refine Def.aP (fun s10:(D7×(Unit×((List Int)×((List Int)×Unit))))×(List Int×(List (Int×Int)×List Int))=>s10.1.1=v∧Mid (objs v) v.2.2.1 [] s10.2.2.1 s10.2.2.2) (fun s10 hs=>?_) (fun j10 hj10=>?_)
    ·obtain ⟨hx,hM⟩:=hs
     have hgl:=hlen hM
     rw [List.append_nil] at hgl
     obtain ⟨q1,q2⟩:=II hM
     have hnd:s10.2.2.2.Nodup:=by have:=hM.nod;rwa [List.append_nil] at this
     have hsr:=F5 hnd
     have hsl:(s10.2.2.2.mergeSort (fun a b=>decide (a≤b))).length=s10.2.2.2.length:=List.length_mergeSort _
     refine Def.bind (Def.of (Ya _ (by omega)) ?_)
     obtain ⟨srt,hsrt⟩:∃ srt,srt=s10.2.2.2.mergeSort (fun a b=>decide (a≤b)):=⟨_,rfl⟩
     rw [← hsrt] at q1 q2 hsr hsl ⊢
     refine Def.aP (fun s15:D7×List D6=>s15=(v,(rounds v.2.2.1 (objs v).length (objs v) []).1)) (fun s15 h15=>?_) (fun j15 hj15=>?_)
     ·subst h15
      exact .ret (by simp only;rw [q1])
     ·simp only [aF]
      rw [hx]
      refine Def.Xu (l:=objs v) (fun s:Int×D7×List D6=>s.1) (fun pre s=>s.2.1=v∧s.2.2=pre.filter (fun o=>!srt.contains o.1)) (by omega) rfl ⟨rfl,rfl⟩ (fun pre u post s e hs hi=>?_) (fun s hs hi=>.done (hj15 _ ?_))
      ·refine Def.bind' (by rw [hs];exact Def.at e) (fun u' hu=>?_)
       subst hu
       obtain ⟨i1,i2⟩:=hi
       refine Def.bind (Def.of (Vt srt u'.1 (by omega) hsr) ?_)
       have hpl:pre.length≤20:=by rw [e] at hfv;simp at hfv;omega
       have hfl:(pre.filter (fun o=>!srt.contains o.1)).length≤pre.length:=List.length_filter_le _ _
       refine Def.ite (fun h9=>?_) (fun h9=>?_)
       ·have h9:u'.1 ∉ srt:=by simpa using h9
        refine Def.bind (.ret ?_)
        refine Def.bind (Def.app (by rw [i2];simp only [List.length_cons,List.length_nil];omega) (.turn ⟨by rw [hs],i1,?_⟩))
        rw [i2,List.filter_append];simp [h9]
       ·have h9:u'.1∈srt:=by simpa using h9
        refine .turn ⟨by rw [hs],i1,?_⟩
        rw [i2,List.filter_append];simp [h9]
      ·rw [hi.1,hi.2,q2]
    ·simp only [aF]
     refine Def.loop (fun s:(D7×(Unit×((List Int)×((List Int)×Unit))))×(List Int×(List (Int×Int)×List Int))=>s.1.1=v∧Mid (objs v) v.2.2.1 s.2.1 s.2.2.1 s.2.2.2) (fun s=>(objs v).length - s.2.2.2.length) ⟨rfl,hmid⟩ (fun s hi=>?_)
     obtain ⟨X,td,mm,gone⟩:=s
     obtain ⟨hx,hM⟩:=hi
     simp only at hx hM
     refine Def.ite (fun h9=>.done (hj10 _ ⟨hx,?_⟩)) (fun h9=>?_)
     ·have h9:td=[]:=by
       simp only [beq_iff_eq] at h9
       exact List.eq_nil_of_length_eq_zero (by omega)
      subst h9;exact hM
     ·cases td with
      | nil=>simp at h9
      | cons x rest =>
       have hgl:=hlen hM
       simp only [List.length_append,List.length_cons] at hgl
       obtain ⟨o,ho,ex,hf⟩:=QE hSW.ris (hM.thg x (by simp)).1
       subst ex
       refine Def.bind (Def.of (a:=o.1) rfl ?_)
       rw [hx]
       refine Def.bind (Def.of ((Vu v o.1 (by omega) hSW.ris).trans (congrArg some hf)) ?_)
       refine Def.bind (Def.of (a:=rest) ?_ ?_)
       ·simp only
        rw [abb,if_pos ⟨by omega,by simp only [List.length_cons];omega,by omega⟩]
        simp
       ·refine Def.bind (.ret ?_)
        refine Def.bind (Def.app (by simp only [List.length_cons,List.length_nil];omega) ?_)
        refine Def.Xu (l:=lnk o) (fun s:Int×(D7×(Unit×((List Int)×((List Int)×Unit))))×(List Int×List (Int×Int))=>s.1) (fun q s=>s.2.1.1=v∧IG (objs v) v.2.2.1 gone o.1 q s.2.2.1 s.2.2.2) (by have:=hSW.lns o ho;omega) rfl ⟨hx,hM.start⟩ (fun q z post s e hs hi=>?_) (fun s hs hi=>.done (.turn ⟨⟨hi.1,hi.2.fin hSW hM ho⟩,?_⟩))
        ·refine Def.bind' (by rw [hs];exact Def.at e) (fun z' hz=>?_)
         subst hz
         obtain ⟨i1,i2⟩:=hi
         obtain ⟨k1,k2⟩:=i2.step hSW hM ho e
         have hc1:=cnt_le (l:=(objs v).filter fun d=>!gone.contains d.1) (x:=z')
         have hc2:=IC (l:=(objs v).filter fun d=>!gone.contains d.1) (fun d hd=>hSW.lns d (List.mem_filter.1 hd).1)
         have hc3:((objs v).filter fun d=>!gone.contains d.1).length≤(objs v).length:=List.length_filter_le _ _
         have hc4:=i2.map z'
         have hw2:IntKind.wrap .i64 (bU 0 s.2.2.2 z' - 1)=bU 0 s.2.2.2 z' - 1:=wrap_i64 (by omega) (by omega)
         rw [hw2]
         have hg:bU 0 (jW s.2.2.2 z' (bU 0 s.2.2.2 z' - 1)) z' = bU 0 s.2.2.2 z' - 1:=by rw [qw,if_pos rfl]
         rw [hg]
         have htl:=yZ i2.nod fun x hx=>(i2.thg x hx).1
         simp only [List.length_append] at htl
         refine Def.ite (fun h8=>?_) (fun h8=>?_)
         ·have h8:bU 0 s.2.2.2 z' - 1=0:=by simpa using h8
          rw [if_pos h8] at k2
          refine Def.bind (.ret ?_)
          exact Def.bind (Def.app (by simp only [List.length_cons,List.length_nil];omega) (.turn ⟨by rw [hs],i1,k2⟩))
         ·have h8 : ¬ bU 0 s.2.2.2 z' - 1=0:=by simpa using h8
          rw [if_neg h8] at k2
          exact .turn ⟨by rw [hs],i1,k2⟩
        ·simp only [List.length_append,List.length_cons,List.length_nil];omega
   ·have hg:bU 0 (jW m b (bU 0 m b - 1)) b=bU 0 m b - 1:=by rw [qw,if_pos rfl]
    rw [hg]
    refine Def.ite (fun h9=>?_) (fun h9=>?_)
    ·refine Def.bind (.ret ?_)
     refine Def.bind (Def.app (by simp) (hj9 _ ?_))
     have h9:bU 0 m b - 1=0:=by simpa using h9
     rw [if_pos h9];rfl
    ·have h9 : ¬ bU 0 m b - 1=0:=by simpa using h9
     exact hj9 _ (by rw [if_neg h9])
 ·simp only [aF]
  refine Def.Xu (l:=objs w) (fun s:Int×List (Int×Int)=>s.1) (fun pre s=>∀ x,bU 0 s.2 x=(cnt pre x:Nat)) (by omega) rfl (by simp [cnt,bU]) (fun pre u post s e hs hi=>?_) (fun s hs hi=>.done (hj5 s.2 hi))
  refine Def.bind' (by rw [hs];exact Def.at e) (fun u' hu=>?_)
  subst hu
  have hum:u' ∈ objs w:=by rw [e];simp
  have hpre:pre.length≤20:=by rw [e] at hfew;simp at hfew;omega
  have hfp:=IC (l:=pre) (fun o ho=>hw.lns o (by rw [e];exact List.mem_append_left _ ho))
  have h70:=hw.lns u' hum
  refine Def.Xu (l:=lnk u') (fun s:Int×List (Int×Int)=>s.1) (fun q s=>∀ x,bU 0 s.2 x=((cnt pre x+q.count x:Nat):Int)) (by omega) rfl (by simpa using hi) (fun q z post' s' e' hs' hi'=>?_) (fun s' hs' hi'=>.done (.turn ⟨by rw [hs],fun x=>?_⟩))
  ·refine Def.bind' (by rw [hs'];exact Def.at e') (fun z' hz=>?_)
   subst hz
   have hq:q.count z' ≤ q.length:=List.count_le_length
   have hql:q.length≤70:=by rw [e'] at h70;simp at h70;omega
   have hcl:=cnt_le (l:=pre) (x:=z')
   refine .turn ⟨by rw [hs'],fun x=>?_⟩
   rw [qw,hi',wrap_i64 (by omega) (by omega)]
   by_cases hx:x=z'
   ·subst hx;rw [if_pos rfl];simp [List.count_append];omega
   ·rw [if_neg hx,hi',List.count_append]
    simp [List.count_cons,Ne.symm hx,fun h:z' = x=>hx h.symm]
  ·rw [hi' x,pG,DI]
end Go.Fn
namespace Go.Fn
open Go Go.Ab Go.Tx
theorem Yb (w:D7) (hok:∀ o∈objs w,OkO o):Def (F22 w) fun b=>b=true→Whole (objs w) w.2.2.1:=by
 unfold F22
 refine Def.ite (fun h=>.ret (fun h=>by cases h)) (fun h=>?_)
 have hn:(objs w).length≤20:=by simp at h;exact_mod_cast h
 simp only [aF,jD]
 refine Def.loop (fun i:Int=>0≤i∧i≤(objs w).length∧∀ o∈(objs w).take i.toNat,abg o) (fun i:Int=>(objs w).length - i.toNat) ⟨by omega,by omega,by simp⟩ (fun i hi=>?_)
 refine Def.ite (fun h1=>?_) (fun h1=>?_)
 ·have h1:i<(objs w).length:=by simpa [objs] using h1
  refine Def.bind (Def.idx hi.1 h1 (fun o ho hm=>?_))
  refine Def.ite (fun h2=>.done (.ret (fun h=>by cases h))) (fun h2=>.turn ?_)
  have hw:IntKind.wrap .i64 (i+1)=i+1:=wrap_i64 (by omega) (by omega)
  have e:(i+1).toNat=i.toNat+1:=by omega
  rw [hw]
  refine ⟨⟨by omega,by omega,?_⟩,by omega⟩
  rw [e,List.take_add_one,ho]
  intro x hx
  rcases List.mem_append.1 hx with hx | hx
  ·exact hi.2.2 x hx
  ·simp at hx;subst hx
   simp at h2
   exact ⟨by omega,by omega,by omega,by omega⟩
 ·have h1 : ¬ i<(objs w).length:=by simpa [objs] using h1
  have e:i.toNat=(objs w).length:=by omega
  have hf:=hi.2.2
  rw [e,List.take_length] at hf
  exact .done (Def.bind' (XT w hn hf hok) fun b hb=>.ret fun h=>(hb h).1)
theorem aaU {l:List D6} {root:Int} (h:Whole l root):SW l root∧∀ o∈l,o.1≠root→∃ d∈l,o.1∈lnk d:=by
 refine ⟨⟨h.few,h.ids,h.lns,h.lnk,h.has,fun o ho hx=>?_⟩,fun o ho hr=>?_⟩
 ·obtain ⟨r,hr,e⟩:=h.top
  have h0:=(FM h hr e).1
  have:o.1∈bF l r.1:=kC.2 ⟨o,ho,by rw [e];exact hx,rfl⟩
  rw [h0] at this;cases this
 ·have h0:=held h ho hr
  cases hh:bF l o.1 with
  | nil=>exact absurd hh h0
  | cons d ds =>
   have:d∈bF l o.1:=by rw [hh];exact List.mem_cons_self
   obtain ⟨e,he,h3,_⟩:=kC.1 this
   exact ⟨e,he,h3⟩
theorem QH {o:D6} {l:List Int} (h:OkO o) (hl:l.length≤big):OkO (fO o l):=⟨h.lab,hl,h.dat,h.mps,h.clr,h.alr,h.lbs,h.gra,h.gcl,h.inn,h.out⟩
theorem Yc {w:D7} {a b:Int} (hw:SW (objs w) w.2.2.1) (hok:∀ o∈objs w,OkO o):(∀ o∈objs (J4 w a b).1,OkO o)∧(objs (J4 w a b).1).length≤big∧(J4 w a b).2.1.length≤big:=by
 have hfew:=hw.few
 have hb:(1000:Nat)≤big:=by decide
 unfold J4
 split
 ·exact ⟨hok,by show (objs w).length≤big;omega,by simp⟩
 ·rename_i hn
  simp only
  obtain ⟨v,hv⟩:∃ v,v=Iu w (fO (bW (objs w) a).1 ((lnk (bW (objs w) a).1).filter (· != b))):=⟨_,rfl⟩
  rw [← hv]
  have hfound:(bW (objs w) a).2=true:=by cases h9:(bW (objs w) a).2 with | true=>rfl | false=>exact absurd (.inl h9) hn
  obtain ⟨hm,_⟩:=tJ hfound
  have h70:=hw.lns _ hm
  have hvo:(∀ o∈objs v,OkO o)∧(objs v).length≤1000:=by
   rw [hv];unfold Iu
   have hpl:=JW (objs w) (fO (bW (objs w) a).1 ((lnk (bW (objs w) a).1).filter (· != b)))
   split
   ·refine ⟨fun o ho=>?_,by show (nV _ _).length≤_;omega⟩
    rcases tK.1 ho with rfl | ⟨ho,_⟩
    ·have:=List.length_filter_le (· != b) (lnk (bW (objs w) a).1)
     exact QH (hok _ hm) (by omega)
    ·exact hok o ho
   ·exact ⟨hok,by omega⟩
  obtain ⟨g1,_⟩:=yY (objs v).length (objs v) [] (DF (objs v) v.2.2.1) (Nat.le_refl _)
  have hsub:∀ o∈(rounds v.2.2.1 (objs v).length (objs v) []).1,o∈objs v:=fun o ho=>by rw [g1.left] at ho;exact (List.mem_filter.1 ho).1
  refine ⟨fun o ho=>hvo.1 o (hsub o ho),?_,?_⟩
  ·show (rounds v.2.2.1 (objs v).length (objs v) []).1.length≤big
   rw [g1.left]
   have:=List.length_filter_le (fun o:D6=>!(rounds v.2.2.1 (objs v).length (objs v) []).2.contains o.1) (objs v)
   omega
  ·obtain ⟨A,a1,a2,_⟩:=g1.ord
   have:=yZ (l:=objs v) (A:=(rounds v.2.2.1 (objs v).length (objs v) []).2) (g1.rise.imp (fun h=>by omega)) (fun x hx=>(a2 x ((a1 x).2 hx)).1)
   omega
theorem aaV (w:D7) (a b:Int) (hok:∀ o∈objs w,OkO o) (h23:F23=some true):F4 w a b=some true:=by
 obtain ⟨f,h1,h2⟩:=Yb w hok
 unfold F4
 rw [h1,Option.bind_some]
 cases f with
 | false=>simp only [Bool.not_false,if_true,h23,Option.bind_some]
 | true =>
  obtain ⟨hSW,hheld⟩:=aaU (h2 rfl)
  have hfew:=hSW.few
  have e1:=ZE w a b hSW hheld
  have e2:=ZC w a b (by omega) hSW.ris (fun o ho=>by have:=hSW.lns o ho;omega)
  obtain ⟨k1,k2,k3⟩:=Yc (a:=a) (b:=b) hSW hok
  have e3:=UE (J4 w a b).1 k2 k1
  have e4:=UH (J4 w a b).2.1 k3
  have e5:F28 w a b=some (J4 w a b).2.1:=by unfold F28;rw [e1,Option.bind_some]
  have e6:F29 w a b=some (J4 w a b).2.1:=by unfold F29;rw [e2,Option.bind_some]
  simp only [Bool.not_true,Bool.false_eq_true,if_false,e1,e2,e3,e4,e5,e6,h23,Option.bind_some,if_true,Bool.and_self,Bool.and_true,beq_self_eq_true]
end Go.Fn
namespace Go.Fn
open Go Go.Ab Go.Tx
theorem ZF {o:D6} (h:wfT t6 o):OkO o:=by
 obtain ⟨_,_,h1,_,_,h2,h3,h4,h5,h6,h7,h8,_⟩:=h
 obtain ⟨_,_,c1,_,_,_,_,_,c2,_,c3,_⟩:=h5
 obtain ⟨g1,g2,_⟩:=h6
 exact ⟨h1.1,h2.1,h3.1,h4.1,c1.1,c2.1,fun i=>(c3 i).1,g1.1,g2.1,h7.1,h8.1⟩
theorem aaW:yG 100 L23.tr 23 (mO [] ()) .bool=some true:=by kernel_rfl
theorem Yd:F23=some true:=Ue (n:=100) (g:=23) («as»:=[]) (rty:=.bool) (l:=L23.tr) (F:=L24.cf) (f:=fun _=>F23) L23.le () aaW
theorem Ye (w:D7) (a b:Int) (h:wfT t7 w):F4 w a b=some true:=by
 obtain ⟨_,_,_,h,_⟩:=h
 exact aaV w a b (fun o ho=>ZF (h.2 o ho)) Yd
end Go.Fn
namespace Go.Fn
set_option maxRecDepth 100000
open Go Go.Ab Go.Tx
theorem law4 {st:tX [t7,(.int .u64),(.int .u64)]} (h:dw (mO [t7,(.int .u64),(.int .u64)] st)→F4 st.1 st.2.1 st.2.2=some true):kR Go.Proofs.Tryz.prog 4 ((mO [t7,(.int .u64),(.int .u64)] st).map Val.d) [.b true] :=
 Za L29 pm 4 [t7,(.int .u64),(.int .u64)] .bool (fun st=>F4 st.1 st.2.1 st.2.2) [(4,5,[.calm (.range 28)])] [] [] au (fun st=>by kernel_rfl) (by kernel_rfl) h
end Go.Fn
