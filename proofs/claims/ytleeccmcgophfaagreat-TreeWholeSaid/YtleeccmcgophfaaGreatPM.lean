import Derived.Test.YtleeccmcgophfaaGreatPL
import Derived.Test.YtleeccmcgophfaaGreatPK
import Derived.Test.YtleeccmcgophfaaGreatPI
set_option linter.all false
namespace Go.Fn
set_option linter.unusedVariables false
open Go Go.Ab Go.Tx
theorem F90_iff {w:D7} (hN:Nice w) (hD:∀ o ∈ objs w,NiceD o) {d:D6} (hd:NiceD d) : Def (F90 w d) fun b=>b=true ↔ (∀ x ∈ lnk d,(findO (objs w) x).2=true ∧ placeB d.2.2.1 (findO (objs w) x).1.2.2.1=true) ∧ (d.2.1=2 → usesF (objs w) (pages d) (lnk d) ≤ quo d):=by
 have hf:=hN.few
 unfold F90
 simp only [letJ_eq]
 refine Def.for1 (l:=lnk d) (fun pre=>∀ x ∈ pre,(findO (objs w) x).2=true ∧ placeB d.2.2.1 (findO (objs w) x).1.2.2.1=true) (by have:=hd.lns; omega) (by simp) (fun pre v post e hi=>?_) (fun hi=>.done ?_)
 ·have hv:v ∈ lnk d:=by rw [e]; simp
  have ho:=findO_all hD zeroO_niceD v
  rw [F43_eq w v hf,Option.bind_some,F153_eq _ _ hd.lab4 ho.lab4 hd.fit ho.fit]
  refine Def.bindI (fun b=>b=placeB d.2.2.1 (findO (objs w) v).1.2.2.1) (fun _=>.ret rfl) (fun v5 q5 _=>?_)
  refine Def.ite (fun hc=>.done (.ret ⟨fun h=>(by cases h),fun hp=>?_⟩)) (fun hc=>.turn ⟨rfl,fun x hx=>?_⟩)
  ·obtain ⟨h1,h2⟩:=hp.1 v hv
   rw [h1] at q5 hc
   have:=q5 (by simp)
   rw [h2] at this
   subst this
   simp at hc
  ·rcases List.mem_append.1 hx with hx | hx
   ·exact hi x hx
   ·simp only [List.mem_singleton] at hx
    subst hx
    simp at hc
    have:=q5 (by simp [hc.1])
    exact ⟨hc.1,by rw [← this]; exact hc.2⟩
 ·rw [F36_eq w d hf hd.dat hd.lns]
  refine Def.bindI (fun v=>v=usesF (objs w) (pages d) (lnk d)) (fun _=>.ret rfl) (fun v2 q2 _=>.ret ?_)
  by_cases e:d.2.1=2
  ·have:=q2 (by simp [e])
   subst this
   simp only [e,bne_self_eq_false,Bool.false_eq_true,if_false,decide_eq_true_eq]
   exact ⟨fun h=>⟨hi,fun _=>h⟩,fun h=>h.2 trivial⟩
  ·have:(d.2.1 != 2)=true:=by simpa using e
   rw [this,if_pos rfl]
   exact ⟨fun _=>⟨hi,fun h=>absurd h e⟩,fun _=>rfl⟩
structure PlP (l:List D6) (root:Int) (o:D6) : Prop where
 top:o.1=root → holders l o.1=[] ∧ o.2.1=2 ∧ quo o ≤ 1024
 held:o.1 ≠ root → holders l o.1 ≠ []
 one:o.1 ≠ root → 1 < (holders l o.1).length → o.2.2.2.2.1=true ∧ o.2.1 ≠ 2 ∧ o.2.1 ≠ 4
 up:o.1 ≠ root → o.2.1=2 → ∃ c,Chain l o.1 c ∧ c.getLast? = some root
theorem upB_iff {l:List D6} {root id:Int} (h:id ≠ root) : upB l root id=true ↔ ∃ c,Chain l id c ∧ c.getLast? = some root:=by
 unfold upB
 constructor
 ·intro hp
  cases ha:(above l id).getLast? with
  | none=>rw [ha] at hp; simp at hp; exact absurd hp h
  | some x =>
   rw [ha] at hp
   have hx:x=root:=by simpa using hp
   subst hx
   rcases climb_chain l (l.length + 1) id [] with h1 | ⟨c,h1,h2,_⟩
   ·unfold above at ha
    rw [h1] at ha; cases ha
   ·unfold above at ha
    rw [h2] at ha
    exact ⟨c,h1,by simpa using ha⟩
 ·rintro ⟨c,hc,hl⟩
  have hlen:=chain_len hc
  have:above l id=c:=by unfold above; rw [climb_of hc _ _ (by omega)]; rfl
  rw [this,hl]
  simp
theorem placed_iff {l:List D6} {root:Int} {o:D6}:placedB l root o=true ↔ PlP l root o:=by
 unfold placedB
 simp only
 by_cases hr:o.1=root
 ·rw [if_pos hr]
  simp only [Bool.and_eq_true,beq_iff_eq,decide_eq_true_eq]
  constructor
  ·rintro ⟨h1,h2,h3⟩
   exact ⟨fun _=>⟨List.length_eq_zero_iff.1 h1,h2,h3⟩,fun h=>absurd hr h,fun h=>absurd hr h,fun h=>absurd hr h⟩
  ·intro h
   obtain ⟨h1,h2,h3⟩:=h.top hr
   exact ⟨by rw [h1]; rfl,h2,h3⟩
 ·rw [if_neg hr]
  by_cases hc:(holders l o.1).length < 1 ∨ 1 < (holders l o.1).length ∧ (o.2.2.2.2.1=false ∨ o.2.1=2 ∨ o.2.1=4)
  ·rw [if_pos hc]
   refine ⟨fun h=>(by cases h),fun h=>?_⟩
   exfalso
   rcases hc with hc | ⟨h1,h2⟩
   ·exact h.held hr (List.length_eq_zero_iff.1 (by omega))
   ·obtain ⟨p1,p2,p3⟩:=h.one hr h1
    rcases h2 with h2 | h2 | h2
    ·rw [p1] at h2; cases h2
    ·exact p2 h2
    ·exact p3 h2
  ·rw [if_neg hc]
   simp only [not_or,not_and] at hc
   have base:(o.2.1=2 → ∃ c,Chain l o.1 c ∧ c.getLast? = some root) ↔ PlP l root o:=by
    constructor
    ·intro hu
     refine ⟨fun h=>absurd h hr,fun _ e=>?_,fun _ h1=>?_,fun _=>hu⟩
     ·rw [e] at hc; simp at hc
     ·obtain ⟨p1,p2,p3⟩:=hc.2 h1
      exact ⟨by simpa using p1,p2,p3⟩
    ·intro h; exact h.up hr
   rw [← base]
   by_cases hk:o.2.1=2
   ·rw [if_pos hk,upB_iff hr]
    exact ⟨fun h _=>h,fun h=>h hk⟩
   ·rw [if_neg hk]
    exact ⟨fun _ h=>absurd h hk,fun _=>rfl⟩
structure WP (w:D7) : Prop where
 time:0 ≤ w.1 ∧ w.1 ≤ 1099511627776
 few:(objs w).length ≤ 100
 ids:Ris w
 snd:∀ o ∈ objs w,SndP o
 has:∀ d ∈ objs w,∀ x ∈ lnk d,∃ y ∈ objs w,y.1=x ∧ placeB d.2.2.1 y.2.2.1=true
 use:∀ d ∈ objs w,d.2.1=2 → useS (objs w) d ≤ quo d
 root:∃ r ∈ objs w,r.1=w.2.2.1
 plc:∀ o ∈ objs w,PlP (objs w) w.2.2.1 o
 spn:SpanP w
theorem quoF_snd {w:D7} (hr:Ris w) (h:∀ o ∈ objs w,SndP o) (id:Int) : 0 ≤ quoF (objs w) id ∧ quoF (objs w) id ≤ 4096:=by
 by_cases hx:∃ o ∈ objs w,o.1=id
 ·obtain ⟨o,ho,rfl⟩:=hx
  rw [quoF,findO_mem hr o ho]; have:=(h o ho).quo; exact ⟨by simp only; omega,this.2⟩
 ·rw [quoF,findO_none fun o ho e=>hx ⟨o,ho,e⟩]
  exact ⟨by decide,by decide⟩
theorem use_small' {l:List D6} (hb:∀ id,0 ≤ quoF l id ∧ quoF l id ≤ 4096) {o:D6} (hd:(dat o).length ≤ 1000000) (hk:(lnk o).length ≤ 1000) : usesF l (pages o) (lnk o)=useS l o ∧ 0 ≤ useS l o ∧ useS l o ≤ 10000000:=by
 have hp:1 ≤ pages o ∧ pages o ≤ 62502:=by unfold pages; constructor <;> omega
 have e:usesF l (pages o) (lnk o)=useS l o:=usesF_eq hb _ _ (by omega) (by omega)
 have ht:∀ ks:List Int,0 ≤ tot (ks.map (quoF l)) ∧ tot (ks.map (quoF l)) ≤ ks.length * 4096:=by
  intro ks
  induction ks with
  | nil=>simp [tot]
  | cons a ks ih=>have:=hb a; simp only [List.map_cons,tot,List.length_cons]; omega
 have:=ht (lnk o)
 refine ⟨e,?_,?_⟩ <;> unfold useS <;> omega
theorem wp_iff {w:D7} (hF:Few w) : WholeP w ↔ WP w:=by
 constructor
 ·intro h
  have hN:=fit_nice hF h.fit
  have hD:=fit_niceD hF h.fit
  have hl:∀ d ∈ objs w,(∀ x ∈ lnk d,(findO (objs w) x).2=true ∧ placeB d.2.2.1 (findO (objs w) x).1.2.2.1=true) ∧ (d.2.1=2 → usesF (objs w) (pages d) (lnk d) ≤ quo d):=fun d hd=>by
   obtain ⟨b,hb,q⟩:=F90_iff hN hD (hD d hd)
   rw [h.lnk d hd] at hb; cases hb
   exact q.1 rfl
  exact {
   time:=h.fit.time,few:=hF.len,ids:=h.fit.ids,snd:=h.fit.snd
   has:=fun d hd x hx=>by
    obtain ⟨h1,h2⟩:=(hl d hd).1 x hx
    exact ⟨_,(findO_of h1).1,(findO_of h1).2,h2⟩
   use:=fun d hd hk=>by
    rw [← (use_small' (quoF_snd h.fit.ids h.fit.snd) (hF.dat d hd) (hF.lns d hd)).1]
    exact (hl d hd).2 hk
   root:=⟨_,findO_of h.root⟩
   plc:=fun o ho=>placed_iff.1 (h.plc o ho)
   spn:=h.spn }
 ·intro h
  have hfit:FitP w:=⟨h.time,by have:=h.few; omega,h.ids,h.snd⟩
  have hN:=fit_nice hF hfit
  have hD:=fit_niceD hF hfit
  exact {
   fit:=hfit
   root:=by
    obtain ⟨r,hr,e⟩:=h.root
    rw [← e,findO_mem h.ids r hr]
   lnk:=fun d hd=>by
    obtain ⟨b,hb,q⟩:=F90_iff hN hD (hD d hd)
    rw [hb]
    congr 1
    refine q.2 ⟨fun x hx=>?_,fun hk=>?_⟩
    ·obtain ⟨y,hy,rfl,hp⟩:=h.has d hd x hx
     rw [findO_mem h.ids y hy]
     exact ⟨rfl,hp⟩
    ·rw [(use_small' (quoF_snd h.ids h.snd) (hF.dat d hd) (hF.lns d hd)).1]
     exact h.use d hd hk
   plc:=fun o ho=>placed_iff.2 (h.plc o ho)
   spn:=h.spn }
end Go.Fn
namespace Go.Fn
set_option linter.unusedVariables false
open Go Go.Ab Go.Tx
theorem rise_ext:∀ {a b:List Int},a.Pairwise (· < ·) → b.Pairwise (· < ·) → (∀ x,x ∈ a ↔ x ∈ b) → a=b
 | [],[],_,_,_=>rfl
 | [],y :: b,_,_,h=>by have:=(h y).2 (by simp); cases this
 | x :: a,[],_,_,h=>by have:=(h x).1 (by simp); cases this
 | x :: a,y :: b,ha,hb,h=>by
  obtain ⟨a1,a2⟩:=List.pairwise_cons.1 ha
  obtain ⟨b1,b2⟩:=List.pairwise_cons.1 hb
  have e:x=y:=by
   rcases List.mem_cons.1 ((h x).1 (by simp)) with h1 | h1
   ·exact h1
   ·rcases List.mem_cons.1 ((h y).2 (by simp)) with h2 | h2
    ·exact h2.symm
    ·have:=a1 y h2; have:=b1 x h1; omega
  subst e
  congr 1
  refine rise_ext a2 b2 fun z=>⟨fun hz=>?_,fun hz=>?_⟩
  ·rcases List.mem_cons.1 ((h z).1 (by simp [hz])) with h1 | h1
   ·have:=a1 z hz; omega
   ·exact h1
  ·rcases List.mem_cons.1 ((h z).2 (by simp [hz])) with h1 | h1
   ·have:=b1 z hz; omega
   ·exact h1
theorem holders_rise {l:List D6} (h:l.Pairwise (fun a b=>a.1 < b.1)) (id:Int) : (holders l id).Pairwise (· < ·):=by
 unfold holders
 rw [List.pairwise_map]
 exact h.filter _
theorem holders_ext {l l' : List D6} {id:Int} (h:l.Pairwise (fun a b=>a.1 < b.1)) (h' : l'.Pairwise (fun a b=>a.1 < b.1)) (he:∀ d,(∃ o ∈ l,id ∈ lnk o ∧ o.1=d) ↔ ∃ o ∈ l',id ∈ lnk o ∧ o.1=d) : holders l' id=holders l id :=
 rise_ext (holders_rise h' id) (holders_rise h id) fun x=>by rw [mem_holders,mem_holders]; exact (he x).symm
theorem Chain.move {l l' : List D6} (S:Int → Prop) (h:∀ id,S id → holders l' id=holders l id) (hS:∀ id d,S id → d ∈ holders l id → S d) {id:Int} {c:List Int} (hc:Chain l id c) (h0:S id) : Chain l' id c:=by
 induction hc with
 | nil e=>exact .nil (by rw [h _ h0]; exact e)
 | cons e _ ih=>exact .cons (by rw [h _ h0]; exact e) (ih (hS _ _ h0 (by rw [e]; simp)))
structure Like (o o' : D6) : Prop where
 id:o'.1=o.1
 kind:o'.2.1=o.2.1
 lab:o'.2.2.1=o.2.2.1
 spn:spn o' = Fn.spn o
theorem wp_put {w:D7} (hW:WP w) (hl:(objs w).length ≤ 50) {o o' : D6} (ho:o ∈ objs w) (hk:Like o o') (hs:SndP o') (hlk:∀ x ∈ lnk o',∃ y ∈ objs w,y.1=x ∧ placeB o.2.2.1 y.2.2.1=true)
  (huse:∀ d ∈ objs (putW w o'),d.2.1=2 → useS (objs (putW w o')) d ≤ quo d) (hplc:∀ x ∈ objs (putW w o'),PlP (objs (putW w o')) w.2.2.1 x) : WP (putW w o'):=by
 have o2:objs (putW w o')=putL (objs w) o':=putW_objs (by omega)
 have hm:∀ x,x ∈ objs (putW w o') ↔ x=o' ∨ x ∈ objs w ∧ x.1 ≠ o.1:=fun x=>by rw [o2,mem_putL,hk.id]
 have hhd:(putW w o').1=w.1 ∧ (putW w o').2.1=w.2.1 ∧ (putW w o').2.2.1=w.2.2.1:=by
  unfold putW; split <;> exact ⟨rfl,rfl,rfl⟩
 have hin:∀ y ∈ objs w,∃ y' ∈ objs (putW w o'),Like y y':=fun y hy=>by
  by_cases e:y.1=o.1
  ·have:=same_of hW.ids hy ho e
   subst this
   exact ⟨o',(hm o').2 (.inl rfl),hk⟩
  ·exact ⟨y,(hm y).2 (.inr ⟨hy,e⟩),rfl,rfl,rfl,rfl⟩
 have hout:∀ y' ∈ objs (putW w o'),∃ y ∈ objs w,Like y y':=fun y' hy=>by
  rcases (hm y').1 hy with rfl | ⟨h,_⟩
  ·exact ⟨o,ho,hk⟩
  ·exact ⟨y',h,rfl,rfl,rfl,rfl⟩
 exact {
  time:=by rw [hhd.1]; exact hW.time
  few:=by have:=putW_len w o'; omega
  ids:=putW_ris o' hW.ids
  snd:=fun x hx=>by
   rcases (hm x).1 hx with rfl | ⟨h,_⟩
   ·exact hs
   ·exact hW.snd x h
  has:=fun d hd x hx=>by
   have:∃ y ∈ objs w,y.1=x ∧ placeB d.2.2.1 y.2.2.1=true:=by
    rcases (hm d).1 hd with rfl | ⟨h,_⟩
    ·rw [hk.lab]; exact hlk x hx
    ·exact hW.has d h x hx
   obtain ⟨y,hy,e1,e2⟩:=this
   obtain ⟨y',hy',q⟩:=hin y hy
   exact ⟨y',hy',by rw [q.id,e1],by rw [q.lab]; exact e2⟩
  use:=huse
  root:=by
   obtain ⟨r,hr,e⟩:=hW.root
   obtain ⟨r',hr',q⟩:=hin r hr
   exact ⟨r',hr',by rw [q.id,hhd.2.2,e]⟩
  plc:=by rw [hhd.2.2]; exact hplc
  spn:=by
   intro t' ht' hk4 x' hx'
   obtain ⟨t,ht,q⟩:=hout t' ht'
   obtain ⟨x,hx,p⟩:=hout x' hx'
   obtain ⟨s1,s2⟩:=hW.spn t ht (by rw [← q.kind]; exact hk4) x hx
   rw [hhd.2.1,q.spn,p.spn,p.id,p.kind,q.id]
   exact ⟨s1,s2⟩ }
theorem quoF_in {l:List D6} (hp:l.Pairwise (fun a b=>a.1 < b.1)) {o:D6} (ho:o ∈ l) : quoF l o.1=quo o:=by
 rw [quoF,findO_mem hp o ho]
theorem wp_same {w:D7} (hW:WP w) (hl:(objs w).length ≤ 50) {o o' : D6} (ho:o ∈ objs w) (hk:Like o o') (hs:SndP o') (hlnk:lnk o' = lnk o)
  (huse:∀ d ∈ objs (putW w o'),d.2.1=2 → useS (objs (putW w o')) d ≤ quo d) (hone:1 < (holders (objs w) o.1).length → o'.2.2.2.2.1=true) (htop:o.1=w.2.2.1 → quo o' ≤ 1024) : WP (putW w o') ∧ ∀ id,holders (objs (putW w o')) id=holders (objs w) id:=by
 have o2:objs (putW w o')=putL (objs w) o':=putW_objs (by omega)
 have hm:∀ x,x ∈ objs (putW w o') ↔ x=o' ∨ x ∈ objs w ∧ x.1 ≠ o.1:=fun x=>by rw [o2,mem_putL,hk.id]
 have hr:=putW_ris o' hW.ids
 have hh:∀ id,holders (objs (putW w o')) id=holders (objs w) id:=fun id=>holders_ext hW.ids hr fun d=>by
  constructor
  ·rintro ⟨x,hx,h1,h2⟩
   by_cases e:x.1=o.1
   ·have:=same_of hW.ids hx ho e
    subst this
    exact ⟨o',(hm o').2 (.inl rfl),by rw [hlnk]; exact h1,by rw [hk.id]; exact h2⟩
   ·exact ⟨x,(hm x).2 (.inr ⟨hx,e⟩),h1,h2⟩
  ·rintro ⟨x,hx,h1,h2⟩
   rcases (hm x).1 hx with rfl | ⟨h,_⟩
   ·exact ⟨o,ho,by rw [← hlnk]; exact h1,by rw [← hk.id]; exact h2⟩
   ·exact ⟨x,h,h1,h2⟩
 have hch:∀ {id c},Chain (objs w) id c → Chain (objs (putW w o')) id c:=fun h=>h.move (fun _=>True) (fun id _=>hh id) (fun _ _ _ _=>trivial) trivial
 refine ⟨wp_put hW hl ho hk hs (by rw [hlnk]; exact fun x hx=>hW.has o ho x hx) huse fun x hx=>?_,hh⟩
 have key:∀ y ∈ objs w,y.1=x.1 → y.2.1=x.2.1 → (1 < (holders (objs w) y.1).length → x.2.2.2.2.1=true) → (y.1=w.2.2.1 → quo x ≤ 1024) → PlP (objs (putW w o')) w.2.2.1 x:=by
  intro y hy e1 e2 h1 h2
  have hp:=hW.plc y hy
  refine ⟨fun e=>?_,fun e=>?_,fun e hlen=>?_,fun e hk2=>?_⟩
  ·obtain ⟨a,b,_⟩:=hp.top (by rw [e1]; exact e)
   exact ⟨by rw [hh,← e1]; exact a,by rw [← e2]; exact b,h2 (by rw [e1]; exact e)⟩
  ·rw [hh,← e1]; exact hp.held (by rw [e1]; exact e)
  ·rw [hh,← e1] at hlen
   obtain ⟨_,b,c⟩:=hp.one (by rw [e1]; exact e) hlen
   exact ⟨h1 hlen,by rw [← e2]; exact b,by rw [← e2]; exact c⟩
  ·obtain ⟨c,hc,hlast⟩:=hp.up (by rw [e1]; exact e) (by rw [e2]; exact hk2)
   exact ⟨c,by rw [← e1]; exact hch hc,hlast⟩
 rcases (hm x).1 hx with rfl | ⟨h,_⟩
 ·exact key o ho hk.id.symm hk.kind.symm hone htop
 ·refine key x h rfl rfl (fun h1=>?_) (fun e=>((hW.plc x h).top e).2.2)
  by_cases e:x.1=w.2.2.1
  ·rw [((hW.plc x h).top e).1] at h1; simp at h1
  ·exact ((hW.plc x h).one e h1).1
theorem fix_whole {w v:D7} {id:Int} (hW:WP w) (hl:(objs w).length ≤ 50) (e:fixF w id=(v,0)) : WP v:=by
 unfold fixF at e
 split at e
 ·cases e
 rename_i h1
 split at e
 ·cases e
 rename_i h2
 simp only [Bool.not_eq_false] at h1
 obtain ⟨hom,hod⟩:=findO_of h1
 generalize (findO (objs w) id).1=o at *
 have hk:o.2.1 ≠ 2 ∧ o.2.1 ≠ 4:=by
  unfold wholeK at h2
  simpa using h2
 have hv:v=putW w (sett6_4_1 o true):=(congrArg Prod.fst e).symm
 subst hv
 have hs:=hW.snd o hom
 have o2:objs (putW w (sett6_4_1 o true))=putL (objs w) (sett6_4_1 o true):=putW_objs (by omega)
 have hm:∀ x,x ∈ objs (putW w (sett6_4_1 o true)) ↔ x=sett6_4_1 o true ∨ x ∈ objs w ∧ x.1 ≠ o.1:=fun x=>by rw [o2,mem_putL]
 have hr:=putW_ris (sett6_4_1 o true) hW.ids
 have hq:∀ i,quoF (objs (putW w (sett6_4_1 o true))) i=quoF (objs w) i:=fun i=>by
  by_cases hx:∃ x ∈ objs w,x.1=i
  ·obtain ⟨x,hx,rfl⟩:=hx
   rw [quoF_in hW.ids hx]
   by_cases ex:x.1=o.1
   ·have:=same_of hW.ids hx hom ex
    subst this
    exact quoF_in (o:=sett6_4_1 x true) hr ((hm _).2 (.inl rfl))
   ·exact quoF_in hr ((hm x).2 (.inr ⟨hx,ex⟩))
  ·rw [quoF,quoF,findO_none fun x hx' e=>hx ⟨x,hx',e⟩,findO_none fun x hx' e=>?_]
   rcases (hm x).1 hx' with rfl | ⟨h,_⟩
   ·exact hx ⟨o,hom,e⟩
   ·exact hx ⟨x,h,e⟩
 refine (wp_same hW hl hom (o':=sett6_4_1 o true) ⟨rfl,rfl,rfl,rfl⟩ ⟨hs.id,hs.kind,hs.lab,hs.quo,hs.own,⟨hs.alone.lnk,hs.alone.dat,hs.alone.mps,hs.alone.thr,hs.alone.gat,hs.alone.inn,hs.alone.out⟩,⟨hs.inner.seg,hs.inner.con,hs.inner.spa,fun h=>absurd h hk.2,hs.inner.gat,hs.inner.dev⟩⟩ rfl (fun d hd hk2=>?_) (fun _=>rfl) (fun e=>absurd ((hW.plc o hom).top e).2.1 hk.1)).1
 rcases (hm d).1 hd with rfl | ⟨h,_⟩
 ·exact absurd hk2 hk.1
 ·unfold useS
  rw [funext hq]
  exact hW.use d h hk2
theorem tot_one' {f g:Int → Int} {id n:Int} (h1:g id=f id + n) (h2:∀ x,x ≠ id → g x=f x) : ∀ l:List Int,l.Pairwise (· < ·) → tot (l.map g)=tot (l.map f) + if id ∈ l then n else 0
 | [],_=>by simp [tot]
 | a :: l,hp=>by
  obtain ⟨q1,q2⟩:=List.pairwise_cons.1 hp
  have ih:=tot_one' h1 h2 l q2
  simp only [List.map_cons,tot]
  by_cases e:a=id
  ·subst e
   have hn:a ∉ l:=fun hm=>by have:=q1 a hm; omega
   rw [if_neg hn] at ih
   rw [if_pos (by simp),h1]
   omega
  ·rw [h2 a e]
   by_cases hm:id ∈ l
   ·rw [if_pos hm] at ih
    rw [if_pos (by simp [hm])]
    omega
   ·rw [if_neg hm] at ih
    rw [if_neg (by simp [hm]; exact fun h=>e h.symm)]
    omega
theorem snd_rise {o:D6} (hs:SndP o) : (lnk o).Pairwise (· < ·):=by
 by_cases e:o.2.1=2
 ·exact (hs.inner.con e).2.rise
 ·rw [hs.alone.lnk e]; exact List.Pairwise.nil
theorem putL_back {l:List D6} (hp:l.Pairwise (fun a b=>a.1 < b.1)) {o o' : D6} (ho:o ∈ l) (e:o'.1=o.1) : putL (putL l o') o=l:=by
 obtain ⟨s,t,rfl⟩:=List.append_of_mem ho
 rw [List.pairwise_append,List.pairwise_cons] at hp
 obtain ⟨_,⟨h2,_⟩,h3⟩:=hp
 have s1:∀ {q:Int},q=o.1 → s.filter (fun x=>decide (x.1 < q))=s:=fun hq=>List.filter_eq_self.2 fun x hx=>by have:=h3 x hx o (by simp); simp; omega
 have s2:∀ {q:Int},q=o.1 → s.filter (fun x=>decide (q < x.1))=[]:=fun hq=>List.filter_eq_nil_iff.2 fun x hx=>by have:=h3 x hx o (by simp); simp; omega
 have t1:∀ {q:Int},q=o.1 → t.filter (fun x=>decide (x.1 < q))=[]:=fun hq=>List.filter_eq_nil_iff.2 fun x hx=>by have:=h2 x hx; simp; omega
 have t2:∀ {q:Int},q=o.1 → t.filter (fun x=>decide (q < x.1))=t:=fun hq=>List.filter_eq_self.2 fun x hx=>by have:=h2 x hx; simp; omega
 have p1:putL (s ++ o :: t) o' = s ++ o' :: t:=by
  unfold putL
  rw [List.filter_append,List.filter_append,s1 e,s2 e,List.filter_cons,List.filter_cons,t1 e,t2 e,if_neg (by simp; omega),if_neg (by simp; omega)]
  simp
 rw [p1]
 unfold putL
 rw [List.filter_append,List.filter_append,s1 rfl,s2 rfl,List.filter_cons,List.filter_cons,t1 rfl,t2 rfl,if_neg (by simp; omega),if_neg (by simp; omega)]
 simp
theorem seg_of_pages {o:D6} {q:Int} (h:pages o ≤ q) : ((dat o).length:Int) ≤ 16 * (q - 1):=by
 unfold pages at h
 omega
theorem move_whole {w v:D7} {d id n:Int} (hW:WP w) (hl:(objs w).length ≤ 50) (hF:Few w) (e:moveF w d id n=(v,0)) : WP v ∧ moveF v d id (-n)=(w,0) ∧ (objs v).length ≤ (objs w).length + 1 ∧ ∀ x ∈ objs v,∃ y ∈ objs w,x=y ∨ x=sett6_3_1 y (quo x):=by
 unfold moveF at e
 split at e
 ·cases e
 rename_i h1
 split at e
 ·cases e
 rename_i h2
 split at e
 ·cases e
 rename_i h3
 split at e
 ·cases e
 rename_i h4
 simp only [not_or,Bool.not_eq_false,Decidable.not_not] at h1
 obtain ⟨g1,g2,hidc⟩:=h1
 obtain ⟨hcm,hcd⟩:=findO_of g1
 obtain ⟨hom,hod⟩:=findO_of g2
 have ec:findO (objs w) d=((findO (objs w) d).1,true):=Prod.ext rfl g1
 have eo:findO (objs w) id=((findO (objs w) id).1,true):=Prod.ext rfl g2
 generalize (findO (objs w) d).1=c at *
 generalize (findO (objs w) id).1=o at *
 simp only [not_or,Int.not_lt,gt_iff_lt] at h3 h4
 have hs:=hW.snd o hom
 have hqo:=hs.quo
 rw [wrap_i64 (x:=quo o + n) (by omega) (by omega)] at h4 e
 obtain ⟨hroom,h5,h6⟩:=h4
 have hv:v=putW w (sett6_3_1 o (quo o + n)):=(congrArg Prod.fst e).symm
 subst hv
 have bw:=quoF_snd hW.ids hW.snd
 obtain ⟨u1,u2,u3⟩:=use_small' bw (hF.dat o hom) (hF.lns o hom)
 obtain ⟨k1,k2,k3⟩:=use_small' bw (hF.dat c hcm) (hF.lns c hcm)
 have hqc:=(hW.snd c hcm).quo
 rw [u1] at h5
 have hroom' : n ≤ quo c - useS (objs w) c:=by
  unfold roomF at hroom
  rw [k1,wrap_i64 (by omega) (by omega)] at hroom
  omega
 have o2:objs (putW w (sett6_3_1 o (quo o + n)))=putL (objs w) (sett6_3_1 o (quo o + n)):=putW_objs (by omega)
 have hm:∀ x,x ∈ objs (putW w (sett6_3_1 o (quo o + n))) ↔ x=sett6_3_1 o (quo o + n) ∨ x ∈ objs w ∧ x.1 ≠ o.1:=fun x=>by rw [o2,mem_putL]
 have hr:=putW_ris (sett6_3_1 o (quo o + n)) hW.ids
 have hov:sett6_3_1 o (quo o + n) ∈ objs (putW w (sett6_3_1 o (quo o + n))):=(hm _).2 (.inl rfl)
 have hmo:c.1 ∈ holders (objs w) o.1:=mem_holders.2 ⟨c,hcm,by rw [hod]; exact hidc,rfl⟩
 have hnr:o.1 ≠ w.2.2.1:=fun er=>by rw [((hW.plc o hom).top er).1] at hmo; cases hmo
 have hh1:holders (objs w) o.1=[c.1]:=by
  have hle : ¬ 1 < (holders (objs w) o.1).length:=fun h=>h2 ((hW.plc o hom).one hnr h).1
  generalize holders (objs w) o.1=hs at hmo hle
  match hs,hmo,hle with
  | [a],hmo,_=>simp at hmo; rw [hmo]
  | a :: b :: r,_,hle=>simp at hle
 have alone:∀ x ∈ objs w,o.1 ∈ lnk x → x.1=c.1:=fun x hx hi=>by
  have:x.1 ∈ holders (objs w) o.1:=mem_holders.2 ⟨x,hx,hi,rfl⟩
  rw [hh1] at this
  simpa using this
 have hck:c.2.1=2:=by
  refine Classical.byContradiction fun hn=>?_
  rw [(hW.snd c hcm).alone.lnk hn] at hidc
  cases hidc
 have hself:o.1 ≠ c.1:=fun eoc=>by
  have:=same_of hW.ids hom hcm eoc
  subst this
  obtain ⟨ch,hch,_⟩:=(hW.plc o hom).up hnr hck
  have hnd:=hch.nodup
  cases hch with
  | nil e'=>rw [hh1] at e'; cases e'
  | cons e' _ =>
   rw [hh1] at e'
   cases e'
   simp at hnd
 have q1:quoF (objs (putW w (sett6_3_1 o (quo o + n)))) o.1=quoF (objs w) o.1 + n:=by
  rw [quoF_in hW.ids hom]
  exact quoF_in (o:=sett6_3_1 o (quo o + n)) hr hov
 have q2:∀ y,y ≠ o.1 → quoF (objs (putW w (sett6_3_1 o (quo o + n)))) y=quoF (objs w) y:=by
  intro y hy
  by_cases hx:∃ x ∈ objs w,x.1=y
  ·obtain ⟨x,hx,rfl⟩:=hx
   rw [quoF_in hW.ids hx,quoF_in hr ((hm x).2 (.inr ⟨hx,hy⟩))]
  ·rw [quoF,quoF,findO_none fun x hx' e=>hx ⟨x,hx',e⟩,findO_none fun x hx' e=>?_]
   rcases (hm x).1 hx' with rfl | ⟨h,_⟩
   ·exact hy e.symm
   ·exact hx ⟨x,h,e⟩
 have huse:∀ x ∈ objs w,tot ((lnk x).map (quoF (objs (putW w (sett6_3_1 o (quo o + n))))))=tot ((lnk x).map (quoF (objs w))) + if x.1=c.1 then n else 0:=by
  intro x hx
  rw [tot_one' q1 q2 (lnk x) (snd_rise (hW.snd x hx))]
  by_cases ex:x.1=c.1
  ·have exc:=same_of hW.ids hx hcm ex
   rw [if_pos ex,if_pos (by rw [exc,hod]; exact hidc)]
  ·rw [if_neg ex,if_neg fun hi=>ex (alone x hx hi)]
 have hone:1 < (holders (objs w) o.1).length → (sett6_3_1 o (quo o + n)).2.2.2.2.1=true:=fun h=>by rw [hh1] at h; simp at h
 have hpg:pages o ≤ quo o + n:=by
  have:0 ≤ tot ((lnk o).map (quoF (objs w))):=by
   have:=tot_sub (quoF (objs w)) (fun x=>(bw x).1) [] (lnk o) List.nodup_nil (by simp)
   simpa [tot] using this
  have hu:useS (objs w) o ≤ quo o + n:=by omega
  unfold useS at hu
  omega
 have hwp:WP (putW w (sett6_3_1 o (quo o + n))):=by
  refine (wp_same hW hl hom (o':=sett6_3_1 o (quo o + n)) ⟨rfl,rfl,rfl,rfl⟩ ⟨hs.id,hs.kind,hs.lab,⟨by show 1 ≤ quo o + n; omega,h6⟩,hs.own,⟨hs.alone.lnk,hs.alone.dat,hs.alone.mps,hs.alone.thr,hs.alone.gat,hs.alone.inn,hs.alone.out⟩,⟨fun _=>seg_of_pages (o:=o) hpg,hs.inner.con,hs.inner.spa,hs.inner.thr,hs.inner.gat,hs.inner.dev⟩⟩ rfl (fun x hx hk2=>?_) hone (fun er=>absurd er hnr)).1
  rcases (hm x).1 hx with rfl | ⟨h,hne⟩
  ·show pages o + tot ((lnk o).map _) ≤ quo o + n
   have:=huse o hom
   rw [if_neg hself] at this
   have hu:useS (objs w) o ≤ quo o + n:=by omega
   unfold useS at hu
   omega
  ·have h1:=huse x h
   have h2:=hW.use x h hk2
   unfold useS at h2 ⊢
   by_cases ex:x.1=c.1
   ·have exc:=same_of hW.ids h hcm ex
    subst exc
    rw [if_pos rfl] at h1
    unfold useS at hroom'
    omega
   ·rw [if_neg ex] at h1
    omega
 refine ⟨hwp,?_,putW_len _ _,fun x hx=>?_⟩
 ·have hcv:c ∈ objs (putW w (sett6_3_1 o (quo o + n))):=(hm c).2 (.inr ⟨hcm,fun e=>hself e.symm⟩)
  have bv:=quoF_snd hwp.ids hwp.snd
  have fo:findO (objs (putW w (sett6_3_1 o (quo o + n)))) id=(sett6_3_1 o (quo o + n),true):=by
   rw [← hod]; exact findO_mem hr _ hov
  have fc:findO (objs (putW w (sett6_3_1 o (quo o + n)))) d=(c,true):=by
   rw [← hcd]; exact findO_mem hr c hcv
  have uo:useS (objs (putW w (sett6_3_1 o (quo o + n)))) (sett6_3_1 o (quo o + n))=useS (objs w) o:=by
   show pages o + tot ((lnk o).map _)=_
   have:=huse o hom
   rw [if_neg hself] at this
   unfold useS; omega
  have uc:useS (objs (putW w (sett6_3_1 o (quo o + n)))) c=useS (objs w) c + n:=by
   have:=huse c hcm
   rw [if_pos rfl] at this
   unfold useS; omega
  have e1:usesF (objs (putW w (sett6_3_1 o (quo o + n)))) (pages c) (lnk c)=useS (objs w) c + n:=by
   rw [← uc]; exact (use_small' bv (hF.dat c hcm) (hF.lns c hcm)).1
  have e2:usesF (objs (putW w (sett6_3_1 o (quo o + n)))) (pages (sett6_3_1 o (quo o + n))) (lnk (sett6_3_1 o (quo o + n)))=useS (objs w) o:=by
   rw [← uo]; exact (use_small' (o:=sett6_3_1 o (quo o + n)) bv (hF.dat o hom) (hF.lns o hom)).1
  have hwq:IntKind.wrap .i64 (quo (sett6_3_1 o (quo o + n)) + -n)=quo o:=by
   show IntKind.wrap .i64 (quo o + n + -n)=quo o
   rw [wrap_i64 (by omega) (by omega)]; omega
  have huc:=hW.use c hcm hck
  have huo:useS (objs w) o ≤ quo o:=by
   by_cases hk2:o.2.1=2
   ·exact hW.use o hom hk2
   ·have:lnk o=[]:=hs.alone.lnk hk2
    have hp:pages o ≤ quo o:=by
     unfold pages
     by_cases e1:o.2.1=1
     ·have:=hs.inner.seg e1; omega
     ·rw [hs.alone.dat e1]; simp; omega
    unfold useS
    rw [this]
    simp [tot]; exact hp
  unfold moveF
  rw [fo,fc]
  simp only
  rw [if_neg (by simp only [Bool.true_eq_false,false_or]; exact fun h=>h hidc),if_neg h2,if_neg (by omega),if_neg ?_,hwq]
  ·show (putW (putW w (sett6_3_1 o (quo o + n))) (sett6_3_1 (sett6_3_1 o (quo o + n)) (quo o)),(0:Int))=(w,0)
   rw [show sett6_3_1 (sett6_3_1 o (quo o + n)) (quo o)=o from rfl]
   have hb:=putL_back hW.ids hom (o':=sett6_3_1 o (quo o + n)) rfl
   have p1:putW w (sett6_3_1 o (quo o + n))=sett7_3_1 w (putL (objs w) (sett6_3_1 o (quo o + n))):=by
    have:=putL_len (objs w) (sett6_3_1 o (quo o + n))
    unfold putW
    rw [if_pos (by omega)]
   have:putW (putW w (sett6_3_1 o (quo o + n))) o=w:=by
    rw [p1]
    unfold putW
    show (if (putL (putL (objs w) (sett6_3_1 o (quo o + n))) o).length ≤ 1024 then sett7_3_1 (sett7_3_1 w (putL (objs w) (sett6_3_1 o (quo o + n)))) (putL (putL (objs w) (sett6_3_1 o (quo o + n))) o) else _)=w
    rw [hb,if_pos (by omega)]
   rw [this]
  ·rw [hwq,e2]
   unfold roomF
   rw [e1,wrap_i64 (by omega) (by omega)]
   simp only [not_or,Int.not_lt,gt_iff_lt]
   refine ⟨by omega,?_,by omega⟩
   omega
 ·rcases (hm x).1 hx with rfl | ⟨h,_⟩
  ·exact ⟨o,hom,.inr rfl⟩
  ·exact ⟨x,h,.inl rfl⟩
end Go.Fn
namespace Go.Fn
set_option linter.unusedVariables false
open Go Go.Ab Go.Tx
theorem laid_is {l:List D6} {d o:D6} (h:(laidF l d o).2=0) : (laidF l d o).1=sett6_5_1 d (insL (lnk d) o.1) ∧ placeB d.2.2.1 o.2.2.1=true ∧ (lnk d).length < 64 ∧ quo o ≤ roomF l d ∧ lnk o=[]:=by
 unfold laidF at h ⊢
 split at h
 ·cases h
 ·rename_i h1
  split at h
  ·cases h
  ·rename_i h2
   split at h
   ·cases h
   ·rename_i h3
    simp only [not_or,Int.not_lt] at h3
    rw [if_neg h1,if_neg h2,if_neg (by simp only [not_or,Int.not_lt]; exact h3)]
    exact ⟨rfl,by simpa using h1,by omega,by omega,List.length_eq_zero_iff.1 (by omega)⟩
theorem tot_filter' (f:Int → Int) (p:Int → Bool) : ∀ l:List Int,tot ((l.filter p).map f) + tot ((l.filter fun x=>!p x).map f)=tot (l.map f)
 | []=>rfl
 | a :: l=>by
  have ih:=tot_filter' f p l
  cases h:p a <;> simp only [List.filter_cons,h,Bool.not_true,Bool.not_false,if_true,if_false,Bool.false_eq_true,List.map_cons,tot] <;> omega
theorem tot_ins (f:Int → Int) (l:List Int) (t:Int) : tot ((insL l t).map f)=tot (l.map f) + f t:=by
 have:=tot_filter' f (fun o=>decide (o < t)) l
 unfold insL
 rw [List.map_append,tot_app,List.map_cons,tot]
 omega
theorem insL_len1 (l:List Int) (t:Int) : (insL l t).length=l.length + 1:=by
 have h:∀ l:List Int,(l.filter (fun o=>decide (o < t))).length + (l.filter (fun o=>!decide (o < t))).length=l.length:=by
  intro l
  induction l with
  | nil=>rfl
  | cons a l ih=>by_cases h:a < t <;> simp [List.filter_cons,h] <;> omega
 have:=h l
 simp only [insL,List.length_append,List.length_cons]; omega
theorem holder_is {w:D7} (hW:WP w) {id d:Int} (h:d ∈ holders (objs w) id) : ∃ y ∈ objs w,id ∈ lnk y ∧ y.1=d ∧ y.2.1=2:=by
 obtain ⟨y,hy,h1,h2⟩:=mem_holders.1 h
 refine ⟨y,hy,h1,h2,Classical.byContradiction fun hn=>?_⟩
 rw [(hW.snd y hy).alone.lnk hn] at h1; cases h1
theorem con_snd {c:D6} {t:Int} (hs:SndP c) (hk:c.2.1=2) (hn:t ∉ lnk c) (hl:(lnk c).length < 64) (ht:1 ≤ t ∧ t ≤ 2305843009213693952) : SndP (sett6_5_1 c (insL (lnk c) t)) :=
 ⟨hs.id,hs.kind,hs.lab,hs.quo,hs.own,⟨fun h=>absurd hk h,hs.alone.dat,hs.alone.mps,hs.alone.thr,hs.alone.gat,hs.alone.inn,hs.alone.out⟩,
  ⟨hs.inner.seg,fun _=>⟨by have:=insL_len (lnk c) t; show (insL (lnk c) t).length ≤ 64; omega,insL_rise (hs.inner.con hk).2.rise hn,fun x hx=>by
   rcases mem_insL.1 hx with rfl | h
   ·exact ht
   ·exact (hs.inner.con hk).2.id x h⟩,hs.inner.spa,hs.inner.thr,hs.inner.gat,hs.inner.dev⟩⟩
theorem link_whole {w v:D7} {d id:Int} (hW:WP w) (hl:(objs w).length ≤ 50) (hF:Few w) (e:linkF w d id=(v,0)) : WP v ∧ (holders (objs v) id).length=(holders (objs w) id).length + 1:=by
 unfold linkF at e
 split at e
 ·cases e
 rename_i h1
 split at e
 ·cases e
 rename_i h2
 split at e
 ·cases e
 rename_i h3
 split at e
 ·cases e
 rename_i h5
 split at e
 ·rename_i h4; exact absurd (congrArg Prod.snd e) h4
 rename_i h4
 simp only [not_or,Bool.not_eq_false] at h1
 obtain ⟨hcm,hcd⟩:=findO_of h1.1
 obtain ⟨hom,hod⟩:=findO_of h1.2
 generalize (findO (objs w) d).1=c at *
 generalize (findO (objs w) id).1=o at *
 simp only [Decidable.not_not] at h4
 obtain ⟨e1,hpl,h64,hroom,hlo⟩:=laid_is h4
 rw [e1] at e
 have hv:v=putW w (sett6_5_1 c (insL (lnk c) o.1)):=(congrArg Prod.fst e).symm
 subst hv
 simp only [not_or,Decidable.not_not] at h2
 obtain ⟨hck,hok⟩:=h2
 have hok' : o.2.1 ≠ 2 ∧ o.2.1 ≠ 4:=by unfold wholeK at hok; simpa using hok
 have hfix:o.2.2.2.2.1=true:=by simpa using h3
 have hlc:o.1 ∉ lnk c:=by rw [hod]; exact h5
 have hoc:o.1 ≠ c.1:=fun e=>by
  have:=same_of hW.ids hom hcm e
  subst this; exact hok'.1 hck
 have hs:=hW.snd c hcm
 have bw:=quoF_snd hW.ids hW.snd
 obtain ⟨k1,k2,k3⟩:=use_small' bw (hF.dat c hcm) (hF.lns c hcm)
 have hqc:=hs.quo
 have hroom' : quo o ≤ quo c - useS (objs w) c:=by
  unfold roomF at hroom
  rw [k1,wrap_i64 (by omega) (by omega)] at hroom
  exact hroom
 have o2:objs (putW w (sett6_5_1 c (insL (lnk c) o.1)))=putL (objs w) (sett6_5_1 c (insL (lnk c) o.1)):=putW_objs (by omega)
 have hm:∀ x,x ∈ objs (putW w (sett6_5_1 c (insL (lnk c) o.1))) ↔ x=sett6_5_1 c (insL (lnk c) o.1) ∨ x ∈ objs w ∧ x.1 ≠ c.1:=fun x=>by rw [o2,mem_putL]
 have hr:=putW_ris (sett6_5_1 c (insL (lnk c) o.1)) hW.ids
 have hcv:sett6_5_1 c (insL (lnk c) o.1) ∈ objs (putW w (sett6_5_1 c (insL (lnk c) o.1))):=(hm _).2 (.inl rfl)
 have hq:∀ i,quoF (objs (putW w (sett6_5_1 c (insL (lnk c) o.1)))) i=quoF (objs w) i:=fun i=>by
  by_cases hx:∃ x ∈ objs w,x.1=i
  ·obtain ⟨x,hx,rfl⟩:=hx
   rw [quoF_in hW.ids hx]
   by_cases ex:x.1=c.1
   ·have:=same_of hW.ids hx hcm ex
    subst this
    exact quoF_in (o:=sett6_5_1 x (insL (lnk x) o.1)) hr hcv
   ·exact quoF_in hr ((hm x).2 (.inr ⟨hx,ex⟩))
  ·rw [quoF,quoF,findO_none fun x hx' e=>hx ⟨x,hx',e⟩,findO_none fun x hx' e=>?_]
   rcases (hm x).1 hx' with rfl | ⟨h,_⟩
   ·exact hx ⟨c,hcm,e⟩
   ·exact hx ⟨x,h,e⟩
 have hh:∀ i,i ≠ o.1 → holders (objs (putW w (sett6_5_1 c (insL (lnk c) o.1)))) i=holders (objs w) i:=fun i hi=>holders_ext hW.ids hr fun y=>by
  constructor
  ·rintro ⟨x,hx,q1,q2⟩
   by_cases ex:x.1=c.1
   ·have:=same_of hW.ids hx hcm ex
    subst this
    exact ⟨_,hcv,mem_insL.2 (.inr q1),q2⟩
   ·exact ⟨x,(hm x).2 (.inr ⟨hx,ex⟩),q1,q2⟩
  ·rintro ⟨x,hx,q1,q2⟩
   rcases (hm x).1 hx with rfl | ⟨h,_⟩
   ·rcases mem_insL.1 q1 with h | h
    ·exact absurd h hi
    ·exact ⟨c,hcm,h,q2⟩
   ·exact ⟨x,h,q1,q2⟩
 have hch:c.1 ∉ holders (objs w) o.1:=fun h=>by
  obtain ⟨y,hy,q1,q2,_⟩:=holder_is hW h
  rw [same_of hW.ids hy hcm q2] at q1
  exact hlc q1
 have hho:holders (objs (putW w (sett6_5_1 c (insL (lnk c) o.1)))) o.1=insL (holders (objs w) o.1) c.1:=by
  refine rise_ext (holders_rise hr o.1) (insL_rise (holders_rise hW.ids o.1) hch) fun y=>?_
  rw [mem_insL,mem_holders,mem_holders]
  constructor
  ·rintro ⟨x,hx,q1,q2⟩
   rcases (hm x).1 hx with rfl | ⟨h,_⟩
   ·exact .inl q2.symm
   ·exact .inr ⟨x,h,q1,q2⟩
  ·rintro (rfl | ⟨x,hx,q1,q2⟩)
   ·exact ⟨_,hcv,mem_insL.2 (.inl rfl),rfl⟩
   ·by_cases ex:x.1=c.1
    ·have:=same_of hW.ids hx hcm ex
     subst this
     exact absurd q1 hlc
    ·exact ⟨x,(hm x).2 (.inr ⟨hx,ex⟩),q1,q2⟩
 have hS:∀ i y,i ≠ o.1 → y ∈ holders (objs w) i → y ≠ o.1:=fun i y _ hy e=>by
  obtain ⟨z,hz,_,q2,q3⟩:=holder_is hW hy
  rw [same_of hW.ids hz hom (q2.trans e)] at q3
  exact hok'.1 q3
 have hchain:∀ {i ch},Chain (objs w) i ch → i ≠ o.1 → Chain (objs (putW w (sett6_5_1 c (insL (lnk c) o.1)))) i ch:=fun h hi=>h.move (fun i=>i ≠ o.1) hh hS hi
 refine ⟨wp_put hW hl hcm (o':=sett6_5_1 c (insL (lnk c) o.1)) ⟨rfl,rfl,rfl,rfl⟩ (con_snd hs hck hlc h64 (hW.snd o hom).id) (fun x hx=>?_) (fun x hx hk2=>?_) (fun x hx=>?_),by rw [← hod,hho,insL_len1]⟩
 ·rcases mem_insL.1 hx with rfl | h
  ·exact ⟨o,hom,rfl,hpl⟩
  ·exact hW.has c hcm x h
 ·rcases (hm x).1 hx with rfl | ⟨h,_⟩
  ·show pages c + tot ((insL (lnk c) o.1).map _) ≤ quo c
   rw [funext hq,tot_ins,quoF_in hW.ids hom]
   unfold useS at hroom'
   omega
  ·unfold useS
   rw [funext hq]
   exact hW.use x h hk2
 ·have key:∀ y ∈ objs w,y.1=x.1 → y.2.1=x.2.1 → y.2.2.2.2.1=x.2.2.2.2.1 → quo y=quo x → y.1 ≠ o.1 → PlP (objs (putW w (sett6_5_1 c (insL (lnk c) o.1)))) w.2.2.1 x:=by
   intro y hy a1 a2 a3 a4 hne
   have hp:=hW.plc y hy
   have hx1:x.1 ≠ o.1:=by rw [← a1]; exact hne
   refine ⟨fun e=>?_,fun e=>?_,fun e hlen=>?_,fun e hk2=>?_⟩
   ·obtain ⟨b1,b2,b3⟩:=hp.top (by rw [a1]; exact e)
    exact ⟨by rw [hh _ hx1,← a1]; exact b1,by rw [← a2]; exact b2,by rw [← a4]; exact b3⟩
   ·rw [hh _ hx1,← a1]; exact hp.held (by rw [a1]; exact e)
   ·rw [hh _ hx1,← a1] at hlen
    obtain ⟨b1,b2,b3⟩:=hp.one (by rw [a1]; exact e) hlen
    exact ⟨by rw [← a3]; exact b1,by rw [← a2]; exact b2,by rw [← a2]; exact b3⟩
   ·obtain ⟨ch,hc,hlast⟩:=hp.up (by rw [a1]; exact e) (by rw [a2]; exact hk2)
    exact ⟨ch,by rw [← a1]; exact hchain hc hne,hlast⟩
  rcases (hm x).1 hx with rfl | ⟨h,_⟩
  ·exact key c hcm rfl rfl rfl rfl (fun e=>hoc e.symm)
  ·by_cases ex:x.1=o.1
   ·have:=same_of hW.ids h hom ex
    subst this
    refine ⟨fun e=>absurd ((hW.plc x h).top e).2.1 hok'.1,fun _=>?_,fun _ _=>⟨hfix,hok'.1,hok'.2⟩,fun _ hk2=>absurd hk2 hok'.1⟩
    rw [hho]
    intro he
    have:c.1 ∈ insL (holders (objs w) x.1) c.1:=mem_insL.2 (.inl rfl)
    rw [he] at this; cases this
   ·exact key x h rfl rfl rfl rfl ex
structure OwnP (w:D7) (o:D6) : Prop where
 name:∀ x ∈ objs w,x.2.1=4 → F122 w.2.1 (spn x) o.1 ≠ some true
 apart:∀ x ∈ objs w,x.2.1=4 → o.2.1=4 → F123 (spn x) (spn o)=some true
 them:∀ x ∈ objs w,o.2.1=4 → F122 w.2.1 (spn o) x.1 ≠ some true
 self:o.2.1=4 → F122 w.2.1 (spn o) o.1 ≠ some true
theorem F60_def (w:D7) (o:D6) (hn:(objs w).length ≤ 1000) : Def (F60 w o) fun b=>b=true → OwnP w o:=by
 unfold F60
 simp only [letJ_eq]
 refine Def.for1 (l:=objs w) (fun pre=>∀ x ∈ pre,(x.2.1=4 → F122 w.2.1 (spn x) o.1 ≠ some true) ∧ (x.2.1=4 → o.2.1=4 → F123 (spn x) (spn o)=some true) ∧ (o.2.1=4 → F122 w.2.1 (spn o) x.1 ≠ some true)) (by omega) (by simp) (fun pre v post e hi=>?_) (fun hi=>.done ?_)
 ·refine Def.bindI (fun b=>F122 w.2.1 (spn v) o.1=some b) (fun _=>by obtain ⟨b,hb,_⟩:=F122_def w.2.1 (spn v) o.1; exact ⟨b,hb,hb⟩) (fun v4 q4 _=>?_)
  refine Def.bindI (fun b=>F123 (spn v) (spn o)=some b) (fun _=>⟨_,rfl,rfl⟩) (fun v5 q5 _=>?_)
  refine Def.ite (fun _=>.done (.ret (fun h=>by cases h))) (fun hc=>?_)
  refine Def.bindI (fun b=>F122 w.2.1 (spn o) v.1=some b) (fun _=>by obtain ⟨b,hb,_⟩:=F122_def w.2.1 (spn o) v.1; exact ⟨b,hb,hb⟩) (fun v6 q6 _=>?_)
  refine Def.ite (fun _=>.done (.ret (fun h=>by cases h))) (fun hc2=>.turn ⟨rfl,fun x hx=>?_⟩)
  rcases List.mem_append.1 hx with hx | hx
  ·exact hi x hx
  ·simp only [List.mem_singleton] at hx
   subst hx
   refine ⟨fun hk=>?_,fun hk ho=>?_,fun ho=>?_⟩
   ·rw [q4 (by simp [hk])]
    intro ht
    cases ht
    simp [hk] at hc
   ·have h4:=q4 (by simp [hk])
    cases v4 with
    | true=>simp [hk] at hc
    | false =>
     rw [q5 (by simp [hk,ho])]
     simp [hk,ho] at hc
     rw [hc]
   ·rw [q6 (by simp [ho])]
    intro ht
    cases ht
    simp [ho] at hc2
 ·refine Def.bindI (fun b=>F122 w.2.1 (spn o) o.1=some b) (fun _=>by obtain ⟨b,hb,_⟩:=F122_def w.2.1 (spn o) o.1; exact ⟨b,hb,hb⟩) (fun v2 q2 _=>.ret (fun hb=>?_))
  refine ⟨fun x hx=>(hi x hx).1,fun x hx=>(hi x hx).2.1,fun x hx=>(hi x hx).2.2,fun ho=>?_⟩
  rw [q2 (by simp [ho])]
  intro ht
  cases ht
  simp [ho] at hb
theorem F123_comm (a b:D2) (h:F123 a b=some true) : F123 b a=some true:=by
 unfold F123 at h ⊢
 simp only [letV_eq,Option.some.injEq,Bool.if_true_left,Bool.or_eq_true,beq_iff_eq,decide_eq_true_eq] at h ⊢
 omega
theorem attach_whole {w v:D7} {d:Int} {o:D6} (hW:WP w) (hl:(objs w).length ≤ 50) (hF:Few w) (ho:SndP o) (hown:OwnP w o) (e:attachF w d o=(v,0)) : WP v:=by
 unfold attachF at e
 split at e
 ·cases e
 rename_i h1
 split at e
 ·cases e
 rename_i h2
 split at e
 ·cases e
 rename_i h3
 split at e
 ·rename_i h4; exact absurd (congrArg Prod.snd e) h4
 rename_i h4
 simp only [Bool.not_eq_false] at h1
 obtain ⟨hcm,hcd⟩:=findO_of h1
 have hno:∀ x ∈ objs w,x.1 ≠ o.1:=fun x hx ex=>by
  apply h3
  rw [← ex,findO_mem hW.ids x hx]
 generalize (findO (objs w) d).1=c at *
 simp only [Decidable.not_not] at h4 h2
 obtain ⟨e1,hpl,h64,hroom,hlo⟩:=laid_is h4
 rw [e1] at e
 have hv:v=putW (putW w o) (sett6_5_1 c (insL (lnk c) o.1)):=(congrArg Prod.fst e).symm
 have hoc:o.1 ≠ c.1:=fun e=>hno c hcm e.symm
 have hlc:o.1 ∉ lnk c:=fun hi=>by obtain ⟨y,hy,ey,_⟩:=hW.has c hcm _ hi; exact hno y hy ey
 have hs:=hW.snd c hcm
 have bw:=quoF_snd hW.ids hW.snd
 obtain ⟨k1,k2,k3⟩:=use_small' bw (hF.dat c hcm) (hF.lns c hcm)
 have hqc:=hs.quo
 have hroom' : quo o ≤ quo c - useS (objs w) c:=by
  unfold roomF at hroom
  rw [k1,wrap_i64 (by omega) (by omega)] at hroom
  exact hroom
 have p1:=putW_len w o
 have o1:objs (putW w o)=putL (objs w) o:=putW_objs (by omega)
 have o2:objs v=putL (putL (objs w) o) (sett6_5_1 c (insL (lnk c) o.1)):=by rw [hv,putW_objs (by omega),o1]
 have hhd:v.1=w.1 ∧ v.2.1=w.2.1 ∧ v.2.2.1=w.2.2.1:=by
  have:∀ (u:D7) (x:D6),(putW u x).1=u.1 ∧ (putW u x).2.1=u.2.1 ∧ (putW u x).2.2.1=u.2.2.1:=fun u x=>by
   unfold putW; split <;> exact ⟨rfl,rfl,rfl⟩
  obtain ⟨a1,a2,a3⟩:=this w o
  obtain ⟨b1,b2,b3⟩:=this (putW w o) (sett6_5_1 c (insL (lnk c) o.1))
  rw [hv]
  exact ⟨b1.trans a1,b2.trans a2,b3.trans a3⟩
 have hr:Ris v:=by unfold Ris; rw [o2]; exact putL_rise (putL_rise hW.ids o) _
 have hm:∀ x,x ∈ objs v ↔ x=sett6_5_1 c (insL (lnk c) o.1) ∨ (x=o ∨ x ∈ objs w ∧ x.1 ≠ o.1) ∧ x.1 ≠ c.1:=fun x=>by rw [o2,mem_putL,mem_putL]
 have hcv:sett6_5_1 c (insL (lnk c) o.1) ∈ objs v:=(hm _).2 (.inl rfl)
 have hov:o ∈ objs v:=(hm o).2 (.inr ⟨.inl rfl,hoc⟩)
 have hin:∀ y ∈ objs w,∃ y' ∈ objs v,Like y y':=fun y hy=>by
  by_cases e:y.1=c.1
  ·have:=same_of hW.ids hy hcm e
   subst this
   exact ⟨_,hcv,rfl,rfl,rfl,rfl⟩
  ·exact ⟨y,(hm y).2 (.inr ⟨.inr ⟨hy,hno y hy⟩,e⟩),rfl,rfl,rfl,rfl⟩
 have hout:∀ y' ∈ objs v,y' = o ∨ ∃ y ∈ objs w,Like y y':=fun y' hy=>by
  rcases (hm y').1 hy with rfl | ⟨rfl | ⟨h,_⟩,_⟩
  ·exact .inr ⟨c,hcm,rfl,rfl,rfl,rfl⟩
  ·exact .inl rfl
  ·exact .inr ⟨y',h,rfl,rfl,rfl,rfl⟩
 have hq:∀ i,(∃ x ∈ objs w,x.1=i) → quoF (objs v) i=quoF (objs w) i:=by
  rintro i ⟨x,hx,rfl⟩
  rw [quoF_in hW.ids hx]
  by_cases ex:x.1=c.1
  ·have:=same_of hW.ids hx hcm ex
   subst this
   exact quoF_in (o:=sett6_5_1 x (insL (lnk x) o.1)) hr hcv
  ·exact quoF_in hr ((hm x).2 (.inr ⟨.inr ⟨hx,hno x hx⟩,ex⟩))
 have htot:∀ x ∈ objs w,tot ((lnk x).map (quoF (objs v)))=tot ((lnk x).map (quoF (objs w))):=fun x hx=>by
  rw [List.map_congr_left fun y hy=>hq y (by obtain ⟨z,hz,ez,_⟩:=hW.has x hx y hy; exact ⟨z,hz,ez⟩)]
 have hh:∀ i,i ≠ o.1 → holders (objs v) i=holders (objs w) i:=fun i hi=>holders_ext hW.ids hr fun y=>by
  constructor
  ·rintro ⟨x,hx,q1,q2⟩
   by_cases ex:x.1=c.1
   ·have:=same_of hW.ids hx hcm ex
    subst this
    exact ⟨_,hcv,mem_insL.2 (.inr q1),q2⟩
   ·exact ⟨x,(hm x).2 (.inr ⟨.inr ⟨hx,hno x hx⟩,ex⟩),q1,q2⟩
  ·rintro ⟨x,hx,q1,q2⟩
   rcases (hm x).1 hx with rfl | ⟨rfl | ⟨h,_⟩,_⟩
   ·rcases mem_insL.1 q1 with h | h
    ·exact absurd h hi
    ·exact ⟨c,hcm,h,q2⟩
   ·rw [hlo] at q1; cases q1
   ·exact ⟨x,h,q1,q2⟩
 have hho:holders (objs v) o.1=[c.1]:=by
  refine rise_ext (holders_rise hr o.1) (by simp) fun y=>?_
  rw [mem_holders,List.mem_singleton]
  constructor
  ·rintro ⟨x,hx,q1,q2⟩
   rcases (hm x).1 hx with rfl | ⟨rfl | ⟨h,_⟩,_⟩
   ·exact q2.symm
   ·rw [hlo] at q1; cases q1
   ·obtain ⟨z,hz,ez,_⟩:=hW.has x h _ q1
    exact absurd ez (hno z hz)
  ·rintro rfl
   exact ⟨_,hcv,mem_insL.2 (.inl rfl),rfl⟩
 have hS:∀ i y,i ≠ o.1 → y ∈ holders (objs w) i → y ≠ o.1:=fun i y _ hy e=>by
  obtain ⟨z,hz,_,q2,_⟩:=holder_is hW hy
  exact hno z hz (q2.trans e)
 have hchain:∀ {i ch},Chain (objs w) i ch → i ≠ o.1 → Chain (objs v) i ch:=fun h hi=>h.move (fun i=>i ≠ o.1) hh hS hi
 obtain ⟨rt,hrt,ert⟩:=hW.root
 have hor:o.1 ≠ w.2.2.1:=fun e=>hno rt hrt (ert.trans e.symm)
 exact {
  time:=by rw [hhd.1]; exact hW.time
  few:=by have:=putL_len (objs w) o; have:=putL_len (putL (objs w) o) (sett6_5_1 c (insL (lnk c) o.1)); rw [o2]; omega
  ids:=hr
  snd:=fun x hx=>by
   rcases (hm x).1 hx with rfl | ⟨rfl | ⟨h,_⟩,_⟩
   ·exact con_snd hs h2 hlc h64 ho.id
   ·exact ho
   ·exact hW.snd x h
  has:=fun x hx y hy=>by
   have old:∀ z ∈ objs w,z.2.2.1=x.2.2.1 → y ∈ lnk z → ∃ u ∈ objs v,u.1=y ∧ placeB x.2.2.1 u.2.2.1=true:=fun z hz el hyz=>by
    obtain ⟨u,hu,e1,e2⟩:=hW.has z hz y hyz
    obtain ⟨u',hu',q⟩:=hin u hu
    exact ⟨u',hu',by rw [q.id,e1],by rw [q.lab,← el]; exact e2⟩
   rcases (hm x).1 hx with rfl | ⟨rfl | ⟨h,_⟩,_⟩
   ·rcases mem_insL.1 hy with rfl | h
    ·exact ⟨o,hov,rfl,hpl⟩
    ·exact old c hcm rfl h
   ·rw [hlo] at hy; cases hy
   ·exact old x h rfl hy
  use:=fun x hx hk2=>by
   rcases (hm x).1 hx with rfl | ⟨rfl | ⟨h,_⟩,_⟩
   ·show pages c + tot ((insL (lnk c) o.1).map _) ≤ quo c
    rw [tot_ins,quoF_in hr hov,htot c hcm]
    unfold useS at hroom'
    omega
   ·unfold useS
    rw [hlo]
    have hd:dat x=[]:=ho.alone.dat (by omega)
    have hq:=ho.quo
    unfold pages
    rw [hd]
    simp [tot]
    omega
   ·unfold useS
    rw [htot x h]
    exact hW.use x h hk2
  root:=by
   obtain ⟨r',hr',q⟩:=hin rt hrt
   exact ⟨r',hr',by rw [q.id,hhd.2.2,ert]⟩
  plc:=fun x hx=>by
   rw [hhd.2.2]
   have key:∀ y ∈ objs w,y.1=x.1 → y.2.1=x.2.1 → y.2.2.2.2.1=x.2.2.2.2.1 → quo y=quo x → PlP (objs v) w.2.2.1 x:=by
    intro y hy a1 a2 a3 a4
    have hp:=hW.plc y hy
    have hne:=hno y hy
    have hx1:x.1 ≠ o.1:=by rw [← a1]; exact hne
    refine ⟨fun e=>?_,fun e=>?_,fun e hlen=>?_,fun e hk2=>?_⟩
    ·obtain ⟨b1,b2,b3⟩:=hp.top (by rw [a1]; exact e)
     exact ⟨by rw [hh _ hx1,← a1]; exact b1,by rw [← a2]; exact b2,by rw [← a4]; exact b3⟩
    ·rw [hh _ hx1,← a1]; exact hp.held (by rw [a1]; exact e)
    ·rw [hh _ hx1,← a1] at hlen
     obtain ⟨b1,b2,b3⟩:=hp.one (by rw [a1]; exact e) hlen
     exact ⟨by rw [← a3]; exact b1,by rw [← a2]; exact b2,by rw [← a2]; exact b3⟩
    ·obtain ⟨ch,hc,hlast⟩:=hp.up (by rw [a1]; exact e) (by rw [a2]; exact hk2)
     exact ⟨ch,by rw [← a1]; exact hchain hc hne,hlast⟩
   rcases (hm x).1 hx with rfl | ⟨rfl | ⟨h,_⟩,_⟩
   ·exact key c hcm rfl rfl rfl rfl
   ·refine ⟨fun e=>absurd e hor,fun _=>by rw [hho]; simp,fun _ hlen=>by rw [hho] at hlen; simp at hlen,fun _ _=>?_⟩
    by_cases ecr:c.1=w.2.2.1
    ·exact ⟨[c.1],.cons hho (hchain (.nil ((hW.plc c hcm).top ecr).1) (fun e=>hoc e.symm)),by rw [ecr]; rfl⟩
    ·obtain ⟨ch,hc,hlast⟩:=(hW.plc c hcm).up ecr h2
     refine ⟨c.1 :: ch,.cons hho (hchain hc (fun e=>hoc e.symm)),?_⟩
     cases ch with
     | nil=>cases hlast
     | cons a ch=>rw [List.getLast?_cons_cons]; exact hlast
   ·exact key x h rfl rfl rfl rfl
  spn:=by
   intro t' ht' hk4 x' hx'
   rw [hhd.2.1]
   rcases hout t' ht' with rfl | ⟨t,ht,q⟩
   ·rcases hout x' hx' with rfl | ⟨x,hx,p⟩
    ·exact ⟨hown.self hk4,fun _ h=>absurd rfl h⟩
    ·rw [p.id,p.spn,p.kind]
     exact ⟨hown.them x hx hk4,fun k _=>F123_comm _ _ (hown.apart x hx k hk4)⟩
   ·have kt:t.2.1=4:=by rw [← q.kind]; exact hk4
    rw [q.spn,q.id]
    rcases hout x' hx' with rfl | ⟨x,hx,p⟩
    ·exact ⟨hown.name t ht kt,fun k _=>hown.apart t ht kt k⟩
    ·obtain ⟨s1,s2⟩:=hW.spn t ht kt x hx
     rw [p.spn,p.id,p.kind]
     exact ⟨s1,s2⟩ }
end Go.Fn
namespace Go.Fn
set_option linter.unusedVariables false
open Go Go.Ab Go.Tx
theorem spn_nn {o:D6} (h:wfT t6 o) : 0 ≤ (spn o).1:=by
 obtain ⟨_,_,_,_,_,_,_,_,h5,_⟩:=h
 obtain ⟨_,_,_,_,_,_,_,_,_,c,_⟩:=h5
 have h1:inR .u64 (spn o).1=true:=c.1
 simp [inR] at h1
 omega
theorem few_put {w:D7} (hF:Few w) (hl:(objs w).length ≤ 50) {o:D6} (h1:(lnk o).length ≤ 1000) (h2:(dat o).length ≤ 1000000) (h3:OkO o) (h4:0 ≤ (spn o).1) : Few (putW w o):=by
 have hm:∀ x ∈ objs (putW w o),x=o ∨ x ∈ objs w:=fun x hx=>by
  unfold putW at hx
  split at hx
  ·rcases mem_putL.1 hx with h | ⟨h,_⟩
   ·exact .inl h
   ·exact .inr h
  ·exact .inr hx
 refine ⟨by have:=putW_len w o; omega,fun x hx=>?_,fun x hx=>?_,fun x hx=>?_,fun x hx=>?_⟩
 ·rcases hm x hx with rfl | h
  ·exact h1
  ·exact hF.lns x h
 ·rcases hm x hx with rfl | h
  ·exact h2
  ·exact hF.dat x h
 ·rcases hm x hx with rfl | h
  ·exact h3
  ·exact hF.ok x h
 ·rcases hm x hx with rfl | h
  ·exact h4
  ·exact hF.spn x h
theorem few_zero:(lnk (Ty.zero t6:D6)).length ≤ 1000 ∧ (dat (Ty.zero t6:D6)).length ≤ 1000000 ∧ OkO (Ty.zero t6) ∧ 0 ≤ (spn (Ty.zero t6:D6)).1:=⟨by decide,by decide,okO_zero,by decide⟩
theorem few_find {w:D7} (hF:Few w) (id:Int) : (lnk (findO (objs w) id).1).length ≤ 1000 ∧ (dat (findO (objs w) id).1).length ≤ 1000000 ∧ OkO (findO (objs w) id).1 ∧ 0 ≤ (spn (findO (objs w) id).1).1 :=
 findO_all (Q:=fun o=>(lnk o).length ≤ 1000 ∧ (dat o).length ≤ 1000000 ∧ OkO o ∧ 0 ≤ (spn o).1) (fun o ho=>⟨hF.lns o ho,hF.dat o ho,hF.ok o ho,hF.spn o ho⟩) few_zero id
theorem few_laid {l:List D6} {d o:D6} (h:(lnk d).length ≤ 1000 ∧ (dat d).length ≤ 1000000 ∧ OkO d ∧ 0 ≤ (spn d).1) : (lnk (laidF l d o).1).length ≤ 1000 ∧ (dat (laidF l d o).1).length ≤ 1000000 ∧ OkO (laidF l d o).1 ∧ 0 ≤ (spn (laidF l d o).1).1:=by
 refine ⟨?_,?_,laid_okO h.2.2.1 h.1,?_⟩
 ·unfold laidF
  split
  ·exact h.1
  split
  ·exact h.1
  split
  ·exact h.1
  ·rename_i h64 _
   have:=insL_len (lnk d) o.1
   show (insL (lnk d) o.1).length ≤ 1000
   omega
 ·unfold laidF
  split
  ·exact h.2.1
  split
  ·exact h.2.1
  split
  ·exact h.2.1
  ·exact h.2.1
 ·unfold laidF
  split
  ·exact h.2.2.2
  split
  ·exact h.2.2.2
  split
  ·exact h.2.2.2
  ·exact h.2.2.2
theorem whole_true {v:D7} (hF:Few v) (h:WP v) : F33 v=some true:=by
 obtain ⟨b,hb,q⟩:=F33_iff hF
 rw [hb]
 exact congrArg some (q.2 ((wp_iff hF).2 h))
theorem F10_true (w:D7) (o:D6) (d id n:Int) (hw:wfT t7 w) (ho:wfT t6 o) : F10 w o d id n=some true:=by
 obtain ⟨_,hok⟩:=ok_of hw
 have hspn:∀ x ∈ objs w,0 ≤ (spn x).1:=by
  obtain ⟨_,_,_,h,_⟩:=hw
  exact fun x hx=>spn_nn (h.2 x hx)
 refine Def.eq ?_
 unfold F10
 refine Def.bind' (F30_def w) (fun v5 q5=>?_)
 refine Def.bindI (fun b=>b=true ↔ WholeP w) (fun hc=>?_) (fun v6 q6 n6=>?_)
 ·obtain ⟨hn,hf⟩:=q5 (by simpa using hc)
  exact F33_iff ⟨by omega,fun o ho=>by have:=(hf o ho).2.1; simp only [lnk]; omega,fun o ho=>by have:=(hf o ho).2.2.1; simp only [dat]; omega,hok,hspn⟩
 refine Def.bindI _ (fun hc=>F34_iff o (okO_of ho)) (fun v7 q7 n7=>?_)
 refine Def.ite (fun _=>Def.bind (Def.of awake14 (.ret rfl))) (fun hc=>?_)
 simp at hc
 obtain ⟨⟨⟨rfl,rfl⟩,rfl⟩,hl0⟩:=hc
 obtain ⟨hn,hf⟩:=q5 rfl
 have hF:Few w:=⟨by omega,fun o ho=>by have:=(hf o ho).2.1; simp only [lnk]; omega,fun o ho=>by have:=(hf o ho).2.2.1; simp only [dat]; omega,hok,hspn⟩
 have hWh:=(q6 (by simp)).1 rfl
 have hW:=(wp_iff hF).1 hWh
 have hO:=(q7 (by simp)).1 rfl
 have hl:(objs w).length ≤ 50:=by omega
 have hN:=fit_nice hF hWh.fit
 have hD:=fit_niceD hF hWh.fit
 have hs:∀ x ∈ objs w,NiceO x:=fun x hx=>(hD x hx).toNiceO
 have hfw:=hN.few
 have hod:(dat o).length ≤ 1000000:=by
  by_cases e:o.2.1=1
  ·have:=hO.inner.seg e; have:=hO.quo; omega
  ·rw [hO.alone.dat e]; simp
 have hol:(lnk o).length ≤ 1000:=by simp only [lnk]; rw [hl0]; simp
 have hoO:NiceO o:=⟨hol,by simp only [lnk]; rw [hl0]; exact List.Pairwise.nil,hod,by have:=hO.lab.len; omega,hO.lab.fit⟩
 have sw:F26 w w=some true:=F26_refl w (by unfold big; omega) hok
 have tw:F33 w=some true:=whole_true hF hW
 rw [F51_eq w d o hN hs hoO,Option.bind_some,F43_eq w o.1 hfw,Option.bind_some]
 have hatt:(attachF w d o).2=0 → (findO (objs w) o.1).2=false ∧ (OwnP w o → F33 (attachF w d o).1=some true):=by
  intro h0
  refine ⟨?_,fun hown=>?_⟩
  ·cases h:(findO (objs w) o.1).2 with
   | false=>rfl
   | true =>
    exfalso
    unfold attachF at h0
    split at h0
    ·cases h0
    split at h0
    ·cases h0
    cases h0
  ·have hwp:=attach_whole (v:=(attachF w d o).1) hW hl hF hO hown (by rw [← h0])
   refine whole_true ?_ hwp
   unfold attachF
   split
   ·exact hF
   split
   ·exact hF
   split
   ·exact hF
   split
   ·exact hF
   ·have f1:=few_put hF hl hol hod (okO_of ho) (spn_nn ho)
    obtain ⟨a1,a2,a3,a4⟩:=few_laid (l:=objs w) (o:=o) (few_find hF d)
    exact few_put f1 (by have:=putW_len w o; omega) a1 a2 a3 a4
 have herr:(attachF w d o).2 ≠ 0 → (attachF w d o).1=w:=by
  unfold attachF
  intro h
  split at h
  ·rw [if_pos (by assumption)]
  split at h
  ·rw [if_neg (by assumption),if_pos (by assumption)]
  split at h
  ·rw [if_neg (by assumption),if_neg (by assumption),if_pos (by assumption)]
  split at h
  ·rw [if_neg (by assumption),if_neg (by assumption),if_neg (by assumption),if_pos (by assumption)]
  ·exact absurd rfl h
 refine Def.bindI (fun b=>b=true → OwnP w o) (fun _=>F60_def w o hfw) (fun v10 q10 n10=>?_)
 refine Def.bindI (fun b=>b=true) (fun hc=>?_) (fun v11 q11 n11=>?_)
 ·simp at hc
  obtain ⟨c1,c2,c3⟩:=hc
  have hown:=q10 (by simp [c1,c2]) c3
  exact Def.of ((hatt c1).2 hown) rfl
 refine Def.bindI (fun b=>b=true) (fun hc=>?_) (fun v12 q12 n12=>?_)
 ·simp only [Bool.and_eq_true,bne_iff_ne,ne_eq,Bool.and_true] at hc
  rw [herr hc.2]
  exact Def.of sw rfl
 simp only [letV_eq]
 refine Def.ite (fun hc=>?_) (fun _=>?_)
 ·exfalso
  by_cases h0:(attachF w d o).2=0
  ·have hf9:=(hatt h0).1
   rw [h0,hf9] at q10 q11 hc
   cases v10 with
   | false=>simp at hc
   | true =>
    have:=q11 (by simp)
    subst this
    simp at hc
  ·have hb:((attachF w d o).2 == 0)=false:=by simpa using h0
   have hb' : ((attachF w d o).2 != 0)=true:=by simpa using h0
   rw [hb,hb'] at q12 hc
   have:=q12 (by simp)
   subst this
   simp at hc
 rw [F53_eq w d id hN hs,Option.bind_some,F57_eq w id hN,Option.bind_some,F54_eq w d id n hN hs,Option.bind_some]
 have hlk:((linkF w d id).2=0 → WP (linkF w d id).1 ∧ (holders (objs (linkF w d id).1) id).length=(holders (objs w) id).length + 1) ∧ ((linkF w d id).2 ≠ 0 → (linkF w d id).1=w) ∧ Few (linkF w d id).1:=by
  refine ⟨fun h0=>link_whole hW hl hF (by rw [← h0]),fun h=>?_,?_⟩
  ·unfold linkF at h ⊢
   split at h
   ·rw [if_pos (by assumption)]
   split at h
   ·rw [if_neg (by assumption),if_pos (by assumption)]
   split at h
   ·rw [if_neg (by assumption),if_neg (by assumption),if_pos (by assumption)]
   split at h
   ·rw [if_neg (by assumption),if_neg (by assumption),if_neg (by assumption),if_pos (by assumption)]
   split at h
   ·rw [if_neg (by assumption),if_neg (by assumption),if_neg (by assumption),if_neg (by assumption),if_pos (by assumption)]
   ·exact absurd rfl h
  ·unfold linkF
   split
   ·exact hF
   split
   ·exact hF
   split
   ·exact hF
   split
   ·exact hF
   split
   ·exact hF
   ·obtain ⟨a1,a2,a3,a4⟩:=few_laid (l:=objs w) (o:=(findO (objs w) id).1) (few_find hF d)
    exact few_put hF hl a1 a2 a3 a4
 have hfx:((fixF w id).2=0 → WP (fixF w id).1) ∧ ((fixF w id).2 ≠ 0 → (fixF w id).1=w) ∧ Few (fixF w id).1:=by
  refine ⟨fun h0=>fix_whole hW hl (by rw [← h0]),fun h=>?_,?_⟩
  ·unfold fixF at h ⊢
   split at h
   ·rw [if_pos (by assumption)]
   split at h
   ·rw [if_neg (by assumption),if_pos (by assumption)]
   ·exact absurd rfl h
  ·unfold fixF
   split
   ·exact hF
   split
   ·exact hF
   ·obtain ⟨a1,a2,a3,a4⟩:=few_find hF id
    exact few_put hF hl (o:=sett6_4_1 (findO (objs w) id).1 true) a1 a2 (okO_fix a3) a4
 have hmv:((moveF w d id n).2=0 → WP (moveF w d id n).1 ∧ moveF (moveF w d id n).1 d id (-n)=(w,0) ∧ -4096 ≤ n ∧ n ≤ 4096) ∧ ((moveF w d id n).2 ≠ 0 → (moveF w d id n).1=w) ∧ Few (moveF w d id n).1:=by
  refine ⟨fun h0=>?_,fun h=>?_,?_⟩
  ·obtain ⟨m1,m2,_⟩:=move_whole (v:=(moveF w d id n).1) hW hl hF (by rw [← h0])
   refine ⟨m1,m2,?_⟩
   unfold moveF at h0
   split at h0
   ·cases h0
   split at h0
   ·cases h0
   split at h0
   ·cases h0
   ·rename_i h3
    omega
  ·unfold moveF at h ⊢
   split at h
   ·rw [if_pos (by assumption)]
   split at h
   ·rw [if_neg (by assumption),if_pos (by assumption)]
   split at h
   ·rw [if_neg (by assumption),if_neg (by assumption),if_pos (by assumption)]
   split at h
   ·rw [if_neg (by assumption),if_neg (by assumption),if_neg (by assumption),if_pos (by assumption)]
   ·exact absurd rfl h
  ·unfold moveF
   split
   ·exact hF
   split
   ·exact hF
   split
   ·exact hF
   split
   ·exact hF
   ·obtain ⟨a1,a2,a3,a4⟩:=few_find hF id
    exact few_put hF hl (o:=sett6_3_1 (findO (objs w) id).1 _) a1 a2 (okO_quo a3) a4
 obtain ⟨l1,l2,l3⟩:=hlk
 obtain ⟨x1,x2,x3⟩:=hfx
 obtain ⟨m1,m2,m3⟩:=hmv
 have wl:WP (linkF w d id).1:=by
  by_cases h:(linkF w d id).2=0
  ·exact (l1 h).1
  ·rw [l2 h]; exact hW
 have wx:WP (fixF w id).1:=by
  by_cases h:(fixF w id).2=0
  ·exact x1 h
  ·rw [x2 h]; exact hW
 have wm:WP (moveF w d id n).1:=by
  by_cases h:(moveF w d id n).2=0
  ·exact (m1 h).1
  ·rw [m2 h]; exact hW
 have nl:=fit_nice l3 ((wp_iff l3).2 wl).fit
 have nm:=fit_nice m3 ((wp_iff m3).2 wm).fit
 have dm:=fit_niceD m3 ((wp_iff m3).2 wm).fit
 refine Def.bindI (fun b=>b=true) (fun hc=>?_) (fun v17 q17 _=>?_)
 ·rw [l2 (by simpa using hc)]
  exact Def.of sw rfl
 refine Def.bindI (fun b=>b=true) (fun hc=>?_) (fun v18 q18 _=>?_)
 ·simp only [Bool.and_eq_true,bne_iff_ne,ne_eq,Bool.and_true] at hc
  rw [x2 hc.2]
  exact Def.of sw rfl
 refine Def.bindI (fun b=>b=true) (fun hc=>?_) (fun v19 q19 _=>?_)
 ·simp only [Bool.and_eq_true,bne_iff_ne,ne_eq,Bool.and_true] at hc
  rw [m2 hc.2]
  exact Def.of sw rfl
 have z17:(if ((linkF w d id).2 != (0:Int))=true then (!v17) else false)=false:=by
  by_cases h:(linkF w d id).2=0
  ·simp [h]
  ·rw [q17 (by simpa using h)]; simp
 rw [z17] at q18 q19 ⊢
 have z18:(if ((fixF w id).2 != (0:Int))=true then (!v18) else false)=false:=by
  by_cases h:(fixF w id).2=0
  ·simp [h]
  ·rw [q18 (by simpa using h)]; simp
 rw [z18] at q19 ⊢
 have z19:(if ((moveF w d id n).2 != (0:Int))=true then (!v19) else false)=false:=by
  by_cases h:(moveF w d id n).2=0
  ·simp [h]
  ·rw [q19 (by simpa using h)]; simp
 rw [z19]
 simp only [Bool.false_eq_true,if_false,whole_true l3 wl,whole_true x3 wx,whole_true m3 wm,Option.bind_some,Bool.not_true,Bool.not_false,Bool.and_self,if_true]
 rw [F39_eq _ id nl,F39_eq w id hN]
 have hhl:=holders_len (objs w) id
 refine Def.bindI (fun b=>b=holders (objs (linkF w d id).1) id) (fun _=>.ret rfl) (fun v24 q24 _=>?_)
 refine Def.bindI (fun b=>b=holders (objs w) id) (fun _=>.ret rfl) (fun v25 q25 _=>?_)
 refine Def.ite (fun hc=>?_) (fun _=>?_)
 ·exfalso
  by_cases h:(linkF w d id).2=0
  ·rw [q24 (by simp [h]),q25 (by simp [h]),(l1 h).2] at hc
   rw [wrap_i64 (by omega) (by omega)] at hc
   simp [h] at hc
  ·have hb:((linkF w d id).2 == 0)=false:=by simpa using h
   rw [hb] at hc
   simp at hc
 rw [F54_eq _ d id _ nm (fun x hx=>(dm x hx).toNiceO),Option.bind_some]
 by_cases h:(moveF w d id n).2=0
 ·obtain ⟨_,b2,b3,b4⟩:=m1 h
  have hwn:IntKind.wrap .i64 (0 - n) = -n:=by rw [wrap_i64 (by omega) (by omega)]; omega
  rw [hwn,b2,h]
  simp only [sw,awake14,bne_self_eq_false,beq_self_eq_true,Bool.not_false,Bool.and_self,if_true,if_false,Bool.false_eq_true,Option.bind_some]
  exact .ret rfl
 ·have hb:((moveF w d id n).2 != 0)=true:=by simpa using h
  rw [hb]
  simp only [awake14,Bool.not_true,Bool.false_and,Bool.and_self,if_true,if_false,Bool.false_eq_true,Option.bind_some]
  exact .ret rfl
end Go.Fn
namespace Go.Fn
set_option maxRecDepth 100000
open Go Go.Ab Go.Tx
theorem law10 {st:TupD [t7,t6,(.int .u64),(.int .u64),(.int .i64)]} (h:EnvWf (toVs [t7,t6,(.int .u64),(.int .u64),(.int .i64)] st) → F10 st.1 st.2.1 st.2.2.1 st.2.2.2.1 st.2.2.2.2=some true) : PureOK Go.Proofs.Tryz.prog 10 ((toVs [t7,t6,(.int .u64),(.int .u64),(.int .i64)] st).map Val.d) [.b true] :=
 law_of L54 pm 10 [t7,t6,(.int .u64),(.int .u64),(.int .i64)] .bool (fun st=>F10 st.1 st.2.1 st.2.2.1 st.2.2.2.1 st.2.2.2.2) [(10,14,[.calm [0,1,2,3,4,5,6,7,8,9,10,11,12,13]])] [] [] spOK_nil (fun st=>by kernel_rfl) (by kernel_rfl) h
end Go.Fn
