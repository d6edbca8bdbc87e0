import Derived.Test.YtleeccmcgophfaaPL
import Derived.Test.YtleeccmcgophfaaPJ
import Derived.Sort.AssemblyPlain
import Derived.Sort.LotD5
set_option linter.all false
namespace Go.Fn
open Go Go.Ab Go.Tx
abbrev thr (o:D6):D4:=o.2.2.2.2.2.2.2.2.1
abbrev gat (o:D6):D5:=o.2.2.2.2.2.2.2.2.2.1
abbrev big:Nat:=9223372036854775807
structure OkO (o:D6):Prop where
 lab:o.2.2.1.length≤big
 lnk:(lnk o).length≤big
 dat:(dat o).length≤big
 mps:o.2.2.2.2.2.2.2.1.length≤big
 clr:(thr o).2.2.1.length≤big
 alr:(thr o).2.2.2.2.2.2.2.2.1.length≤big
 lbs:∀ i,((thr o).2.2.2.2.2.2.2.2.2.2.1 i).length≤big
 gra:(gat o).1.length≤big
 gcl:(gat o).2.1.length≤big
 inn:o.2.2.2.2.2.2.2.2.2.2.1.length≤big
 out:o.2.2.2.2.2.2.2.2.2.2.2.1.length≤big
structure Zh (l:List D0):Prop where
 rise:l.Pairwise (fun a b=>a.1<b.1)
 lev:∀ p∈l,0≤p.2.1∧p.2.1≤5∧p.2.1≠2
theorem W9 (l:List D0) (hl:l.length≤big):Def (F82 l) fun b=>b=true→Zh l:=by
 unfold F82
 simp only [aK,F97,Option.bind_some]
 refine Def.JF (l:=l) (fun pre=>Zh pre) hl ⟨List.Pairwise.nil,by simp⟩ (fun pre v post e hi=>?_) (fun hi=>.done (.ret fun _=>hi))
 refine Def.fO _ (fun _=>Def.at e) (fun v4 q4 _=>?_)
 refine Def.fO _ (fun hc=>Def.prev e hl (by simp at hc;omega)) (fun v5 q5 _=>?_)
 refine Def.fO _ (fun _=>Def.at e) (fun v6 q6 _=>?_)
 refine Def.ite (fun _=>.done (.ret (fun h=>by cases h))) (fun hc=>.turn ⟨rfl,?_⟩)
 simp at hc q4 q5 q6
 obtain ⟨⟨⟨h0,h5⟩,h2⟩,hp⟩:=hc
 have e4:=q4 h0 h5
 subst e4
 refine ⟨?_,?_⟩
 ·rw [List.pairwise_append]
  refine ⟨hi.rise,by simp,fun x hx y hy=>?_⟩
  simp only [List.mem_singleton] at hy;subst hy
  have hpos:0<pre.length:=List.length_pos_of_mem hx
  have hu:=q5 h0 h5 h2 hpos
  have hv:=q6 h0 h5 h2 hpos
  have hlt:=hp hpos
  rw [hv] at hlt
  have hr:=hi.rise
  obtain ⟨ys,rfl⟩:=List.getLast?_eq_some_iff.1 hu
  rw [List.pairwise_append] at hr
  rcases List.mem_append.1 hx with hx | hx
  ·have:=hr.2.2 x hx v5 (by simp);omega
  ·simp at hx;subst hx;omega
 ·intro p hp'
  rcases List.mem_append.1 hp' with hp' | hp'
  ·exact hi.lev p hp'
  ·simp at hp'; subst hp'; exact ⟨h0,h5,h2⟩
theorem yN (l:List D0) (hl:l.length≤big):Def (F59 l) fun b=>b=true→l.length≤16∧Zh l:=by
 unfold F59
 simp only [aK]
 refine Def.JF (l:=l) (fun _=>True) hl trivial (fun pre v post e _=>?_) (fun _=>?_)
 ·exact Def.ite (fun _=>.done (.ret (fun h=>by cases h))) (fun _=>.turn ⟨rfl,trivial⟩)
 ·refine Def.done (Def.fO _ (fun _=>W9 l hl) (fun b q _=>.ret (fun h=>?_)))
  by_cases h' : ((l.length:Nat):Int)≤16
  ·rw [if_pos (by simpa using h')] at h
   exact ⟨by omega,q (by simpa using h') h⟩
  ·rw [if_neg (by simpa using h')] at h;cases h
theorem Dl {α:Type} {a b:List α} {c:Int→α→α→Bool} (hl:b.length≤big):Def (if (((List.length a:Nat):Int) != ((List.length b:Nat):Int))=true then some false else
  aJ (σ:=Int) (ρ:=Bool) (fun s=>if (decide (s<((List.length a:Nat):Int)))=true then Option.bind (aB a s) fun v=>Option.bind (aB b s) fun u=>if c s v u=true then done (some false) else turn (IntKind.wrap .i64 (s+(1:Int))) else done (some true)) (0:Int))
  fun r=>r=true→(∀ s v u,c s v u=false→v=u)→a=b:=by
 refine Def.ite (fun _=>.ret (fun h=>by cases h)) (fun h=>?_)
 have hn:a.length=b.length:=by simp at h;exact_mod_cast h
 refine Def.JF (l:=a) (fun pre=>(∀ s v u,c s v u=false→v=u)→b.take pre.length=pre) (by rw [hn];exact hl) (by simp) (fun pre v post e hi=>?_) (fun hi=>?_)
 ·have hlt:pre.length<b.length:=by rw [← hn,e];simp
  refine Def.bind (Def.idx (by omega) (by exact_mod_cast hlt) (fun u hu _=>?_))
  refine Def.ite (fun _=>.done (.ret (fun h=>by cases h))) (fun hc=>.turn ⟨rfl,fun hh=>?_⟩)
  have hvu:=hh _ _ _ (by simpa using hc)
  simp only [Int.toNat_natCast] at hu
  rw [List.length_append,List.length_singleton,List.take_add_one,hi hh,hu,hvu];rfl
 ·refine .done (.ret (fun _ hh=>?_))
  have:=hi hh
  rw [hn,List.take_length] at this
  exact this.symm
theorem yO (a b:List D0) (hl:b.length≤big):Def (F30 a b) fun _=>True:=by
 unfold F30
 simp only [aK]
 exact (Dl (c:=fun _ v u=>!(eqK (.prod (.int .u64) (.prod (.int .i64) .unit)) v u)) hl).mono fun _ _=>trivial
theorem yP (a b:List Int) (hl:b.length≤big):Def (F31 a b) fun r=>r=true→a=b:=by
 unfold F31
 simp only [aK]
 refine (Dl (c:=fun _ v u=>v != u) hl).mono fun r h hr=>h hr fun _ v u h=>?_
 simpa using h
theorem Xa (a b:List D1) (hl:b.length≤big):Def (F32 a b) fun _=>True:=by
 unfold F32
 simp only [aK]
 exact (Dl (c:=fun _ v u=>!(eqK (.prod (.int .i64) (.prod (.int .i64) (.prod (.int .u64) (.prod (.int .u64) (.prod (.int .i64) (.prod .bool .unit)))))) v u)) hl).mono fun _ _=>trivial
theorem Ql {i:Int} {Q:Unit→Prop} (h0:0≤i) (h1:i<(4:Nat)) (h:Q ()):Def (vk (if (decide ((0:Int)≤i))=true then (decide (i<(4:Int))) else false)) Q :=
 have h4:i<4:=by omega
 Def.guard (by simp [h0,h4]) h
theorem Xb (a b:D4) (h1:b.2.2.1.length≤big) (h2:b.2.2.2.2.2.2.2.2.1.length≤big) (h3:∀ i,(b.2.2.2.2.2.2.2.2.2.2.1 i).length≤big):Def (F33 a b) fun _=>True:=by
 unfold F33
 simp only [aK,oP]
 refine Def.times (n:=4) (by omega) (fun i h0 h4=>?_) ?_
 ·refine Def.bind (Ql h0 h4 (Def.bind (Def.TG h0 h4 fun k=>Def.bind (Ql h0 h4 (Def.bind (Def.TG h0 h4 fun k'=>?_))))))
  refine Def.bind' (R:=fun _=>True) (yO _ _ (h3 _)) (fun _ _=>?_)
  exact Def.ite (fun _=>.done (.ret trivial)) (fun _=>.turn rfl)
 ·refine Def.done (Def.fO (fun _=>True) (fun _=>yO _ _ h1) (fun _ _ _=>?_))
  exact Def.fO (fun _=>True) (fun _=>(yP _ _ h2).mono fun _ _=>trivial) (fun _ _ _=>.ret trivial)
theorem Xc (a b:D5) (h1:b.1.length≤big) (h2:b.2.1.length≤big):Def (F34 a b) fun _=>True:=by
 unfold F34
 simp only [oP]
 refine Def.bind' (R:=fun _=>True) (yO _ _ h1) (fun _ _=>?_)
 exact Def.fO (fun _=>True) (fun _=>yO _ _ h2) (fun _ _ _=>.ret trivial)
theorem Xd (a b:D6) (h:OkO b):Def (F14 a b) fun r=>r=true→lnk a=lnk b∧dat a=dat b:=by
 unfold F14
 simp only [oP]
 refine Def.fO (fun _=>True) (fun _=>yO _ _ h.lab) (fun _ _ _=>?_)
 refine Def.ite (fun _=>.ret (fun h=>by cases h)) (fun _=>?_)
 refine Def.bind' (yP _ _ h.lnk) (fun v4 q4=>?_)
 refine Def.fO _ (fun _=>yP _ _ h.dat) (fun v5 q5 _=>?_)
 refine Def.fO (fun _=>True) (fun _=>Xa _ _ h.mps) (fun v6 _ _=>?_)
 refine Def.fO (fun _=>True) (fun _=>Xb _ _ h.clr h.alr h.lbs) (fun v7 _ _=>?_)
 refine Def.fO (fun _=>True) (fun _=>Xc _ _ h.gra h.gcl) (fun v8 _ _=>?_)
 refine Def.fO (fun _=>True) (fun _=>(yP _ _ h.inn).mono fun _ _=>trivial) (fun v9 _ _=>?_)
 refine Def.fO (fun _=>True) (fun _=>(yP _ _ h.out).mono fun _ _=>trivial) (fun v10 _ _=>.ret (fun hr=>?_))
 cases v4 with
 | false=>simp at hr
 | true =>
  cases v5 with
  | false=>simp at hr
  | true=>exact ⟨q4 rfl,q5 (by simp) rfl⟩
theorem Xe (o:D6) (h:OkO o):Def (F60 o) fun r=>r=true→(o.2.1≠2→lnk o=[])∧(o.2.1≠1→dat o=[]):=by
 have key:∀ x:D6,((o.2.1≠2→lnk x=[])∧(o.2.1≠1→dat x=[]))→Def (Option.bind (F14 x o) fun v2=>some v2) fun r=>r=true→(o.2.1≠2→lnk o=[])∧(o.2.1≠1→dat o=[]):=by
  intro x hx
  refine Def.bind' (Xd x o h) (fun v q=>.ret (fun hv=>?_))
  obtain ⟨e1,e2⟩:=q hv
  rw [← e1,← e2];exact hx
 unfold F60
 simp only [aK]
 refine Def.ite (fun hk=>?_) (fun hk=>Def.ite (fun hk2=>?_) (fun hk2=>Def.ite (fun hk3=>?_) (fun hk3=>Def.ite (fun hk4=>?_) (fun hk4=>Def.ite (fun hk5=>?_) (fun hk5=>Def.ite (fun hk6=>?_) (fun hk6=>?_))))))
 all_goals refine key _ ⟨fun hn=>?_,fun hn=>?_⟩
 all_goals first | rfl | (simp_all)
theorem Xf (l:List D0) (hl:l.length≤1000000):Def (F61 l) fun _=>True:=by
 unfold F61
 simp only [aK]
 refine Def.XI (l:=l) (fun pre a=>a.length≤pre.length) (by omega) (by simp) (fun pre v post a e hi=>?_) (fun a hi=>.done (.ret trivial))
 have hlt:pre.length<l.length:=by rw [e];simp
 refine Def.ite (fun h=>?_) (fun h=>.turn ⟨rfl,by simp;omega⟩)
 refine Def.bind' (R:=fun _=>True) ((Def.at e).mono fun _ _=>trivial) (fun u _=>Def.bind (.ret (Def.bind (Def.app (by simp only [List.length_cons,List.length_nil];omega) (.turn ⟨rfl,?_⟩)))))
 simp only [List.length_append,List.length_cons,List.length_nil];omega
theorem Xg (l:List Int) (hl:l.length≤big):Def (F62 l) fun b=>b=true→l.Pairwise (· < ·):=by
 unfold F62
 simp only [aK,F58,Option.bind_some]
 refine Def.JF (l:=l) (fun pre=>pre.Pairwise (· < ·)) hl List.Pairwise.nil (fun pre v post e hi=>?_) (fun hi=>.done (.ret fun _=>hi))
 refine Def.fO _ (fun hc=>Def.prev e hl (by simp at hc;omega)) (fun u hu _=>?_)
 refine Def.fO _ (fun hc=>Def.at e) (fun v' hv _=>?_)
 refine Def.ite (fun _=>.done (.ret (fun h=>by cases h))) (fun hc=>.turn ⟨rfl,?_⟩)
 rw [List.pairwise_append]
 refine ⟨hi,by simp,fun x hx y hy=>?_⟩
 simp only [List.mem_singleton] at hy;subst hy
 have h0:0<pre.length:=List.length_pos_of_mem hx
 simp [h0] at hc hu hv
 obtain ⟨hc1,hc2⟩:=hc
 have hu:=hu hc1.1 hc1.2
 have hv:=hv hc1.1 hc1.2
 obtain ⟨ys,rfl⟩:=List.getLast?_eq_some_iff.1 hu
 rw [List.pairwise_append] at hi
 rcases List.mem_append.1 hx with hx | hx
 ·have:=hi.2.2 x hx u (by simp);omega
 ·simp at hx;omega
theorem Xh (l:List D1):Def (F63 l) fun _=>True:=by
 unfold F63
 refine Def.ite (fun _=>.ret trivial) (fun hn=>?_)
 simp only [aK,oP,F83,Option.bind_some]
 have hl:l.length≤big:=by simp at hn;unfold big;omega
 refine Def.JF (l:=l) (fun _=>True) hl trivial (fun pre v post e _=>?_) (fun _=>.done (.ret trivial))
 refine Def.fO (fun _=>True) (fun hc=>(Def.prev e hl (by simp at hc;omega)).mono fun _ _=>trivial) (fun _ _ _=>?_)
 refine Def.fO (fun _=>True) (fun hc=>(Def.prev e hl (by simp at hc;omega)).mono fun _ _=>trivial) (fun _ _ _=>?_)
 refine Def.fO (fun _=>True) (fun _=>(Def.at e).mono fun _ _=>trivial) (fun _ _ _=>?_)
 exact Def.ite (fun _=>.done (.ret trivial)) (fun _=>.turn ⟨rfl,trivial⟩)
theorem Ii (l:List D0) (c:Int) (hl:l.length≤big):Def (F86 l c) fun _=>True:=by
 unfold F86
 simp only [aK]
 refine Def.JF (l:=l) (fun _=>True) hl trivial (fun pre v post e _=>?_) (fun _=>.done (.ret trivial))
 refine Def.ite (fun _=>Def.bind' (R:=fun _=>True) ((Def.at e).mono fun _ _=>trivial) (fun _ _=>.done (.ret trivial))) (fun _=>.turn ⟨rfl,trivial⟩)
theorem oQ (a:Int):Def (F98 a) fun _=>True:=by
 unfold F98
 exact Def.ite (fun _=>.ret trivial) (fun _=>.ret trivial)
theorem Qm (a b:Int):Def (F85 a b) fun _=>True:=by
 unfold F85
 exact Def.bind' (oQ _) (fun _ _=>Def.bind' (oQ _) (fun _ _=>.ret trivial))
theorem Ij (a b:List D0) (ha:a.length≤big) (hb:b.length≤big):Def (F65 a b) fun _=>True:=by
 unfold F65
 simp only [aK]
 refine Def.JF (l:=a) (fun _=>True) ha trivial (fun pre v post e _=>?_) (fun _=>.done ?_)
 ·refine Def.bind' (R:=fun _=>True) ((Def.at e).mono fun _ _=>trivial) (fun _ _=>Def.bind' (Ii _ _ hb) (fun _ _=>Def.bind' (Qm _ _) (fun _ _=>?_)))
  exact Def.ite (fun _=>.done (.ret trivial)) (fun _=>.turn ⟨rfl,trivial⟩)
 ·refine Def.JF (l:=b) (fun _=>True) hb trivial (fun pre v post e _=>?_) (fun _=>.done (.ret trivial))
  refine Def.bind' (Ii _ _ ha) (fun _ _=>Def.bind' (R:=fun _=>True) ((Def.at e).mono fun _ _=>trivial) (fun _ _=>Def.bind' (Qm _ _) (fun _ _=>?_)))
  exact Def.ite (fun _=>.done (.ret trivial)) (fun _=>.turn ⟨rfl,trivial⟩)
theorem Xi (l:List D0) (t:D4) (hl:l.length≤big) (h1:t.2.2.1.length≤big) (h3:∀ i,(t.2.2.2.2.2.2.2.2.2.2.1 i).length≤big):Def (F64 l t) fun _=>True:=by
 unfold F64
 simp only [aK,oP]
 refine Def.times (n:=4) (by omega) (fun i h0 h4=>?_) ?_
 ·refine Def.bind (Ql h0 h4 (Def.bind (Def.TG h0 h4 fun k=>Def.bind' (yN _ (h3 k)) (fun _ _=>?_))))
  exact Def.ite (fun _=>.done (.ret trivial)) (fun _=>.turn rfl)
 ·refine Def.done (Def.ite (fun _=>.ret trivial) (fun _=>Def.bind' (yN _ h1) (fun _ _=>?_)))
  refine Def.fO (fun _=>True) (fun _=>Ij _ _ hl h1) (fun _ _ _=>?_)
  exact Def.fO (fun _=>True) (fun _=>.ret trivial) (fun _ _ _=>.ret trivial)
structure Xj (o:D6):Prop where
 id:1≤o.1∧o.1≤2305843009213693952
 kind:1≤o.2.1∧o.2.1≤6
 lab:o.2.2.1.length≤16
 fit:Zh o.2.2.1
 quo:1≤quo o∧quo o≤4096
 own:o.2.1≠2→lnk o=[]
 dat:o.2.1≠1→dat o=[]
 seg:o.2.1=1→((Fn.dat o).length:Int)≤16 * (Fn.quo o - 1)
 lns:(Fn.lnk o).length≤64
 lnk:(Fn.lnk o).Pairwise (· < ·)
theorem Xk (o:D6) (h:OkO o):Def (F42 o) fun b=>b=true→Xj o:=by
 unfold F42
 simp only [F58,Option.bind_some,oP,aK]
 refine Def.fO _ (fun _=>yN _ h.lab) (fun v2 q2 _=>?_)
 refine Def.fO _ (fun _=>Xe o h) (fun v4 q4 _=>?_)
 refine Def.ite (fun _=>.ret (fun h=>by cases h)) (fun hc=>?_)
 simp at hc
 obtain ⟨⟨⟨⟨⟨⟨hid,hk1⟩,hk2⟩,hv2⟩,hq1⟩,hq2⟩,hv4⟩:=hc
 obtain ⟨hlab,hfit⟩:=q2 (by simp [hid,hk1,hk2]) hv2
 obtain ⟨ho,hd⟩:=q4 (by simp [hid,hk1,hk2,hv2,hq1,hq2]) hv4
 have mk:(o.2.1=1→((Fn.dat o).length:Int)≤16 * (Fn.quo o - 1))→(o.2.1=2→(Fn.lnk o).length≤64∧(Fn.lnk o).Pairwise (· < ·))→Xj o:=fun h1 h2=>{
  id:=hid,kind:=⟨hk1,hk2⟩,lab:=hlab,fit:=hfit,quo:=⟨hq1,hq2⟩,own:=ho,dat:=hd,seg:=h1
  lns:=by
   by_cases e:o.2.1=2
   ·exact (h2 e).1
   ·rw [ho e];simp
  lnk:=by
   by_cases e:o.2.1=2
   ·exact (h2 e).2
   ·rw [ho e];exact List.Pairwise.nil }
 refine Def.fO (fun _=>True) (fun _=>Xf _ (by omega)) (fun v5 _ _=>?_)
 refine Def.ite (fun _=>.ret (fun h=>by cases h)) (fun _=>?_)
 refine Def.ite (fun e1=>.ret (fun hb=>?_)) (fun e1=>?_)
 ·have e1:o.2.1=1:=by simpa using e1
  refine mk (fun _=>?_) (fun e=>by omega)
  have hq:quo o≤4096:=hq2
  have hq' : 1≤quo o:=hq1
  rw [wrap_i64 (x:=o.2.2.2.1 - 1) (by simp only [quo] at hq'; omega) (by simp only [quo] at hq;omega),wrap_i64 (by simp only [quo] at hq'; omega) (by simp only [quo] at hq;omega)] at hb
  simpa using hb
 have e1 : ¬ o.2.1=1:=by simpa using e1
 refine Def.ite (fun e2=>?_) (fun e2=>?_)
 ·refine Def.fO _ (fun _=>Xg _ h.lnk) (fun v6 q6 _=>.ret (fun hb=>?_))
  refine mk (fun e=>absurd e e1) (fun _=>?_)
  by_cases hn:((o.2.2.2.2.2.1.length:Nat):Int)≤64
  ·refine ⟨by simp only [Fn.lnk];omega,q6 (by simpa using hn) ?_⟩
   rw [if_pos (by simpa using hn)] at hb;exact hb
  ·rw [if_neg (by simpa using hn)] at hb;cases hb
 have e2 : ¬ o.2.1=2:=by simpa using e2
 have done:∀ b:Bool,b=true→Xj o:=fun _ _=>mk (fun e=>absurd e e1) (fun e=>absurd e e2)
 refine Def.ite (fun _=>Def.bind' (Xh _) (fun b _=>.ret (done _))) (fun _=>?_)
 refine Def.ite (fun _=>Def.bind' (Xi _ _ h.lab h.clr h.lbs) (fun b _=>.ret (done _))) (fun _=>?_)
 refine Def.ite (fun _=>?_) (fun _=>.ret (done _))
 refine Def.bind' (yN _ h.gra) (fun b _=>Def.fO (fun _=>True) (fun _=>(yN _ h.gcl).mono fun _ _=>trivial) (fun _ _ _=>?_))
 exact Def.fO (fun _=>True) (fun _=>Ij _ _ h.gra h.gcl) (fun _ _ _=>.ret (done _))
theorem Xl (w:D7) (hn:(objs w).length≤big) (h:∀ o∈objs w,OkO o):Def (F24 w) fun b=>b=true→(objs w).Pairwise (fun a b=>a.1<b.1)∧∀ o∈objs w,Xj o:=by
 unfold F24
 refine Def.ite (fun _=>.ret (fun h=>by cases h)) (fun _=>?_)
 simp only [aK]
 refine Def.JF (l:=objs w) (fun pre=>pre.Pairwise (fun a b=>a.1<b.1)∧∀ o∈pre,Xj o) hn ⟨List.Pairwise.nil,by simp⟩ (fun pre v post e hi=>?_) (fun hi=>.done (.ret fun _=>hi))
 obtain ⟨hi,hs⟩:=hi
 have hv:v∈objs w:=by rw [e];simp
 refine Def.bind' (Xk v (h v hv)) (fun v3 q3=>?_)
 refine Def.fO _ (fun hc=>Def.prev e hn (by simp at hc;omega)) (fun u hu _=>?_)
 refine Def.fO _ (fun hc=>Def.at e) (fun v' hv' _=>?_)
 refine Def.ite (fun _=>.done (.ret (fun h=>by cases h))) (fun hc=>.turn ⟨rfl,?_,?_⟩)
 ·rw [List.pairwise_append]
  refine ⟨hi,by simp,fun x hx y hy=>?_⟩
  simp only [List.mem_singleton] at hy;subst hy
  have h0:0<pre.length:=List.length_pos_of_mem hx
  simp [h0] at hc hu hv'
  have hu:=hu hc.1
  have hv:=hv' hc.1
  have hc2:=hc.2
  rw [hv] at hc2
  obtain ⟨ys,rfl⟩:=List.getLast?_eq_some_iff.1 hu
  rw [List.pairwise_append] at hi
  rcases List.mem_append.1 hx with hx | hx
  ·have:=hi.2.2 x hx u (by simp);omega
  ·simp at hx;subst hx;omega
 ·intro o ho
  rcases List.mem_append.1 ho with ho | ho
  ·exact hs o ho
  ·simp at ho;subst ho
   refine q3 ?_
   simp at hc;exact hc.1
end Go.Fn
namespace Go.Fn
open Go Go.Ab Go.Tx
theorem Xm (l:List D0) (hl:l.length≤1000):Def (F67 l) fun r=>r.length≤l.length:=by
 unfold F67
 simp only [aK]
 refine Def.XI (l:=l) (fun pre a=>a.length≤pre.length) (by omega) (by simp) (fun pre v post a e hi=>?_) (fun a hi=>.done (.ret hi))
 have hlt:pre.length<l.length:=by rw [e];simp
 refine Def.bind' (R:=fun _=>True) ((Def.at e).mono fun _ _=>trivial) (fun u _=>?_)
 have h271:∀ n,Def (F89 n) fun _=>True:=fun n=>by
  unfold F89
  exact Def.bind' (oQ _) (fun _ _=>Def.ite (fun _=>.ret trivial) (fun _=>Def.bind' (oQ _) (fun _ _=>.ret trivial)))
 refine Def.bind' (h271 _) (fun _ _=>Def.bind (.ret (Def.bind (Def.app (by simp only [List.length_cons,List.length_nil];omega) (.turn ⟨rfl,?_⟩)))))
 simp only [List.length_append,List.length_cons,List.length_nil];omega
theorem Xn (a b:Int):Def (F88 a b) fun _=>True:=by
 unfold F88
 refine Def.bind' (oQ _) (fun _ _=>Def.bind' (oQ _) (fun _ _=>?_))
 exact Def.ite (fun _=>Def.bind' (oQ _) (fun _ _=>.ret trivial)) (fun _=>Def.bind' (oQ _) (fun _ _=>.ret trivial))
theorem Xo (l:List D0) (c n:Int) (hl:l.length≤1000):Def (F87 l c n) fun r=>r.length≤l.length+1:=by
 unfold F87
 simp only [aK]
 refine Def.YA (l:=l) (fun s:List D0×Bool×Int=>s.2.2) (fun pre s=>s.1.length≤pre.length+(if s.2.1=true then 1 else 0)) (by omega) rfl (by simp) (fun pre v post s e hs hi=>?_) (fun s hs hi=>?_)
 ·have hlt:pre.length<l.length:=by rw [e];simp
  have hat:∀ Q:D0→Prop,Q v→Def (aB l s.2.2) Q:=fun Q h=>by rw [hs];exact (Def.at e).mono fun _ h'=>by rw [h'];exact h
  have step:∀ (a:List D0) (b:Bool),a.length≤pre.length+(if b=true then 1 else 0)→Def (Option.bind (aB l s.2.2) fun v9=>if (v9.1 != c)=true then Option.bind (aB l s.2.2) fun v10=>Option.bind (some [v10]) fun v11=>Option.bind (Fp 16 a v11) fun v12=>turn (v12,b,IntKind.wrap .i64 (s.2.2+1)) else turn (a,b,IntKind.wrap .i64 (s.2.2+1))) (fun r:(List D0×Bool×Int) ⊕ List D0=>match r with | .inl s'=>s'.2.2=IntKind.wrap .i64 ((pre.length:Int)+1)∧s'.1.length≤(pre++[v]).length+(if s'.2.1=true then 1 else 0) | .inr r=>r.length≤l.length+1):=by
   intro a b ha
   have hb1:(if b=true then 1 else 0)≤1:=by split <;> omega
   refine Def.bind (hat _ (Def.ite (fun _=>Def.bind (hat _ (Def.bind (.ret (Def.bind (Def.app (by simp only [List.length_cons,List.length_nil];omega) (.turn ⟨by rw [hs],?_⟩)))))) ) (fun _=>.turn ⟨by rw [hs],?_⟩)))
   ·simp only [List.length_append,List.length_cons,List.length_nil];omega
   ·simp only [List.length_append,List.length_cons,List.length_nil];omega
  refine Def.fO (fun _=>True) (fun _=>hat _ trivial) (fun v6 _ _=>?_)
  refine Def.ite (fun hc=>?_) (fun hc=>(step _ _ hi).mono fun r hr=>by cases r <;> exact hr)
  have hf:s.2.1=false:=by
   cases hq:s.2.1 with
   | false=>rfl
   | true=>rw [hq] at hc;simp at hc
  rw [hf] at hi
  refine Def.bind (.ret (Def.bind (Def.app (by simp only [List.length_cons,List.length_nil];simp at hi;omega) ((step _ _ ?_).mono fun r hr=>by cases r <;> exact hr))))
  simp only [List.length_append,List.length_cons,List.length_nil]
  simp at hi ⊢; omega
 ·refine .done (Def.ite (fun hc=>?_) (fun hc=>.ret ?_))
  ·have hf:s.2.1=false:=by simpa using hc
   rw [hf] at hi
   simp at hi
   refine Def.bind (.ret (Def.bind (Def.app (by simp only [List.length_cons,List.length_nil];omega) (.ret ?_))))
   simp only [List.length_append,List.length_cons,List.length_nil];omega
  ·have hb1:(if s.2.1=true then 1 else 0)≤1:=by split <;> omega
   omega
theorem Xp (a:List D0) (ha:a.length≤100):Def (F66 a []) fun r=>r.length≤2 * a.length:=by
 unfold F66
 simp only [aK]
 refine Def.XI (l:=a) (fun pre s=>s.length≤a.length+pre.length) (by omega) (by simp) (fun pre v post s e hi=>?_) (fun s hi=>.done ?_)
 ·have hlt:pre.length<a.length:=by rw [e];simp
  refine Def.bind' (R:=fun _=>True) ((Def.at e).mono fun _ _=>trivial) (fun _ _=>Def.bind' (R:=fun _=>True) ((Def.at e).mono fun _ _=>trivial) (fun _ _=>?_))
  refine Def.bind' (Ii _ _ (by simp)) (fun _ _=>Def.bind' (Xn _ _) (fun _ _=>Def.bind' (Xo _ _ _ (by simp only;omega)) (fun r hr=>.turn ⟨rfl,?_⟩)))
  simp only [List.length_append,List.length_cons,List.length_nil] at hr ⊢; omega
 ·refine Def.XI (l:=([]:List D0)) (fun pre x=>x.length≤2 * a.length) (by simp) (by simp only;omega) (fun pre v post s e hi=>by cases pre <;> cases e) (fun s hi=>.done (.ret hi))
theorem Xq (d o:List D0) (hd:d.length≤100) (ho:o.length≤100):Def (F43 d o) fun _=>True:=by
 unfold F43
 refine Def.bind' (Xm _ (by omega)) (fun r hr=>Def.bind' (Xp _ (by omega)) (fun r' hr'=>Def.bind' (Ij _ _ (by unfold big;omega) (by unfold big;omega)) (fun _ _=>.ret trivial)))
theorem qj {l:List D6} {id:Int} (h:(dK l id).2=true):(dK l id).1∈l∧(dK l id).1.1=id:=by
 unfold dK at h ⊢
 cases hf:l.find? (fun o=>o.1==id) with
 | none=>rw [hf] at h;cases h
 | some o =>
  have:=List.find?_some hf
  exact ⟨List.mem_of_find?_eq_some hf,by simpa using this⟩
theorem Xr (w:D7) (d:D6) (hn:(objs w).length≤1000) (hs:∀ o∈objs w,o.2.2.1.length≤16) (hd:d.2.2.1.length≤16) (hk:(lnk d).length≤1000) (hdat:(dat d).length≤1000000):Def (F25 w d) fun b=>b=true→(∀ x∈lnk d,∃ y∈objs w,y.1=x)∧(d.2.1=2→Ih (objs w) (pages d) (lnk d)≤quo d):=by
 unfold F25
 simp only [aK]
 refine Def.JF (l:=lnk d) (fun pre=>∀ x∈pre,∃ y∈objs w,y.1=x) (by omega) (by simp) (fun pre v post e hi=>?_) (fun hi=>.done ?_)
 ·refine Def.bind (Def.of (AU w v hn) ?_)
  refine Def.fO (fun _=>True) (fun hc=>Xq _ _ (by omega) ?_) (fun v5 _ _=>?_)
  ·have:=hs _ (qj (by simpa using hc)).1;omega
  ·refine Def.ite (fun _=>.done (.ret (fun h=>by cases h))) (fun hc=>.turn ⟨rfl,fun x hx=>?_⟩)
   rcases List.mem_append.1 hx with hx | hx
   ·exact hi x hx
   ·simp only [List.mem_singleton] at hx
    subst hx
    simp at hc
    exact ⟨_,qj hc.1⟩
 ·refine Def.fO (fun v=>v=Ih (objs w) (pages d) (lnk d)) (fun _=>Def.of (YG w d hn hdat hk) rfl) (fun v2 q2 _=>.ret (fun hb=>⟨hi,fun e=>?_⟩))
  have q:=q2 (by simp [e])
  simp [e] at hb
  rw [← q];exact hb
theorem Qn (a b c:Int):Def (F90 a b c) fun _=>True:=by
 unfold F90 F99
 refine Def.bind' (R:=fun _=>True) (Def.bind (Def.shr (by decide) fun _=>Def.bind (Def.shr (by decide) fun _=>Def.bind (Def.shr (by decide) fun _=>.ret trivial)))) (fun _ _=>Def.bind (Def.shr (by decide) fun _=>.ret trivial))
theorem Xt (a b:Int):Def (F69 a b) fun _=>True:=by
 unfold F69
 simp only [aK]
 refine Def.bind (Def.shr (by decide) fun v2=>?_)
 refine Def.loop (fun s:Int×Int×Int=>0≤s.2.2∧s.2.2≤8) (fun s=>8 - s.2.2.toNat) ⟨by simp,by simp⟩ (fun s hi=>?_)
 obtain ⟨h1,h2⟩:=hi
 refine Def.ite (fun hc=>?_) (fun hc=>.done (Def.bind (Def.shl (by decide) fun _=>.ret trivial)))
 have hc:s.2.2<8:=by simpa using hc
 have hw:IntKind.wrap .u64 (s.2.2+1)=s.2.2+1:=wrap_in (by simp [inR];omega)
 refine Def.bind (Def.rem (by decide) fun v6=>Def.ite (fun _=>?_) (fun _=>?_))
 ·refine Def.bind' (Qn _ _ _) (fun _ _=>.turn ?_)
  simp only [hw]
  exact ⟨⟨by omega,by omega⟩,by omega⟩
 ·refine Def.bind' (Qn _ _ _) (fun _ _=>.turn ?_)
  simp only [hw]
  exact ⟨⟨by omega,by omega⟩,by omega⟩
theorem Xu (a:Int) (s:D2) (b:Int):Def (F45 a s b) fun _=>True:=by
 unfold F45
 exact Def.bind' (Xt _ _) (fun _ _=>.ret trivial)
theorem Xv (w:D7) (hn:(objs w).length≤1000):Def (F27 w) fun _=>True:=by
 unfold F27
 simp only [aK]
 refine Def.JF (l:=objs w) (fun _=>True) (by omega) trivial (fun pre v post e _=>?_) (fun _=>.done (.ret trivial))
 refine Def.loop (fun i:Int=>0≤i∧i≤(objs w).length) (fun i:Int=>(objs w).length - i.toNat) ⟨by simp,by omega⟩ (fun i hi=>?_)
 refine Def.ite (fun hc=>?_) (fun hc=>.done (.turn ⟨rfl,trivial⟩))
 have hlt:i<(objs w).length:=by
  by_cases h:i<(objs w).length
  ·exact h
  ·exfalso;simp only [objs] at h;rw [if_neg (by simpa using h)] at hc;cases hc
 refine Def.bind (Def.idx hi.1 hlt (fun o _ _=>Def.bind' (Xu _ _ _) (fun _ _=>?_)))
 refine Def.fO (fun _=>True) (fun _=>?_) (fun _ _ _=>Def.ite (fun _=>.done (.done (.ret trivial))) (fun _=>.turn ?_))
 ·unfold F46
  exact .ret trivial
 ·rw [wrap_i64 (by omega) (by omega)]
  exact ⟨⟨by omega,by omega⟩,by omega⟩
theorem Qo {o:D6} (h:Xj o) (hk:o.2.1≠2):pages o≤quo o:=by
 unfold pages
 have:=h.quo
 by_cases e:o.2.1=1
 ·have:=h.seg e
  omega
 ·rw [h.dat e]
  simp
  omega
theorem Xw (w:D7) (hn:(objs w).length≤20) (hf:∀ o∈objs w,aaf o) (h:∀ o∈objs w,OkO o):Def (F10 w) fun b=>b=true→Whole (objs w) w.2.2.1∧∀ o∈objs w,Xj o:=by
 unfold F10
 refine Def.bind (Def.of (AU w _ (by omega)) ?_)
 refine Def.bind' (Xl w (by unfold big;omega) h) (fun v2 q2=>?_)
 refine Def.ite (fun _=>.ret (fun h=>by cases h)) (fun hc=>?_)
 simp at hc
 obtain ⟨hids,hsn⟩:=q2 hc.1
 simp only [aK]
 have hl:∀ o∈objs w,(lnk o).length≤1000:=fun o ho=>by have:=(hf o ho).2.1;simp only [lnk];omega
 refine Def.JF (l:=objs w) (fun pre=>∀ o∈pre,((∀ x∈lnk o,∃ y∈objs w,y.1=x)∧(o.2.1=2→Ih (objs w) (pages o) (lnk o)≤quo o))∧qQ (objs w) w.2.2.1 o=true) (by omega) (by simp) (fun pre v post e hi=>?_) (fun hi=>.done ?_)
 ·have hv:v∈objs w:=by rw [e];simp
  refine Def.bind' (Xr w v (by omega) (fun o ho=>(hsn o ho).lab) (hsn v hv).lab (hl v hv) (by have:=(hf v hv).2.2.1;simp only [dat];omega)) (fun v5 q5=>?_)
  refine Def.fO _ (fun _=>Def.at e) (fun v6 q6 _=>?_)
  refine Def.fO (fun v=>v=qQ (objs w) w.2.2.1 v6) (fun _=>Def.of (YJ w v6 (by omega) hl) rfl) (fun v7 q7 _=>?_)
  refine Def.ite (fun _=>.done (.ret (fun h=>by cases h))) (fun hc=>.turn ⟨rfl,fun o ho=>?_⟩)
  rcases List.mem_append.1 ho with ho | ho
  ·exact hi o ho
  ·simp only [List.mem_singleton] at ho
   subst ho
   simp at hc
   have e6:=q6 (by simp [hc.1])
   subst e6
   have e7:=q7 (by simp [hc.1])
   rw [hc.2] at e7
   exact ⟨q5 hc.1,e7.symm⟩
 ·refine Def.bind' (Xv w (by omega)) (fun v _=>.ret (fun _=>⟨?_,hsn⟩))
  exact {
   few:=hn,ids:=hids,quo:=fun o ho=>(hsn o ho).quo
   dat:=fun o ho=>(hf o ho).2.2.1,lns:=fun o ho=>(hf o ho).2.1
   own:=fun o ho hk=>⟨(hsn o ho).own hk,Qo (hsn o ho) hk⟩
   lnk:=fun o ho=>(hsn o ho).lnk,has:=fun o ho=>(hi o ho).1.1,uses:=fun o ho=>(hi o ho).1.2
   top:=⟨_,qj hc.2⟩,placed:=fun o ho=>(hi o ho).2 }
end Go.Fn
namespace Go.Fn
open Go Go.Ab Go.Tx
theorem Dn {i j:Nat} (hn:i+j≤4611686018427387904):Aw .u64 (IntKind.wrap .u64 (IntKind.wrap .i64 ((i:Int)+j))) 1=some (((i+j) / 2:Nat):Int):=by
 rw [wrap_i64 (x:=(i:Int)+j) (by omega) (by omega)]
 have e:IntKind.wrap .u64 ((i:Int)+j)=(i:Int)+j:=wrap_in (by simp [inR];omega)
 rw [e,Aw,if_pos (by decide)]
 have e2:((i:Int)+j).fdiv (2 ^ (min (1:Int).toNat (IntKind.bits .u64)))=(((i+j) / 2:Nat):Int):=by
  rw [show min (1:Int).toNat (IntKind.bits .u64)=1 from by decide,Int.fdiv_eq_ediv_of_nonneg _ (by decide)]
  simp
 rw [e2]
section
variable {ρ:Type}
theorem Def.search {n m:Nat} (hm:m≤n) (hn:n≤1000000) {B E:Int×Int→Option ((Int×Int) ⊕ ρ)} {Q:ρ→Prop}
  (hb:∀ i j:Nat,i<j→j≤n→i≤m→m≤j→Def (B ((i:Int),(j:Int))) fun r=>match r with | .inl s=>(s=((((i+j) / 2:Nat):Int)+1,(j:Int))∧(i+j) / 2<m)∨(s=((i:Int),(((i+j) / 2:Nat):Int))∧m≤(i+j) / 2) | .inr r=>Q r)
  (he:Def (E ((m:Int),(m:Int))) fun r=>match r with | .inl _=>False | .inr r=>Q r) :
  Def (aJ (fun s=>if decide (s.1<s.2)=true then B s else E s) ((0:Int),(n:Int))) Q:=by
 refine Def.loop (fun s:Int×Int=>∃ i j:Nat,s=((i:Int),(j:Int))∧i≤m∧m≤j∧j≤n) (fun s=>(s.2 - s.1).toNat) ⟨0,n,rfl,by omega,hm,by omega⟩ (fun s hi=>?_)
 obtain ⟨i,j,rfl,h1,h2,h3⟩:=hi
 refine Def.ite (fun hc=>?_) (fun hc=>?_)
 ·have hlt:i<j:=by simpa using hc
  refine (hb i j hlt h3 h1 h2).mono fun r hr=>?_
  cases r with
  | inr r=>exact hr
  | inl s =>
   rcases hr with ⟨rfl,h⟩ | ⟨rfl,h⟩
   ·exact ⟨⟨(i+j) / 2+1,j,by simp,by omega,by omega,by omega⟩,by simp only;omega⟩
   ·exact ⟨⟨i,(i+j) / 2,rfl,by omega,by omega,by omega⟩,by simp only;omega⟩
 ·have hge : ¬ i<j:=by simpa using hc
  have e1:i=m:=by omega
  have e2:j=m:=by omega
  subst e1;subst e2
  refine he.mono fun r hr=>?_
  cases r with
  | inl s=>exact hr.elim
  | inr r=>exact hr
end
theorem JJ (a b:Int):F51 a b=some (if a<b then -1 else if b<a then 1 else 0):=by
 unfold F51 F52
 simp only [Option.bind_some,aK,bne_self_eq_false,Bool.false_eq_true,if_false]
 by_cases h1:a<b
 ·simp [h1]
 ·by_cases h2:b<a
  ·simp [h1,h2]
  ·simp [h1,h2]
theorem YK (a b:Int):F37 a b=some (decide (a<b)):=by
 unfold F37 F52
 simp
theorem UW (l:List Int) (t:Int) (hl:l.length≤1000000) (hp:l.Pairwise (· < ·)):F16 l t=some ((gW l t:Int),decide (t∈l)):=by
 refine Def.eq ?_
 unfold F16
 simp only [aK]
 refine Def.search (n:=l.length) (m:=gW l t) (Di l t) hl (fun i j hij hj h1 h2=>?_) (.done ?_)
 ·simp only
  rw [Dn (by omega)]
  have hk:(i+j) / 2<l.length:=by omega
  have ew:IntKind.wrap .i64 (((i+j) / 2:Nat):Int)=(((i+j) / 2:Nat):Int):=wrap_i64 (by omega) (by omega)
  have ew2:IntKind.wrap .i64 ((((i+j) / 2:Nat):Int)+1)=(((i+j) / 2:Nat):Int)+1:=wrap_i64 (by omega) (by omega)
  rw [Option.bind_some]
  simp only [ew,ew2]
  refine Def.bind (Def.idx (by omega) (by omega) (fun v hv _=>?_))
  simp only [Int.toNat_natCast] at hv
  have hlow:=qR hp t _ v hv
  rw [YK,Option.bind_some]
  refine Def.ite (fun hc=>.turn (.inl ⟨rfl,?_⟩)) (fun hc=>.turn (.inr ⟨rfl,?_⟩))
  ·exact hlow.1 (by simpa using hc)
  ·have : ¬ v<t:=by simpa using hc
   exact Nat.le_of_not_lt fun h=>this (hlow.2 h)
 ·simp only [F38,bne_self_eq_false]
  by_cases hlt:gW l t<l.length
  ·have hg:=List.getElem?_eq_getElem hlt
   have hm:=Dj hp hg
   have h1:aB l (gW l t:Int)=some l[gW l t]:=by rw [qh,hg]
   have hd:decide (((gW l t:Nat):Int)<((l.length:Nat):Int))=true:=by simpa using hlt
   simp only [hd,h1,Bool.and_true,Bool.true_and,if_true,Option.bind_some]
   by_cases he:l[gW l t]=t
   ·simp [he,hm.2 he,Def]
   ·have:t ∉ l:=fun h=>he (hm.1 h)
    simp [he,this,Def]
  ·have hd:decide (((gW l t:Nat):Int)<((l.length:Nat):Int))=false:=by simpa using hlt
   have:t ∉ l:=Dk hp (by omega)
   simp only [hd,Bool.false_and,Bool.false_eq_true,if_false,Option.bind_some]
   exact ⟨_,rfl,by simp [this]⟩
abbrev keys (l:List D6):List Int:=l.map (·.1)
theorem FD {l:List D6} (h:l.Pairwise (fun a b=>a.1<b.1)):(keys l).Pairwise (· < ·):=by
 rw [List.pairwise_map];exact h
theorem UY (w:D7) (id:Int) (hl:(objs w).length≤1000000) (hp:(objs w).Pairwise (fun a b=>a.1<b.1)):F15 w id=some (dK (objs w) id):=by
 refine Def.eq ?_
 unfold F15 F35
 rw [Option.bind_some]
 have e0:((yH (yG (Ty.zero t9:D9) w.2.2.2.1) ()):D8).1=objs w:=rfl
 simp only [aK,e0]
 have hk:=FD hp
 have hlen:(keys (objs w)).length=(objs w).length:=by simp [keys]
 have hge:∀ (k:Nat) (v:D6),(objs w)[k]? = some v→(keys (objs w))[k]? = some v.1:=fun k v h=>by simp [keys,h]
 refine Def.search (n:=(objs w).length) (m:=gW (keys (objs w)) id) (by rw [← hlen];exact Di _ _) hl (fun i j hij hj h1 h2=>?_) (.done ?_)
 ·simp only
  rw [Dn (by omega)]
  have ew:IntKind.wrap .i64 (((i+j) / 2:Nat):Int)=(((i+j) / 2:Nat):Int):=wrap_i64 (by omega) (by omega)
  have ew2:IntKind.wrap .i64 ((((i+j) / 2:Nat):Int)+1)=(((i+j) / 2:Nat):Int)+1:=wrap_i64 (by omega) (by omega)
  rw [Option.bind_some]
  simp only [ew,ew2]
  refine Def.bind (Def.idx (by omega) (by show _<(((objs w).length:Nat):Int);omega) (fun v hv _=>?_))
  simp only [Int.toNat_natCast] at hv
  have hlow:=qR hk id _ v.1 (hge _ _ hv)
  rw [F48,Option.bind_some,JJ,Option.bind_some]
  refine Def.ite (fun hc=>.turn (.inl ⟨rfl,?_⟩)) (fun hc=>.turn (.inr ⟨rfl,?_⟩))
  ·refine hlow.1 ?_
   by_cases h:v.1<id
   ·exact h
   ·by_cases h' : id<v.1 <;> simp [h,h'] at hc
  ·have : ¬ v.1<id:=fun h=>by simp [h] at hc
   exact Nat.le_of_not_lt fun h=>this (hlow.2 h)
 ·by_cases hlt:gW (keys (objs w)) id<(objs w).length
  ·have hg:=List.getElem?_eq_getElem hlt
   have hm:=Dj hk (hge _ _ hg)
   have h1:aB (objs w) (gW (keys (objs w)) id:Int)=some (objs w)[gW (keys (objs w)) id]:=by rw [qh,hg]
   have hd:decide (((gW (keys (objs w)) id:Nat):Int)<(((objs w).length:Nat):Int))=true:=by simpa using hlt
   generalize ho:(objs w)[gW (keys (objs w)) id]=o at h1 hm
   have hin:o∈objs w:=by rw [← ho];exact List.getElem_mem hlt
   simp only [hd,h1,Bool.and_true,if_true,Option.bind_some,F48,JJ]
   by_cases he:o.1=id
   ·subst he
    refine ⟨_,by simp only [Int.lt_irrefl,if_false];rfl,?_⟩
    exact (mM hp o hin).symm
   ·have hno:∀ x∈objs w,x.1≠id:=fun x hx e=>he (hm.1 (List.mem_map.2 ⟨x,hx,e⟩))
    refine ⟨_,?_,rfl⟩
    rw [AV hno]
    have : ¬ ((if o.1<id then (-1:Int) else if id<o.1 then 1 else 0)==0)=true:=by
     by_cases h1:o.1<id
     ·simp [h1]
     ·by_cases h2:id<o.1
      ·simp [h1,h2]
      ·omega
    rw [if_pos (by simpa using this)]
  ·have hd:decide (((gW (keys (objs w)) id:Nat):Int)<(((objs w).length:Nat):Int))=false:=by simpa using hlt
   have hno:∀ x∈objs w,x.1≠id:=fun x hx e=>Dk hk (by rw [hlen];omega) (List.mem_map.2 ⟨x,hx,e⟩)
   simp only [hd,Bool.false_and,Bool.false_eq_true,if_false,Option.bind_some]
   exact ⟨_,rfl,(AV hno).symm⟩
end Go.Fn
namespace Go.Fn
open Go Go.Ab Go.Tx
end Go.Fn
namespace Go.Fn
open Go Go.Ab Go.Tx
theorem FH {k t:Int} {ks:List Int}:gW (k::ks) t=if k<t then gW ks t+1 else gW ks t:=by
 unfold gW
 rw [List.filter_cons]
 by_cases h:k<t <;> simp [h]
theorem yQ:∀ {l:List D6},l.Pairwise (fun a b=>a.1<b.1)→∀ t:Int,l.take (gW (keys l) t)=l.filter (fun o=>decide (o.1<t))∧l.drop (gW (keys l) t)=l.filter (fun o=>!decide (o.1<t))
 | [],_,t=>by simp
 | o::l,hp,t=>by
  obtain ⟨h1,h2⟩:=List.pairwise_cons.1 hp
  obtain ⟨i1,i2⟩:=yQ h2 t
  by_cases h:o.1<t
  ·have e:gW (keys (o::l)) t=gW (keys l) t+1:=by simp only [keys,List.map_cons,FH,h,if_true]
   rw [e]
   simp only [List.take_succ_cons,List.drop_succ_cons,List.filter_cons,h,decide_true,if_true,Bool.not_true,Bool.false_eq_true,if_false]
   exact ⟨by rw [i1],i2⟩
  ·have hall:∀ x∈o::l,¬ x.1<t:=by
    intro x hx
    rcases List.mem_cons.1 hx with rfl | hx
    ·exact h
    ·have:=h1 x hx;omega
   have e:gW (keys (o::l)) t=0:=by
    unfold gW
    rw [List.filter_eq_nil_iff.2]
    ·rfl
    ·intro x hx
     obtain ⟨y,hy,rfl⟩:=List.mem_map.1 hx
     simpa using hall y hy
   rw [e]
   refine ⟨?_,?_⟩
   ·rw [List.take_zero,List.filter_eq_nil_iff.2]
    intro x hx;simpa using hall x hx
   ·rw [List.drop_zero,List.filter_eq_self.2]
    intro x hx;simpa using hall x hx
def insL (l:List Int) (t:Int):List Int:=l.filter (fun o=>decide (o<t))++t::l.filter (fun o=>!decide (o<t))
def tH (l:List D6) (o:D6):List D6:=l.filter (fun x=>decide (x.1<o.1))++o::l.filter (fun x=>decide (o.1<x.1))
theorem JK {l:List D6} (hp:l.Pairwise (fun a b=>a.1<b.1)) (o:D6) (hl:l.length≤1000000) (hno:∀ x∈l,x.1≠o.1):ZL 632 l (gW (keys l) o.1:Int) [o]=some (tH l o):=by
 have h1:=Di (keys l) o.1
 have h2:(keys l).length=l.length:=by simp [keys]
 rw [ZL,if_pos ⟨by omega,by omega,by simp only [List.length_cons,List.length_nil];omega⟩]
 obtain ⟨e1,e2⟩:=yQ hp o.1
 simp only [Int.toNat_natCast,e1,e2,tH]
 have:l.filter (fun x=>!decide (x.1<o.1))=l.filter (fun x=>decide (o.1<x.1)):=by
  refine List.filter_congr fun x hx=>?_
  have:=hno x hx
  by_cases h:x.1<o.1
  ·have h' : ¬ o.1<x.1:=by omega
   simp [h,h']
  ·have h' : o.1<x.1:=by omega
   simp [h,h']
 rw [this];simp
theorem TV {l:List D6} (hp:l.Pairwise (fun a b=>a.1<b.1)) (o v:D6) (hv:l[gW (keys l) o.1]? = some v) (e:v.1=o.1):fD l (gW (keys l) o.1:Int) o=some (tH l o):=by
 obtain ⟨hlt,hve⟩:=List.getElem?_eq_some_iff.1 hv
 rw [fD,if_pos ⟨by omega,by simpa using hlt⟩]
 obtain ⟨e1,e2⟩:=yQ hp o.1
 simp only [Int.toNat_natCast,Option.some.injEq]
 rw [List.set_eq_take_append_cons_drop,if_pos hlt,e1,tH]
 have hd:l.drop (gW (keys l) o.1)=v::l.drop (gW (keys l) o.1+1):=by rw [← hve];exact List.drop_eq_getElem_cons hlt
 rw [hd] at e2
 have e3:l.drop (gW (keys l) o.1+1)=l.filter (fun x=>decide (o.1<x.1)):=by
  have hp2:(v::l.drop (gW (keys l) o.1+1)).Pairwise (fun a b=>a.1<b.1):=by rw [← hd];exact hp.sublist (List.drop_sublist _ _)
  obtain ⟨q1,q2⟩:=List.pairwise_cons.1 hp2
  have h1:(v::l.drop (gW (keys l) o.1+1)).filter (fun x=>decide (o.1<x.1))=l.drop (gW (keys l) o.1+1):=by
   rw [List.filter_cons,if_neg (by simp;omega),List.filter_eq_self.2]
   intro x hx
   have:=q1 x hx
   simp;omega
  rw [← h1,e2,List.filter_filter]
  refine List.filter_congr fun x hx=>?_
  by_cases h:o.1<x.1
  ·have h' : ¬ x.1<o.1:=by omega
   simp [h,h']
  ·simp [h]
 rw [e3]
theorem Dp {l:List Int} {t x:Int}:x∈insL l t↔x=t∨x∈l:=by
 simp only [insL,List.mem_append,List.mem_cons,List.mem_filter]
 by_cases h:x<t
 ·simp [h];constructor
  ·rintro (h1 | h1)
   ·exact .inr h1
   ·omega
  ·rintro (h1 | h1)
   ·omega
   ·exact .inl h1
 ·simp [h]
theorem Dq {l:List D6} {o x:D6}:x∈tH l o↔x=o∨x∈l∧x.1≠o.1:=by
 simp only [tH,List.mem_append,List.mem_cons,List.mem_filter,decide_eq_true_eq]
 constructor
 ·rintro (⟨h1,h2⟩ | h | ⟨h1,h2⟩)
  ·exact .inr ⟨h1,by omega⟩
  ·exact .inl h
  ·exact .inr ⟨h1,by omega⟩
 ·rintro (h | ⟨h1,h2⟩)
  ·exact .inr (.inl h)
  ·by_cases h:x.1<o.1
   ·exact .inl ⟨h1,h⟩
   ·exact .inr (.inr ⟨h1,by omega⟩)
theorem Qp {l:List Int} (hp:l.Pairwise (· < ·)) {t:Int} (hn:t ∉ l):(insL l t).Pairwise (· < ·):=by
 unfold insL
 rw [List.pairwise_append,List.pairwise_cons]
 refine ⟨hp.filter _,⟨fun x hx=>?_,hp.filter _⟩,fun x hx y hy=>?_⟩
 ·simp only [List.mem_filter] at hx
  have h1 : ¬ x<t:=by simpa using hx.2
  have:x≠t:=fun e=>hn (e ▸ hx.1)
  omega
 ·simp only [List.mem_filter,decide_eq_true_eq] at hx
  rcases List.mem_cons.1 hy with rfl | hy
  ·exact hx.2
  ·simp only [List.mem_filter] at hy
   have h1 : ¬ y<t:=by simpa using hy.2
   omega
theorem Qq {l:List D6} (hp:l.Pairwise (fun a b=>a.1<b.1)) (o:D6):(tH l o).Pairwise (fun a b=>a.1<b.1):=by
 unfold tH
 rw [List.pairwise_append,List.pairwise_cons]
 refine ⟨hp.filter _,⟨fun x hx=>?_,hp.filter _⟩,fun x hx y hy=>?_⟩
 ·simp only [List.mem_filter,decide_eq_true_eq] at hx;exact hx.2
 ·simp only [List.mem_filter,decide_eq_true_eq] at hx
  rcases List.mem_cons.1 hy with rfl | hy
  ·exact hx.2
  ·simp only [List.mem_filter,decide_eq_true_eq] at hy;omega
abbrev Ris (w:D7):Prop:=(objs w).Pairwise (fun a b=>a.1<b.1)
def TW (w:D7) (o:D6):D7:=if (tH (objs w) o).length≤1024 then dZ w (tH (objs w) o) else w
theorem YL (w:D7) (o:D6) (hl:(objs w).length≤100000) (hp:Ris w):F20 w o=some (TW w o):=by
 refine Def.eq ?_
 unfold F20 F35
 rw [Option.bind_some]
 have e0:((yH (yG (Ty.zero t9:D9) w.2.2.2.1) ()):D8).1=objs w:=rfl
 simp only [aK,e0]
 have hk:=FD hp
 have hlen:(keys (objs w)).length=(objs w).length:=by simp [keys]
 have hge:∀ (k:Nat) (v:D6),(objs w)[k]? = some v→(keys (objs w))[k]? = some v.1:=fun k v h=>by simp [keys,h]
 have fin:∀ l,l=tH (objs w) o→Def (if decide (((List.length l:Nat):Int)≤(1024:Int))=true then some (dZ w l) else some w) fun r=>r=TW w o:=by
  rintro l rfl
  unfold TW
  refine Def.ite (fun hc=>.ret ?_) (fun hc=>.ret ?_)
  ·rw [if_pos (by simp only [decide_eq_true_eq] at hc;omega)]
  ·rw [if_neg (by simp only [decide_eq_true_eq] at hc;omega)]
 have hc0:∀ {Q:List D6→Prop},Q (objs w)→Def (Fp 632 [] (objs w)) Q:=fun h=>Def.app (by simp only [List.length_nil];omega) (by simpa using h)
 rw [F48,Option.bind_some]
 refine Def.search (n:=(objs w).length) (m:=gW (keys (objs w)) o.1) (by rw [← hlen];exact Di _ _) (by omega) (fun i j hij hj h1 h2=>?_) (.done ?_)
 ·simp only
  rw [Dn (by omega)]
  have ew:IntKind.wrap .i64 (((i+j) / 2:Nat):Int)=(((i+j) / 2:Nat):Int):=wrap_i64 (by omega) (by omega)
  have ew2:IntKind.wrap .i64 ((((i+j) / 2:Nat):Int)+1)=(((i+j) / 2:Nat):Int)+1:=wrap_i64 (by omega) (by omega)
  rw [Option.bind_some]
  simp only [ew,ew2]
  refine Def.bind (Def.idx (by omega) (by show _<(((objs w).length:Nat):Int);omega) (fun v hv _=>?_))
  simp only [Int.toNat_natCast] at hv
  have hlow:=qR hk o.1 _ v.1 (hge _ _ hv)
  rw [F48,Option.bind_some,JJ,Option.bind_some]
  refine Def.ite (fun hc=>.turn (.inl ⟨rfl,?_⟩)) (fun hc=>.turn (.inr ⟨rfl,?_⟩))
  ·refine hlow.1 ?_
   by_cases h:v.1<o.1
   ·exact h
   ·by_cases h' : o.1<v.1 <;> simp [h,h'] at hc
  ·have : ¬ v.1<o.1:=fun h=>by simp [h] at hc
   exact Nat.le_of_not_lt fun h=>this (hlow.2 h)
 ·by_cases hlt:gW (keys (objs w)) o.1<(objs w).length
  ·have hg:=List.getElem?_eq_getElem hlt
   have hm:=Dj hk (hge _ _ hg)
   have h1:aB (objs w) (gW (keys (objs w)) o.1:Int)=some (objs w)[gW (keys (objs w)) o.1]:=by rw [qh,hg]
   have hd:decide (((gW (keys (objs w)) o.1:Nat):Int)<(((objs w).length:Nat):Int))=true:=by simpa using hlt
   generalize ho:(objs w)[gW (keys (objs w)) o.1]=v at h1 hm hg
   simp only [hd,h1,Bool.and_true,if_true,Option.bind_some,F48,JJ]
   refine Def.bind (hc0 ?_)
   by_cases he:v.1=o.1
   ·have hx:((if v.1<o.1 then (-1:Int) else if o.1<v.1 then 1 else 0)==0)=true:=by rw [he];simp
    rw [hx]
    simp only [if_true,h1,Option.bind_some]
    rw [TV hp o v hg he,Option.bind_some]
    exact fin _ rfl
   ·have hno:∀ x∈objs w,x.1≠o.1:=fun x hx e=>he (hm.1 (List.mem_map.2 ⟨x,hx,e⟩))
    have hx:((if v.1<o.1 then (-1:Int) else if o.1<v.1 then 1 else 0)==0)=false:=by
     by_cases h1:v.1<o.1
     ·simp [h1]
     ·by_cases h2:o.1<v.1
      ·simp [h1,h2]
      ·omega
    rw [hx]
    simp only [Bool.false_eq_true,if_false,Option.bind_some]
    rw [JK hp o (by omega) hno,Option.bind_some]
    exact fin _ rfl
  ·have hd:decide (((gW (keys (objs w)) o.1:Nat):Int)<(((objs w).length:Nat):Int))=false:=by simpa using hlt
   have hno:∀ x∈objs w,x.1≠o.1:=fun x hx e=>Dk hk (by rw [hlen];omega) (List.mem_map.2 ⟨x,hx,e⟩)
   simp only [hd,Bool.false_and,Bool.false_eq_true,if_false,Option.bind_some]
   refine Def.bind (hc0 ?_)
   rw [JK hp o (by omega) hno,Option.bind_some]
   exact fin _ rfl
end Go.Fn
namespace Go.Fn
open Go Go.Ab Go.Tx
end Go.Fn
namespace Go.Fn
open Go Go.Ab Go.Tx
def lv (n:Int):Int:=if n<0∨5<n then 2 else n
end Go.Fn
namespace Go.Fn
open Go Go.Ab Go.Tx
def joinL (a:List D0):List D0:=a.filter fun p=>decide (2<p.2.1)
end Go.Fn
namespace Go.Fn
open Go Go.Ab Go.Tx Go.Sort
theorem Ik (a b:Int):F37 a b=some (ltInt a b):=by
 unfold F37 F52
 simp [ltInt]
section
variable {d:Array Int} {a b i j:Nat}
theorem kC (h:i<d.size):aB d.toList (i:Int)=some d[i]!:=by
 rw [qh,Array.getElem?_toList,Array.getElem?_eq_getElem h,getElem!_pos d i h]
theorem UZ (x:Int) (h:i<d.size):fD d.toList (i:Int) x=some (d.setIfInBounds i x).toList:=by
 rw [fD,if_pos ⟨by omega,by simpa using h⟩];simp
theorem U0 {α:Type} (hi:i<d.size) (hj:j<d.size) {k:List Int→Option α}:(Option.bind (fD d.toList (i:Int) d[j]!) fun v=>Option.bind (aB v (j:Int)) fun _=>Option.bind (fD v (j:Int) d[i]!) k)=k (swp d i j).toList:=by
 rw [UZ _ hi,Option.bind_some,kC (by simpa using hj),Option.bind_some,UZ _ (by simpa using hj),Option.bind_some];rfl
theorem bP {x:Int} {n:Nat} (h:x=n) (hn:n≤1000000):IntKind.wrap .i64 x=n:=by rw [h,wrap_i64 (by omega) (by omega)]
theorem grd {α:Type} {c:Bool} {l:List Int} {x y p q:Int} {K:Bool→Option α} (h:c=true→aB l x=some p∧aB l y=some q) :
  (Option.bind (if (c&&true)=true then aB l x else some (0:Int)) fun _=>Option.bind (if (c&&true)=true then aB l x else some (0:Int)) fun v=>Option.bind (if (c&&true)=true then aB l y else some (0:Int)) fun _ =>
   Option.bind (if (c&&true)=true then aB l y else some (0:Int)) fun u=>Option.bind (if (c&&true)=true then F37 v u else some false) K)=K (c&&ltInt p q):=by
 cases c with
 | false=>rfl
 | true =>
  obtain ⟨h1,h2⟩:=h rfl
  simp only [Bool.and_true,if_true,h1,h2,Option.bind_some,Ik,Bool.true_and]
theorem Dt {c t:Bool}:(if c=true then (c&&t) else false)=(c&&t):=by cases c <;> rfl
theorem Du {c t:Bool}:(if c=true then (!(c&&t)) else false)=(c && !t):=by cases c <;> rfl
theorem oU {α:Type} (hi:i<d.size) (hj:j<d.size) {k:List Int→Option α}:(Option.bind (aB d.toList (j:Int)) fun _=>Option.bind (aB d.toList (j:Int)) fun u=>Option.bind (aB d.toList (i:Int)) fun _=>Option.bind (aB d.toList (i:Int)) fun v=>Option.bind (aB d.toList (i:Int)) fun _ =>
  Option.bind (fD d.toList (i:Int) u) fun w=>Option.bind (aB w (j:Int)) fun _=>Option.bind (fD w (j:Int) v) k)=k (swp d i j).toList:=by
 simp only [kC hi,kC hj,Option.bind_some]
 exact U0 hi hj
theorem Il {lt:Int→Int→Bool} (h:i<b):insOuter lt a b i d=insOuter lt a b (i+1) (insInner lt a i d):=by rw [insOuter,if_pos h]
theorem Io {lt:Int→Int→Bool} (h : ¬ i<b):insOuter lt a b i d=d:=by rw [insOuter,if_neg h]
theorem U1 (hb:b≤d.size) (hn:d.size≤1000) (ha:a≤d.size):F72 d.toList a b=some ((insertionSort ltInt d a b).toList,()):=by
 refine Def.eq ?_
 unfold F72
 simp only [aK]
 rw [bP (x:=(a:Int)+1) (n:=a+1) (by omega) (by omega)]
 refine Def.loop (fun s=>∃ (i:Nat) (d' : Array Int),s=((i:Int),d'.toList)∧d'.size=d.size∧a+1≤i∧i≤d.size+1∧insOuter ltInt a b i d' = insertionSort ltInt d a b) (fun s=>(b - s.1).toNat) ⟨a+1,d,rfl,rfl,Nat.le_refl _,by omega,rfl⟩ ?_
 rintro s ⟨i,d',rfl,h1,h2,h2',h3⟩
 refine Def.ite (fun hc=>?_) (fun hc=>?_)
 ·have hlt:i<b:=by simpa using hc
  refine Def.loop (fun s=>∃ (j:Nat) (d2:Array Int),s=((j:Int),d2.toList)∧d2.size=d.size∧j≤i∧insInner ltInt a j d2=insInner ltInt a i d') (fun s=>s.1.toNat) ⟨i,d',rfl,h1,Nat.le_refl _,rfl⟩ ?_
  rintro s ⟨j,d2,rfl,g1,g2,g3⟩
  simp only
  rw [grd (p:=d2[j]!) (q:=d2[j - 1]!) (fun hc=>?_)]
  ·rw [Dt]
   refine Def.ite (fun hl=>?_) (fun hl=>?_)
   ·simp only [Bool.and_eq_true,decide_eq_true_eq] at hl
    obtain ⟨hj,hl⟩:=hl
    obtain ⟨j,rfl⟩:∃ j',j=j' + 1:=⟨j - 1,by omega⟩
    rw [bP (x:=((j+1:Nat):Int) - 1) (n:=j) (by omega) (by omega),oU (by omega) (by omega)]
    refine .turn ⟨⟨j,_,rfl,by rw [size_swp];exact g1,by omega,?_⟩,by simp only;omega⟩
    rw [← g3,insInner,if_pos (by rw [Bool.and_eq_true,decide_eq_true_eq];exact ⟨by omega,hl⟩)]
   ·have hs:insInner ltInt a j d2=d2:=by
     cases j with
     | zero=>rfl
     | succ j =>
      rw [insInner,if_neg fun h=>hl ?_]
      rw [Bool.and_eq_true,decide_eq_true_eq] at h ⊢
      exact ⟨by omega,h.2⟩
    rw [bP (x:=(i:Int)+1) (n:=i+1) (by omega) (by omega)]
    refine .done (.turn ⟨⟨i+1,d2,rfl,g1,by omega,by omega,?_⟩,by simp only;omega⟩)
    rw [← h3,Il hlt,← g3,hs]
  ·simp only [decide_eq_true_eq] at hc
   rw [bP (x:=(j:Int) - 1) (n:=j - 1) (by omega) (by omega)]
   exact ⟨kC (by omega),kC (by omega)⟩
 ·have hge : ¬ i<b:=by simpa using hc
  refine .done (.ret ?_)
  rw [← h3,Io hge]
theorem FI {lt:Int→Int→Bool} {hi f r:Nat} (h:2 * r+1≥hi):siftDown lt hi f r d=d:=by rw [siftDown,dif_pos h]
theorem FK {lt:Int→Int→Bool} {hi f r:Nat} (h : ¬ 2 * r+1≥hi) (hc:(decide (2 * r+1+1<hi)&&lt d[f+(2 * r+1)]! d[f+(2 * r+1)+1]!)=true) :
  siftDown lt hi f r d=if (!lt d[f+r]! d[f+(2 * r+2)]!)=true then d else siftDown lt hi f (2 * r+2) (swp d (f+r) (f+(2 * r+2))):=by
 rw [siftDown,dif_neg h,if_pos hc]
 have h2:2 * r+2<hi:=by
  rw [Bool.and_eq_true,decide_eq_true_eq] at hc;omega
 split
 ·rfl
 ·rfl
theorem FM {lt:Int→Int→Bool} {hi f r:Nat} (h : ¬ 2 * r+1≥hi) (hc : ¬ (decide (2 * r+1+1<hi)&&lt d[f+(2 * r+1)]! d[f+(2 * r+1)+1]!)=true) :
  siftDown lt hi f r d=if (!lt d[f+r]! d[f+(2 * r+1)]!)=true then d else siftDown lt hi f (2 * r+1) (swp d (f+r) (f+(2 * r+1))):=by
 rw [siftDown,dif_neg h,if_neg hc]
theorem U2 {hi f r:Nat} (hb:f+hi≤d.size) (hn:d.size≤1000) (hr:r≤1000):F92 d.toList r hi f=some ((siftDown ltInt hi f r d).toList,()):=by
 refine Def.eq ?_
 unfold F92
 rw [aK,aK]
 refine Def.loop (fun s=>∃ (q:Nat) (d' : Array Int),s=((q:Int),d'.toList)∧d'.size=d.size∧q≤1000∧siftDown ltInt hi f q d' = siftDown ltInt hi f r d) (fun s=>(hi - s.1).toNat) ⟨r,d,rfl,rfl,hr,rfl⟩ ?_
 rintro s ⟨q,d',rfl,h1,h2,h3⟩
 simp only
 have w1:=bP (x:=(2:Int) * (q:Int)) (n:=2 * q) (by omega) (by omega)
 have w2:=bP (x:=((2 * q:Nat):Int)+1) (n:=2 * q+1) (by omega) (by omega)
 have w3:=bP (x:=((2 * q+1:Nat):Int)+1) (n:=2 * q+1+1) (by omega) (by omega)
 simp only [w1,w2,w3]
 refine Def.ite (fun hc=>?_) (fun hc=>?_)
 ·have hge:2 * q+1≥hi:=by
   have:=of_decide_eq_true hc
   omega
  exact .done (.ret (by rw [← h3,FI hge]))
 ·have hlt : ¬ 2 * q+1≥hi:=fun h=>hc (decide_eq_true (by omega))
  have w4:=bP (x:=(f:Int)+((2 * q+1:Nat):Int)) (n:=f+(2 * q+1)) (by omega) (by omega)
  have w5:=bP (x:=((f+(2 * q+1):Nat):Int)+1) (n:=f+(2 * q+1)+1) (by omega) (by omega)
  have w6:=bP (x:=(f:Int)+(q:Int)) (n:=f+q) (by omega) (by omega)
  simp only [w4,w5,w6]
  rw [grd (p:=d'[f+(2 * q+1)]!) (q:=d'[f+(2 * q+1)+1]!) (fun hc=>?_)]
  ·rw [Dt]
   have hdec:decide (((2 * q+1+1:Nat):Int)<(hi:Int))=decide (2 * q+1+1<hi):=by simp only [decide_eq_decide];omega
   rw [hdec]
   refine Def.aS (fun c:Int=>∃ n:Nat,c=n∧n<hi∧q<n∧siftDown ltInt hi f q d' = if (!ltInt d'[f+q]! d'[f+n]!)=true then d' else siftDown ltInt hi f n (swp d' (f+q) (f+n))) ?_ ?_
   ·rintro _ ⟨n,rfl,k1,k2,k3⟩
    have w7:=bP (x:=(f:Int)+(n:Int)) (n:=f+n) (by omega) (by omega)
    simp only [w7]
    rw [kC (by omega),Option.bind_some,Option.bind_some,kC (by omega),Option.bind_some,Option.bind_some,Ik,Option.bind_some]
    refine Def.ite (fun hl=>?_) (fun hl=>?_)
    ·exact .done (.ret (by rw [← h3,k3,if_pos hl]))
    ·simp only [Option.bind_some]
     rw [U0 (by omega) (by omega)]
     exact .turn ⟨⟨n,_,rfl,by rw [size_swp];exact h1,by omega,by rw [← h3,k3,if_neg hl]⟩,by simp only;omega⟩
   ·intro jj hjj
    refine Def.ite (fun hl=>hjj _ ⟨2 * q+2,rfl,?_,by omega,FK hlt hl⟩) (fun hl=>hjj _ ⟨2 * q+1,rfl,by omega,by omega,FM hlt hl⟩)
    rw [Bool.and_eq_true,decide_eq_true_eq] at hl;omega
  ·have hc:=of_decide_eq_true hc
   exact ⟨kC (by omega),kC (by omega)⟩
theorem size_siftDown {lt:Int→Int→Bool} {hi f r:Nat}:(siftDown lt hi f r d).size=d.size:=by
 fun_induction siftDown lt hi f r d <;> simp_all [size_swp]
theorem AX {lt:Int→Int→Bool} {hi f:Nat}:∀ (k:Nat) (d:Array Int),(heapBuild lt hi f k d).size=d.size
 | 0,d=>rfl
 | k+1,d=>by rw [heapBuild,AX k,size_siftDown]
theorem YM (hb:b≤d.size) (hn:d.size≤1000) (ha:a<b):F73 d.toList a b=some ((heapSort ltInt d a b).toList,()):=by
 refine Def.eq ?_
 unfold F73
 have w1:=bP (x:=(b:Int) - (a:Int)) (n:=b - a) (by omega) (by omega)
 have w2:=bP (x:=((b - a:Nat):Int) - 1) (n:=b - a - 1) (by omega) (by omega)
 have w3:DI .i64 ((b - a - 1:Nat):Int) 2=some (((b - a - 1) / 2:Nat):Int):=by
  rw [DI,if_pos (by decide)]
  have:(((b - a - 1:Nat):Int)).tdiv 2=(((b - a - 1) / 2:Nat):Int):=by rw [Int.tdiv_eq_ediv_of_nonneg (by omega)];omega
  rw [this,wrap_i64 (by omega) (by omega)]
 simp only [w1,w2,w3,Option.bind_some]
 refine Def.aS (fun l:List Int=>∃ d',l=d'.toList∧d' = heapBuild ltInt (b - a) a ((b - a - 1) / 2+1) d) ?_ ?_
 ·rintro _ ⟨d0,rfl,e0⟩
  have hs0:d0.size=d.size:=by rw [e0,AX]
  rw [aK]
  refine Def.loop (fun s=>∃ (k:Nat) (d' : Array Int),s=((k:Int) - 1,d'.toList)∧d'.size=d.size∧k≤b - a∧heapPop ltInt a k d' = heapSort ltInt d a b) (fun s=>(s.1+1).toNat) ⟨b - a,d0,by congr 1;omega,hs0,Nat.le_refl _,by rw [heapSort,e0]⟩ ?_
  rintro s ⟨k,d',rfl,h1,h2,h3⟩
  refine Def.ite (fun hc=>?_) (fun hc=>?_)
  ·have hc:=of_decide_eq_true hc
   simp only at hc ⊢
   obtain ⟨k,rfl⟩:∃ k',k=k' + 1:=⟨k - 1,by omega⟩
   rw [show (((k+1:Nat):Int) - 1)=(k:Int) by omega]
   have w4:=bP (x:=(a:Int)+(k:Int)) (n:=a+k) (by omega) (by omega)
   simp only [w4]
   rw [oU (by omega) (by omega)]
   have h0:=U2 (d:=swp d' a (a+k)) (hi:=k) (f:=a) (r:=0) (by rw [size_swp];omega) (by rw [size_swp];omega) (by omega)
   simp only [Int.natCast_zero] at h0
   rw [h0,Option.bind_some]
   have w5:IntKind.wrap .i64 ((k:Int) - 1)=(k:Int) - 1:=wrap_i64 (by omega) (by omega)
   rw [w5]
   exact .turn ⟨⟨k,_,rfl,by rw [size_siftDown,size_swp];exact h1,by omega,by rw [← h3,heapPop]⟩,by simp only;omega⟩
  ·simp only [decide_eq_true_eq] at hc
   have:k=0:=by omega
   subst this
   exact .done (.ret (by rw [← h3];rfl))
 ·intro jj hjj
  refine Def.loop (fun s=>∃ (k:Nat) (d' : Array Int),s=((k:Int) - 1,d'.toList)∧d'.size=d.size∧k≤1000∧heapBuild ltInt (b - a) a k d' = heapBuild ltInt (b - a) a ((b - a - 1) / 2+1) d) (fun s=>(s.1+1).toNat) ⟨(b - a - 1) / 2+1,d,by congr 1;omega,rfl,by omega,rfl⟩ ?_
  rintro s ⟨k,d',rfl,h1,h2,h3⟩
  refine Def.ite (fun hc=>?_) (fun hc=>?_)
  ·have hc:=of_decide_eq_true hc
   simp only at hc ⊢
   obtain ⟨k,rfl⟩:∃ k',k=k' + 1:=⟨k - 1,by omega⟩
   rw [show (((k+1:Nat):Int) - 1)=(k:Int) by omega]
   rw [U2 (d:=d') (hi:=b - a) (f:=a) (r:=k) (by omega) (by omega) (by omega),Option.bind_some]
   have w5:IntKind.wrap .i64 ((k:Int) - 1)=(k:Int) - 1:=wrap_i64 (by omega) (by omega)
   rw [w5]
   exact .turn ⟨⟨k,_,rfl,by rw [size_siftDown];exact h1,by omega,by rw [← h3,heapBuild]⟩,by simp only;omega⟩
  ·simp only [decide_eq_true_eq] at hc
   have:k=0:=by omega
   subst this
   exact .done (hjj _ ⟨d',rfl,by rw [← h3];rfl⟩)
theorem zn (h:i<j):reverseLoop i j d=reverseLoop (i+1) (j - 1) (swp d i j):=by rw [reverseLoop,if_pos h]
theorem zo (h : ¬ i<j):reverseLoop i j d=d:=by rw [reverseLoop,if_neg h]
theorem YN (hb:b≤d.size) (hn:d.size≤1000) (ha:a<b):F76 d.toList a b=some ((reverseRange d a b).toList,()):=by
 refine Def.eq ?_
 unfold F76
 rw [aK,bP (x:=(b:Int) - 1) (n:=b - 1) (by omega) (by omega)]
 refine Def.loop (fun s=>∃ (i j:Nat) (d' : Array Int),s=((i:Int),(j:Int),d'.toList)∧d'.size=d.size∧i≤b∧j<b∧reverseLoop i j d' = reverseRange d a b) (fun s=>s.2.1.toNat) ⟨a,b - 1,d,rfl,rfl,by omega,by omega,rfl⟩ ?_
 rintro s ⟨i,j,d',rfl,h1,h2,h3,h4⟩
 refine Def.ite (fun hc=>?_) (fun hc=>?_)
 ·have hc:=of_decide_eq_true hc
  simp only at hc ⊢
  rw [oU (by omega) (by omega),bP (x:=(i:Int)+1) (n:=i+1) (by omega) (by omega),bP (x:=(j:Int) - 1) (n:=j - 1) (by omega) (by omega)]
  exact .turn ⟨⟨i+1,j - 1,_,rfl,by rw [size_swp];exact h1,by omega,by omega,(zn (by omega)).symm.trans h4⟩,by simp only;omega⟩
 ·simp only [decide_eq_true_eq] at hc
  exact .done (.ret (by rw [← h4,zo (by omega)]))
def hnum:Go.Sort.Hint→Int
 | .unknown=>0
 | .increasing=>1
 | .decreasing=>2
abbrev tri (r:Nat×Nat×Nat):Int×Int×Int:=((r.1:Int),(r.2.1:Int),(r.2.2:Int))
theorem Dv {α:Type} {K:Int×Int×Int→Option α} {Q:α→Prop} {s:Nat} (hi:i<d.size) (hj:j<d.size) (hs:s≤1000) (h:Def (K (tri (order2 ltInt d i j s))) Q) :
  Def (Option.bind (aB d.toList (j:Int)) fun _=>Option.bind (aB d.toList (j:Int)) fun v=>Option.bind (aB d.toList (i:Int)) fun _=>Option.bind (aB d.toList (i:Int)) fun u=>Option.bind (F37 v u) fun c =>
   if c=true then K ((j:Int),(i:Int),IntKind.wrap .i64 ((s:Int)+1)) else K ((i:Int),(j:Int),(s:Int))) Q:=by
 simp only [kC hi,kC hj,Option.bind_some,Ik]
 rw [bP (x:=(s:Int)+1) (n:=s+1) (by omega) (by omega)]
 unfold order2 at h
 split
 ·rename_i hc;rw [if_pos hc] at h;exact h
 ·rename_i hc;rw [if_neg hc] at h;exact h
theorem Dw (lt:Int→Int→Bool) (s:Nat) {n:Nat} (hi:i<n) (hj:j<n):(order2 lt d i j s).1<n∧(order2 lt d i j s).2.1<n∧(order2 lt d i j s).2.2≤s+1:=by
 unfold order2
 split
 ·exact ⟨hj,hi,Nat.le_refl _⟩
 ·exact ⟨hi,hj,Nat.le_succ _⟩
theorem YO (hb:b≤d.size) (hn:d.size≤1000) (ha:a<b) (h50:b - a<50):F75 d.toList a b=some (d.toList,(((choosePivot ltInt d a b).1:Int),hnum (choosePivot ltInt d a b).2)):=by
 refine Def.eq ?_
 unfold F75
 have w1:=bP (x:=(b:Int) - (a:Int)) (n:=b - a) (by omega) (by omega)
 have w3:DI .i64 ((b - a:Nat):Int) 4=some (((b - a) / 4:Nat):Int):=by
  rw [DI,if_pos (by decide)]
  have:(((b - a:Nat):Int)).tdiv 4=(((b - a) / 4:Nat):Int):=by rw [Int.tdiv_eq_ediv_of_nonneg (by omega)];omega
  rw [this,wrap_i64 (by omega) (by omega)]
 have m1:IntKind.wrap .i64 ((((b - a) / 4:Nat):Int) * 1)=(((b - a) / 4 * 1:Nat):Int):=bP (by omega) (by omega)
 have m2:IntKind.wrap .i64 ((((b - a) / 4:Nat):Int) * 2)=(((b - a) / 4 * 2:Nat):Int):=bP (by omega) (by omega)
 have m3:IntKind.wrap .i64 ((((b - a) / 4:Nat):Int) * 3)=(((b - a) / 4 * 3:Nat):Int):=bP (by omega) (by omega)
 have a1:IntKind.wrap .i64 ((a:Int)+(((b - a) / 4 * 1:Nat):Int))=((a+(b - a) / 4 * 1:Nat):Int):=bP (by omega) (by omega)
 have a2:IntKind.wrap .i64 ((a:Int)+(((b - a) / 4 * 2:Nat):Int))=((a+(b - a) / 4 * 2:Nat):Int):=bP (by omega) (by omega)
 have a3:IntKind.wrap .i64 ((a:Int)+(((b - a) / 4 * 3:Nat):Int))=((a+(b - a) / 4 * 3:Nat):Int):=bP (by omega) (by omega)
 simp only [w1,w3,Option.bind_some,m1,m2,m3,a1,a2,a3]
 obtain ⟨r,hr⟩:∃ r:Nat×Nat,r=if b - a≥8 then median ltInt d (a+(b - a) / 4 * 1) (a+(b - a) / 4 * 2) (a+(b - a) / 4 * 3) 0 else (a+(b - a) / 4 * 2,0):=⟨_,rfl⟩
 have hcp:choosePivot ltInt d a b=(r.1,if r.2=0 then .increasing else if r.2=12 then .decreasing else .unknown):=by
  rw [hr]
  unfold choosePivot
  simp only [if_neg (show ¬ b - a≥50 by omega)]
 rw [hcp]
 refine Def.aS (fun s:Int×Int=>s=((r.1:Int),(r.2:Int))) ?_ ?_
 ·rintro _ rfl
  simp only [aK]
  by_cases h0:r.2=0
  ·rw [if_pos (by simp [h0])]
   exact .ret (by simp [h0,hnum])
  ·rw [if_neg (by simp [h0])]
   by_cases h12:r.2=12
   ·rw [if_pos (by simp [h12])]
    exact .ret (by simp [h12,hnum])
   ·rw [if_neg (by simp;omega)]
    exact .ret (by simp [h0,h12,hnum])
 ·intro jj hjj
  refine Def.ite (fun hc=>?_) (fun hc=>?_)
  ·have hc:=of_decide_eq_true hc
   have h8:b - a≥8:=by omega
   rw [if_pos h8] at hr
   refine Def.aS (fun s:Int×Int×Int×Int=>s=(((a+(b - a) / 4 * 1:Nat):Int),((a+(b - a) / 4 * 2:Nat):Int),((a+(b - a) / 4 * 3:Nat):Int),((0:Nat):Int))) ?_ ?_
   ·rintro _ rfl
    simp only
    have q1:a+(b - a) / 4 * 1<d.size:=by omega
    have q2:a+(b - a) / 4 * 2<d.size:=by omega
    have q3:a+(b - a) / 4 * 3<d.size:=by omega
    obtain ⟨o1,o2,o3⟩:=Dw (d:=d) ltInt 0 q1 q2
    generalize he1:order2 ltInt d (a+(b - a) / 4 * 1) (a+(b - a) / 4 * 2) 0=e1 at o1 o2 o3
    obtain ⟨o4,o5,o6⟩:=Dw (d:=d) ltInt e1.2.2 o2 q3
    generalize he2:order2 ltInt d e1.2.1 (a+(b - a) / 4 * 3) e1.2.2=e2 at o4 o5 o6
    obtain ⟨o7,o8,o9⟩:=Dw (d:=d) ltInt e2.2.2 o1 o4
    generalize he3:order2 ltInt d e1.1 e2.1 e2.2.2=e3 at o7 o8 o9
    refine Def.aS (fun s:Int×Int×Int=>s=tri e1) ?_ (fun j1 hj1=>Dv (K:=j1) q1 q2 (by omega) (hj1 _ (by rw [he1])))
    rintro _ rfl
    refine Def.aS (fun s:Int×Int×Int=>s=tri e2) ?_ (fun j1 hj1=>Dv (K:=j1) o2 q3 (by omega) (hj1 _ (by rw [he2])))
    rintro _ rfl
    refine Def.aS (fun s:Int×Int×Int=>s=tri e3) ?_ (fun j1 hj1=>Dv (K:=j1) o1 o4 (by omega) (hj1 _ (by rw [he3])))
    rintro _ rfl
    refine hjj _ ?_
    rw [hr]
    simp only [median,he1,he2,he3]
   ·intro j2 hj2
    refine Def.ite (fun hc=>?_) (fun hc=>?_)
    ·have hc:=of_decide_eq_true hc
     omega
    ·exact hj2 _ rfl
  ·simp only [decide_eq_true_eq] at hc
   rw [if_neg (by omega)] at hr
   exact hjj _ (by rw [hr];rfl)
theorem scanSorted_go {lt:Int→Int→Bool} (h:(decide (i<b) && !lt d[i]! d[i - 1]!)=true):scanSorted lt d b i=scanSorted lt d b (i+1):=by rw [scanSorted,if_pos h]
theorem zq {lt:Int→Int→Bool} (h : ¬ (decide (i<b) && !lt d[i]! d[i - 1]!)=true):scanSorted lt d b i=i:=by rw [scanSorted,if_neg h]
theorem YP (hb:b≤d.size) (hn:d.size≤1000) (ha:a<b) (h50:b - a<50):F77 d.toList a b=some ((partialInsertionSort ltInt d a b).1.toList,(partialInsertionSort ltInt d a b).2):=by
 have hp:partialInsertionSort ltInt d a b=(d,decide (scanSorted ltInt d b (a+1)=b)):=by
  unfold partialInsertionSort
  rw [partialIns]
  simp only [if_pos h50]
  split
  ·rename_i h;rw [h];simp
  ·rename_i h;simp [h]
 rw [hp]
 refine Def.eq ?_
 unfold F77
 rw [aK,aK,bP (x:=(a:Int)+1) (n:=a+1) (by omega) (by omega)]
 refine Def.loop (fun s=>s=(((a+1:Nat):Int),(0:Int),d.toList)) (fun s=>0) rfl ?_
 rintro _ rfl
 simp only
 refine Def.ite (fun hc=>?_) (fun hc=>absurd (show decide ((0:Int)<5)=true from rfl) hc)
 rw [aK]
 refine Def.aS (fun s:Int=>s=(scanSorted ltInt d b (a+1):Int)) ?_ ?_
 ·rintro _ rfl
  refine Def.ite (fun hc=>?_) (fun hc=>?_)
  ·have hc:scanSorted ltInt d b (a+1)=b:=by have:=eq_of_beq hc;omega
   exact .done (.ret (by simp [hc]))
  ·have hc : ¬ scanSorted ltInt d b (a+1)=b:=fun h=>hc (by simp [h])
   rw [bP (x:=(b:Int) - (a:Int)) (n:=b - a) (by omega) (by omega)]
   refine Def.ite (fun hl=>?_) (fun hl=>absurd (decide_eq_true (by omega)) hl)
   exact .done (.ret (by simp [hc]))
 ·intro jj hjj
  refine Def.loop (fun s:Int=>∃ i:Nat,s=i∧i≤b∧a+1≤i∧scanSorted ltInt d b i=scanSorted ltInt d b (a+1)) (fun s=>(b - s).toNat) ⟨a+1,rfl,by omega,Nat.le_refl _,rfl⟩ ?_
  rintro _ ⟨i,rfl,h1,h2,h3⟩
  rw [grd (p:=d[i]!) (q:=d[i - 1]!) (fun hc=>?_)]
  ·rw [Du]
   have hdec:decide ((i:Int)<(b:Int))=decide (i<b):=by simp only [decide_eq_decide];omega
   rw [hdec]
   refine Def.ite (fun hl=>?_) (fun hl=>?_)
   ·have hib:i<b:=by rw [Bool.and_eq_true,decide_eq_true_eq] at hl;exact hl.1
    rw [bP (x:=(i:Int)+1) (n:=i+1) (by omega) (by omega)]
    exact .turn ⟨⟨i+1,rfl,hib,by omega,(scanSorted_go hl).symm.trans h3⟩,by omega⟩
   ·exact .done (hjj _ (by rw [← h3,zq hl]))
  ·have hc:=of_decide_eq_true hc
   rw [bP (x:=(i:Int) - 1) (n:=i - 1) (by omega) (by omega)]
   exact ⟨kC (by omega),kC (by omega)⟩
theorem scanUp_go {p:Int→Bool} (h:(decide (i≤j)&&p d[i]!)=true):scanUp p d j i=scanUp p d j (i+1):=by rw [scanUp,if_pos h]
theorem scanUp_end {p:Int→Bool} (h : ¬ (decide (i≤j)&&p d[i]!)=true):scanUp p d j i=i:=by rw [scanUp,if_neg h]
theorem scanDown_go {p:Int→Bool} (h:(decide (i≤j)&&p d[j]!)=true) (hj:0<j):scanDown p d i j=scanDown p d i (j - 1):=by
 obtain ⟨j,rfl⟩:∃ j',j=j' + 1:=⟨j - 1,by omega⟩
 rw [scanDown,if_pos h];rfl
theorem scanDown_end {p:Int→Bool} (h : ¬ (decide (i≤j)&&p d[j]!)=true):scanDown p d i j=j:=by
 cases j with
 | zero=>rfl
 | succ j=>rw [scanDown,if_neg h]
theorem ji (p q:Int→Bool) (hq:∀ x,q x = !p x) (hi:0<i) (hij:i≤j+1):i≤scanUp p d j i∧scanUp p d j i≤j+1∧scanDown q d (scanUp p d j i) j≤j∧scanUp p d j i≤scanDown q d (scanUp p d j i) j+1∧(¬ scanUp p d j i>scanDown q d (scanUp p d j i) j→scanUp p d j i<scanDown q d (scanUp p d j i) j):=by
 obtain ⟨h1,h2,h3,h4,_,_,h5⟩:=round_facts p q hq d (i - 1) (j+1) i j (by omega) hij (fun t h1 h2=>by omega) (fun t h1 h2=>by omega)
 exact ⟨h1,h2,h3,h4,fun h=>(h5 h).2.2⟩
section
variable {ρ:Type} {p:Int→Bool} {body:Int→Option (Int ⊕ ρ)} {J:Int→Option ρ} {Q:ρ→Prop}
theorem FN (hij:i≤j+1) (hbody:∀ n:Nat,i≤n→n≤j+1→body (n:Int)=if (decide (n≤j)&&p d[n]!)=true then turn (((n+1:Nat)):Int) else done (J n)) (h:Def (J (scanUp p d j i:Nat)) Q):Def (aJ body (i:Int)) Q:=by
 refine Def.loop (fun s:Int=>∃ n:Nat,s=n∧i≤n∧n≤j+1∧scanUp p d j n=scanUp p d j i) (fun s=>(j+1 - s).toNat) ⟨i,rfl,Nat.le_refl _,hij,rfl⟩ ?_
 rintro _ ⟨n,rfl,h1,h2,h3⟩
 rw [hbody n h1 h2]
 refine Def.ite (fun hc=>?_) (fun hc=>?_)
 ·have hn:n≤j:=by rw [Bool.and_eq_true,decide_eq_true_eq] at hc;exact hc.1
  exact .turn ⟨⟨n+1,rfl,by omega,by omega,(scanUp_go hc).symm.trans h3⟩,by omega⟩
 ·rw [← h3,scanUp_end hc] at h
  exact .done h
theorem yR (hi:0<i) (hij:i≤j+1) (hbody:∀ n:Nat,n≤j→i≤n+1→body (n:Int)=if (decide (i≤n)&&p d[n]!)=true then turn (((n - 1:Nat)):Int) else done (J n)) (h:Def (J (scanDown p d i j:Nat)) Q):Def (aJ body (j:Int)) Q:=by
 refine Def.loop (fun s:Int=>∃ n:Nat,s=n∧n≤j∧i≤n+1∧scanDown p d i n=scanDown p d i j) (fun s=>s.toNat) ⟨j,rfl,Nat.le_refl _,hij,rfl⟩ ?_
 rintro _ ⟨n,rfl,h1,h2,h3⟩
 rw [hbody n h1 h2]
 refine Def.ite (fun hc=>?_) (fun hc=>?_)
 ·have hn:i≤n:=by rw [Bool.and_eq_true,decide_eq_true_eq] at hc;exact hc.1
  exact .turn ⟨⟨n - 1,rfl,by omega,by omega,(scanDown_go hc (by omega)).symm.trans h3⟩,by omega⟩
 ·rw [← h3,scanDown_end hc] at h
  exact .done h
end
theorem JL:decide ((i:Int)≤(j:Int))=decide (i≤j):=by simp only [decide_eq_decide];omega
theorem yS {lt:Int→Int→Bool}:∀ (n i j:Nat) (d:Array Int),j+1 - i≤n→0<i→i≤j+1→i≤(partEqLoop lt a i j d).1∧(partEqLoop lt a i j d).1≤j+1∧(partEqLoop lt a i j d).2.size=d.size
 | 0,i,j,d,h,hi,hij=>by
  rw [partEqLoop_eq]
  obtain ⟨h1,h2,h3,h4,h5⟩:=ji (d:=d) (fun x=>!lt d[a]! x) (fun x=>lt d[a]! x) (fun x=>by simp) hi hij
  rw [if_pos (by omega)]
  exact ⟨h1,h2,rfl⟩
 | n+1,i,j,d,h,hi,hij=>by
  rw [partEqLoop_eq]
  obtain ⟨h1,h2,h3,h4,h5⟩:=ji (d:=d) (fun x=>!lt d[a]! x) (fun x=>lt d[a]! x) (fun x=>by simp) hi hij
  split
  ·exact ⟨h1,h2,rfl⟩
  ·rename_i hc
   have h5:=h5 hc
   obtain ⟨k1,k2,k3⟩:=yS (lt:=lt) n (scanUp (fun x=>!lt d[a]! x) d j i+1) (scanDown (fun x=>lt d[a]! x) d (scanUp (fun x=>!lt d[a]! x) d j i) j - 1) (swp d (scanUp (fun x=>!lt d[a]! x) d j i) (scanDown (fun x=>lt d[a]! x) d (scanUp (fun x=>!lt d[a]! x) d j i) j)) (by omega) (by omega) (by omega)
   exact ⟨by omega,by omega,by rw [k3,size_swp]⟩
theorem FP {lt:Int→Int→Bool}:∀ (n i j:Nat) (d:Array Int),j+1 - i≤n→0<i→i≤j+1→i≤(partLoop lt a i j d).1+1∧(partLoop lt a i j d).1≤j∧(partLoop lt a i j d).2.size=d.size
 | 0,i,j,d,h,hi,hij=>by
  rw [partLoop_eq]
  obtain ⟨h1,h2,h3,h4,h5⟩:=ji (d:=d) (fun x=>lt x d[a]!) (fun x=>!lt x d[a]!) (fun x=>rfl) hi hij
  rw [if_pos (by omega)]
  exact ⟨by simp only;omega,h3,rfl⟩
 | n+1,i,j,d,h,hi,hij=>by
  rw [partLoop_eq]
  obtain ⟨h1,h2,h3,h4,h5⟩:=ji (d:=d) (fun x=>lt x d[a]!) (fun x=>!lt x d[a]!) (fun x=>rfl) hi hij
  split
  ·exact ⟨by simp only;omega,h3,rfl⟩
  ·rename_i hc
   have h5:=h5 hc
   obtain ⟨k1,k2,k3⟩:=FP (lt:=lt) n (scanUp (fun x=>lt x d[a]!) d j i+1) (scanDown (fun x=>!lt x d[a]!) d (scanUp (fun x=>lt x d[a]!) d j i) j - 1) (swp d (scanUp (fun x=>lt x d[a]!) d j i) (scanDown (fun x=>!lt x d[a]!) d (scanUp (fun x=>lt x d[a]!) d j i) j)) (by omega) (by omega) (by omega)
   exact ⟨by omega,by omega,by rw [k3,size_swp]⟩
theorem YQ {pv:Nat} (hb:b≤d.size) (hn:d.size≤1000) (ha:a≤pv) (hp:pv<b):F78 d.toList a b pv=some ((partitionEqual ltInt d a b pv).2.toList,((partitionEqual ltInt d a b pv).1:Int)):=by
 refine Def.eq ?_
 unfold F78
 rw [oU (by omega) (by omega),aK,bP (x:=(a:Int)+1) (n:=a+1) (by omega) (by omega),bP (x:=(b:Int) - 1) (n:=b - 1) (by omega) (by omega)]
 refine Def.loop (fun s=>∃ (i j:Nat) (d' : Array Int),s=((i:Int),(j:Int),d'.toList)∧d'.size=d.size∧a+1≤i∧i≤j+1∧j<b∧partEqLoop ltInt a i j d' = partitionEqual ltInt d a b pv) (fun s=>(s.2.1+1 - s.1).toNat) ⟨a+1,b - 1,swp d a pv,rfl,size_swp _ _ _,Nat.le_refl _,by omega,by omega,rfl⟩ ?_
 rintro s ⟨i,j,d',rfl,h1,h2,h3,h4,h5⟩
 obtain ⟨r1,r2,r3,r4,r5⟩:=ji (d:=d') (i:=i) (j:=j) (fun x=>!ltInt d'[a]! x) (fun x=>ltInt d'[a]! x) (fun x=>by simp) (by omega) h3
 refine Def.aS (fun s:Int=>s=(scanUp (fun x=>!ltInt d'[a]! x) d' j i:Int)) ?_ ?_
 ·rintro _ rfl
  generalize hi2:scanUp (fun x=>!ltInt d'[a]! x) d' j i=i2 at r1 r2 r3 r4 r5
  refine Def.aS (fun s:Int=>s=(scanDown (fun x=>ltInt d'[a]! x) d' i2 j:Int)) ?_ ?_
  ·rintro _ rfl
   generalize hj2:scanDown (fun x=>ltInt d'[a]! x) d' i2 j=j2 at r1 r2 r3 r4 r5
   have hstep:=partEqLoop_eq ltInt a i j d'
   rw [hi2,hj2,h5] at hstep
   refine Def.ite (fun hc=>?_) (fun hc=>?_)
   ·have hc:=of_decide_eq_true hc
    refine .done (.ret ?_)
    rw [hstep,if_pos (by omega)]
   ·have hc : ¬ i2>j2:=fun h=>hc (decide_eq_true (by omega))
    have r5:=r5 hc
    simp only
    rw [oU (by omega) (by omega),bP (x:=(i2:Int)+1) (n:=i2+1) (by omega) (by omega),bP (x:=(j2:Int) - 1) (n:=j2 - 1) (by omega) (by omega)]
    rw [if_neg hc] at hstep
    exact .turn ⟨⟨i2+1,j2 - 1,_,rfl,by rw [size_swp];exact h1,by omega,by omega,by omega,hstep.symm⟩,by simp only;omega⟩
  ·intro jj hjj
   refine yR (p:=fun x=>ltInt d'[a]! x) (d:=d') (J:=jj) (by omega) r2 (fun n k1 k2=>?_) (hjj _ rfl)
   rw [grd (p:=d'[a]!) (q:=d'[n]!) (fun hc=>?_)]
   ·rw [Dt,JL]
    by_cases hc:(decide (i2≤n)&&ltInt d'[a]! d'[n]!)=true
    ·have:=hc
     rw [Bool.and_eq_true,decide_eq_true_eq] at this
     rw [if_pos hc,if_pos hc,bP (x:=(n:Int) - 1) (n:=n - 1) (by omega) (by omega)]
    ·rw [if_neg hc,if_neg hc]
   ·have hc:=of_decide_eq_true hc
    exact ⟨kC (d:=d') (by omega),kC (d:=d') (by omega)⟩
 ·intro jj hjj
  refine FN (p:=fun x=>!ltInt d'[a]! x) (d:=d') (J:=jj) h3 (fun n k1 k2=>?_) (hjj _ rfl)
  rw [grd (p:=d'[a]!) (q:=d'[n]!) (fun hc=>?_)]
  ·rw [Du,JL,bP (x:=(n:Int)+1) (n:=n+1) (by omega) (by omega)]
  ·have hc:=of_decide_eq_true hc
   simp only at hc
   exact ⟨kC (d:=d') (by omega),kC (d:=d') (by omega)⟩
theorem YR {pv:Nat} (hb:b≤d.size) (hn:d.size≤1000) (ha:a≤pv) (hp:pv<b):F79 d.toList a b pv=some ((partition ltInt d a b pv).2.2.toList,((partition ltInt d a b pv).1:Int),(partition ltInt d a b pv).2.1):=by
 refine Def.eq ?_
 unfold F79
 rw [oU (by omega) (by omega),bP (x:=(a:Int)+1) (n:=a+1) (by omega) (by omega),bP (x:=(b:Int) - 1) (n:=b - 1) (by omega) (by omega)]
 generalize hd1:swp d a pv=d1
 have hs1:d1.size=d.size:=by rw [← hd1,size_swp]
 obtain ⟨r1,r2,r3,r4,r5⟩:=ji (d:=d1) (i:=a+1) (j:=b - 1) (fun x=>ltInt x d1[a]!) (fun x=>!ltInt x d1[a]!) (fun x=>rfl) (by omega) (by omega)
 have hpt:partition ltInt d a b pv=(if scanUp (fun x=>ltInt x d1[a]!) d1 (b - 1) (a+1)>scanDown (fun x=>!ltInt x d1[a]!) d1 (scanUp (fun x=>ltInt x d1[a]!) d1 (b - 1) (a+1)) (b - 1) then
   (scanDown (fun x=>!ltInt x d1[a]!) d1 (scanUp (fun x=>ltInt x d1[a]!) d1 (b - 1) (a+1)) (b - 1),true,swp d1 (scanDown (fun x=>!ltInt x d1[a]!) d1 (scanUp (fun x=>ltInt x d1[a]!) d1 (b - 1) (a+1)) (b - 1)) a) else
   ((partLoop ltInt a (scanUp (fun x=>ltInt x d1[a]!) d1 (b - 1) (a+1)+1) (scanDown (fun x=>!ltInt x d1[a]!) d1 (scanUp (fun x=>ltInt x d1[a]!) d1 (b - 1) (a+1)) (b - 1) - 1) (swp d1 (scanUp (fun x=>ltInt x d1[a]!) d1 (b - 1) (a+1)) (scanDown (fun x=>!ltInt x d1[a]!) d1 (scanUp (fun x=>ltInt x d1[a]!) d1 (b - 1) (a+1)) (b - 1)))).1,false,
    swp (partLoop ltInt a (scanUp (fun x=>ltInt x d1[a]!) d1 (b - 1) (a+1)+1) (scanDown (fun x=>!ltInt x d1[a]!) d1 (scanUp (fun x=>ltInt x d1[a]!) d1 (b - 1) (a+1)) (b - 1) - 1) (swp d1 (scanUp (fun x=>ltInt x d1[a]!) d1 (b - 1) (a+1)) (scanDown (fun x=>!ltInt x d1[a]!) d1 (scanUp (fun x=>ltInt x d1[a]!) d1 (b - 1) (a+1)) (b - 1)))).2
     (partLoop ltInt a (scanUp (fun x=>ltInt x d1[a]!) d1 (b - 1) (a+1)+1) (scanDown (fun x=>!ltInt x d1[a]!) d1 (scanUp (fun x=>ltInt x d1[a]!) d1 (b - 1) (a+1)) (b - 1) - 1) (swp d1 (scanUp (fun x=>ltInt x d1[a]!) d1 (b - 1) (a+1)) (scanDown (fun x=>!ltInt x d1[a]!) d1 (scanUp (fun x=>ltInt x d1[a]!) d1 (b - 1) (a+1)) (b - 1)))).1 a)):=by
  unfold partition
  rw [hd1]
 have up:∀ {ρ:Type} {J:Int→Option ρ} {Q:ρ→Prop} (d' : Array Int) (i j:Nat),d'.size=d.size→i≤j+1→j<b→a<b→Def (J (scanUp (fun x=>ltInt x d'[a]!) d' j i:Nat)) Q →
   Def (aJ (fun s=>Option.bind (if (decide (s≤(j:Int))&&true)=true then aB d'.toList s else some (0:Int)) fun _=>Option.bind (if (decide (s≤(j:Int))&&true)=true then aB d'.toList s else some (0:Int)) fun v=>Option.bind (if (decide (s≤(j:Int))&&true)=true then aB d'.toList (a:Int) else some (0:Int)) fun _ =>
    Option.bind (if (decide (s≤(j:Int))&&true)=true then aB d'.toList (a:Int) else some (0:Int)) fun u=>Option.bind (if (decide (s≤(j:Int))&&true)=true then F37 v u else some false) fun c=>if (if decide (s≤(j:Int))=true then c else false)=true then turn (IntKind.wrap .i64 (s+1)) else done (J s)) (i:Int)) Q:=by
  intro ρ J Q d' i j h1 h2 h3 h4 h
  refine FN (p:=fun x=>ltInt x d'[a]!) (d:=d') (J:=J) h2 (fun n k1 k2=>?_) h
  rw [grd (p:=d'[n]!) (q:=d'[a]!) (fun hc=>?_)]
  ·rw [Dt,JL,bP (x:=(n:Int)+1) (n:=n+1) (by omega) (by omega)]
  ·have hc:=of_decide_eq_true hc
   exact ⟨kC (d:=d') (by omega),kC (d:=d') (by omega)⟩
 have down:∀ {ρ:Type} {J:Int→Option ρ} {Q:ρ→Prop} (d' : Array Int) (i j:Nat),d'.size=d.size→0<i→i≤j+1→j<b→a<b→Def (J (scanDown (fun x=>!ltInt x d'[a]!) d' i j:Nat)) Q →
   Def (aJ (fun s=>Option.bind (if (decide ((i:Int)≤s)&&true)=true then aB d'.toList s else some (0:Int)) fun _=>Option.bind (if (decide ((i:Int)≤s)&&true)=true then aB d'.toList s else some (0:Int)) fun v=>Option.bind (if (decide ((i:Int)≤s)&&true)=true then aB d'.toList (a:Int) else some (0:Int)) fun _ =>
    Option.bind (if (decide ((i:Int)≤s)&&true)=true then aB d'.toList (a:Int) else some (0:Int)) fun u=>Option.bind (if (decide ((i:Int)≤s)&&true)=true then F37 v u else some false) fun c=>if (if decide ((i:Int)≤s)=true then (!c) else false)=true then turn (IntKind.wrap .i64 (s - 1)) else done (J s)) (j:Int)) Q:=by
  intro ρ J Q d' i j h1 h0 h2 h3 h4 h
  refine yR (p:=fun x=>!ltInt x d'[a]!) (d:=d') (J:=J) h0 h2 (fun n k1 k2=>?_) h
  rw [grd (p:=d'[n]!) (q:=d'[a]!) (fun hc=>?_)]
  ·rw [Du,JL]
   by_cases hc:(decide (i≤n) && !ltInt d'[n]! d'[a]!)=true
   ·have:=hc
    rw [Bool.and_eq_true,decide_eq_true_eq] at this
    rw [if_pos hc,if_pos hc,bP (x:=(n:Int) - 1) (n:=n - 1) (by omega) (by omega)]
   ·rw [if_neg hc,if_neg hc]
  ·have hc:=of_decide_eq_true hc
   exact ⟨kC (d:=d') (by omega),kC (d:=d') (by omega)⟩
 rw [hpt]
 refine Def.aS (fun s:Int=>s=(scanUp (fun x=>ltInt x d1[a]!) d1 (b - 1) (a+1):Int)) ?_ (fun jj hjj=>up (J:=jj) d1 (a+1) (b - 1) hs1 (by omega) (by omega) (by omega) (hjj _ rfl))
 rintro _ rfl
 generalize scanUp (fun x=>ltInt x d1[a]!) d1 (b - 1) (a+1)=i2 at r1 r2 r3 r4 r5 ⊢
 refine Def.aS (fun s:Int=>s=(scanDown (fun x=>!ltInt x d1[a]!) d1 i2 (b - 1):Int)) ?_ (fun jj hjj=>down (J:=jj) d1 i2 (b - 1) hs1 (by omega) (by omega) (by omega) (by omega) (hjj _ rfl))
 rintro _ rfl
 generalize scanDown (fun x=>!ltInt x d1[a]!) d1 i2 (b - 1)=j2 at r1 r2 r3 r4 r5 ⊢
 refine Def.ite (fun hc=>?_) (fun hc=>?_)
 ·have hc:=of_decide_eq_true hc
  rw [oU (by omega) (by omega),if_pos (by omega)]
  exact .ret rfl
 ·have hc : ¬ i2>j2:=fun h=>hc (decide_eq_true (by omega))
  have r5:=r5 hc
  rw [oU (by omega) (by omega),if_neg hc,bP (x:=(i2:Int)+1) (n:=i2+1) (by omega) (by omega),bP (x:=(j2:Int) - 1) (n:=j2 - 1) (by omega) (by omega)]
  obtain ⟨R,hR⟩:∃ R,R=partLoop ltInt a (i2+1) (j2 - 1) (swp d1 i2 j2):=⟨_,rfl⟩
  obtain ⟨z1,z2,z3⟩:=FP (lt:=ltInt) (a:=a) (j2 - 1+1 - (i2+1)) (i2+1) (j2 - 1) (swp d1 i2 j2) (Nat.le_refl _) (by omega) (by omega)
  rw [← hR] at z1 z2 z3
  rw [size_swp] at z3
  rw [← hR]
  refine Def.aS (fun s:Int×List Int=>s=((R.1:Int),R.2.toList)) ?_ ?_
  ·rintro _ rfl
   simp only
   rw [oU (by omega) (by omega)]
   exact .ret rfl
  ·intro jj hjj
   refine Def.loop (fun s=>∃ (i j:Nat) (d' : Array Int),s=((i:Int),(j:Int),d'.toList)∧d'.size=d.size∧a+1≤i∧i≤j+1∧j<b∧partLoop ltInt a i j d' = R) (fun s=>(s.2.1+1 - s.1).toNat) ⟨i2+1,j2 - 1,swp d1 i2 j2,rfl,by rw [size_swp];exact hs1,by omega,by omega,by omega,hR.symm⟩ ?_
   rintro s ⟨i,j,d',rfl,h1,h2,h3,h4,h5⟩
   obtain ⟨r1,r2,r3,r4,r5⟩:=ji (d:=d') (i:=i) (j:=j) (fun x=>ltInt x d'[a]!) (fun x=>!ltInt x d'[a]!) (fun x=>rfl) (by omega) h3
   have hstep:=partLoop_eq ltInt a i j d'
   rw [h5] at hstep
   refine Def.aS (fun s:Int=>s=(scanUp (fun x=>ltInt x d'[a]!) d' j i:Int)) ?_ (fun j3 hj3=>up (J:=j3) d' i j h1 h3 h4 (by omega) (hj3 _ rfl))
   rintro _ rfl
   generalize scanUp (fun x=>ltInt x d'[a]!) d' j i=i3 at r1 r2 r3 r4 r5 hstep ⊢
   refine Def.aS (fun s:Int=>s=(scanDown (fun x=>!ltInt x d'[a]!) d' i3 j:Int)) ?_ (fun j3 hj3=>down (J:=j3) d' i3 j h1 (by omega) r2 h4 (by omega) (hj3 _ rfl))
   rintro _ rfl
   generalize scanDown (fun x=>!ltInt x d'[a]!) d' i3 j=j3 at r1 r2 r3 r4 r5 hstep ⊢
   refine Def.ite (fun hc=>?_) (fun hc=>?_)
   ·have hc:=of_decide_eq_true hc
    rw [if_pos (by omega)] at hstep
    exact .done (hjj _ (by rw [hstep]))
   ·have hc : ¬ i3>j3:=fun h=>hc (decide_eq_true (by omega))
    have r5:=r5 hc
    rw [if_neg hc] at hstep
    simp only
    rw [oU (by omega) (by omega),bP (x:=(i3:Int)+1) (n:=i3+1) (by omega) (by omega),bP (x:=(j3:Int) - 1) (n:=j3 - 1) (by omega) (by omega)]
    exact .turn ⟨⟨i3+1,j3 - 1,_,rfl,by rw [size_swp];exact h1,by omega,by omega,by omega,hstep.symm⟩,by simp only;omega⟩
theorem Xx:∀ n:Fin 64,F56 ((n.1:Nat):Int)=some ((bitsLen n.1:Nat):Int):=by decide +kernel
theorem Xy:∀ n:Fin 64,F93 ((n.1:Nat):Int)=some (((1 <<< bitsLen n.1:Nat)):Int):=by decide +kernel
theorem wrap_u64 {x:Int} {n:Nat} (h:x=n) (hn:n<18446744073709551616):IntKind.wrap .u64 x=n:=by rw [h,wrap_in (by simp [inR];omega)]
theorem Ip {x y:Nat} (hx:x<18446744073709551616) (hy:y<18446744073709551616):tJ .u64 (x:Int) (y:Int)=((x ^^^ y:Nat):Int)∧x ^^^ y<18446744073709551616:=by
 have h:x ^^^ y<2 ^ 64:=Nat.xor_lt_two_pow (by omega) (by omega)
 have h2:(BitVec.ofInt 64 (x:Int) ^^^ BitVec.ofInt 64 (y:Int)).toNat=x ^^^ y:=by
  rw [BitVec.toNat_xor,BitVec.ofInt_natCast,BitVec.ofInt_natCast,BitVec.toNat_ofNat,BitVec.toNat_ofNat,Nat.mod_eq_of_lt (by omega),Nat.mod_eq_of_lt (by omega)]
 refine ⟨?_,by omega⟩
 unfold tJ
 show IntKind.wrap .u64 ((BitVec.ofInt 64 (x:Int) ^^^ BitVec.ofInt 64 (y:Int)).toNat:Int)=_
 rw [h2]
 exact wrap_u64 rfl (by omega)
theorem Xz {x y:Nat} (hx:x<18446744073709551616) (hy:y<18446744073709551616):LZ .u64 (x:Int) (y:Int)=((x &&& y:Nat):Int):=by
 have h:x &&& y≤y:=Nat.and_le_right
 have h2:(BitVec.ofInt 64 (x:Int) &&& BitVec.ofInt 64 (y:Int)).toNat=x &&& y:=by
  rw [BitVec.toNat_and,BitVec.ofInt_natCast,BitVec.ofInt_natCast,BitVec.toNat_ofNat,BitVec.toNat_ofNat,Nat.mod_eq_of_lt (by omega),Nat.mod_eq_of_lt (by omega)]
 unfold LZ
 show IntKind.wrap .u64 ((BitVec.ofInt 64 (x:Int) &&& BitVec.ofInt 64 (y:Int)).toNat:Int)=_
 rw [h2]
 exact wrap_u64 rfl (by omega)
theorem Qr {x k:Nat} (hk:k≤63):UQ .u64 (x:Int) (k:Int)=some ((x * 2 ^ k % 18446744073709551616:Nat):Int):=by
 rw [UQ,if_pos (by omega)]
 congr 1
 show IntKind.wrap .u64 ((x:Int) * 2 ^ (min ((k:Int)).toNat 64))=_
 rw [Int.toNat_natCast,Nat.min_eq_left (by omega)]
 show ((x:Int) * 2 ^ k) % 18446744073709551616=_
 rw [Int.natCast_emod,Int.natCast_mul,Int.natCast_pow];rfl
theorem XA {x k:Nat} (hk:k≤63):Aw .u64 (x:Int) (k:Int)=some ((x / 2 ^ k:Nat):Int):=by
 rw [Aw,if_pos (by omega)]
 congr 1
 show ((x:Int)).fdiv (2 ^ (min ((k:Int)).toNat 64))=_
 rw [Int.toNat_natCast,Nat.min_eq_left (by omega),Int.fdiv_eq_ediv_of_nonneg _ (Int.le_of_lt (Int.pow_pos (by decide)))]
 rw [Int.natCast_ediv,Int.natCast_pow];rfl
def stp (a len m idx:Nat) (d:Array Int):Nat→UInt64×Array Int
 | 0=>(UInt64.ofNat len,d)
 | t+1=>breakStep a len m (stp a len m idx d t) (idx+t)
theorem JM {len m idx:Nat}:∀ t,(stp a len m idx d t).2.size=d.size
 | 0=>rfl
 | t+1=>by simp only [stp,breakStep,size_swp,JM t]
theorem YS (hb:b≤d.size) (hn:d.size≤1000) (ha:a<b) (h50:b - a<50):F74 d.toList a b=some ((breakPatterns d a b).toList,()):=by
 refine Def.eq ?_
 unfold F74
 rw [aK,bP (x:=(b:Int) - (a:Int)) (n:=b - a) (by omega) (by omega)]
 refine Def.ite (fun hc=>?_) (fun hc=>?_)
 ·have hc:=of_decide_eq_true hc
  have h8:b - a≥8:=by omega
  have hp:=Xy ⟨b - a,by omega⟩
  simp only at hp
  obtain ⟨m,hm⟩:∃ m,m=1 <<< bitsLen (b - a):=⟨_,rfl⟩
  have hm2:m≤2 * (b - a):=by rw [hm,Nat.one_shiftLeft];exact two_pow_bitsLen_le (by omega)
  have hm1:0<m:=by rw [hm,Nat.one_shiftLeft];exact Nat.two_pow_pos _
  rw [← hm] at hp
  have w3:DI .i64 ((b - a:Nat):Int) 4=some (((b - a) / 4:Nat):Int):=by
   rw [DI,if_pos (by decide)]
   have:(((b - a:Nat):Int)).tdiv 4=(((b - a) / 4:Nat):Int):=by rw [Int.tdiv_eq_ediv_of_nonneg (by omega)];omega
   rw [this,wrap_i64 (by omega) (by omega)]
  have m2:IntKind.wrap .i64 ((((b - a) / 4:Nat):Int) * 2)=(((b - a) / 4 * 2:Nat):Int):=bP (by omega) (by omega)
  have a2:IntKind.wrap .i64 ((a:Int)+(((b - a) / 4 * 2:Nat):Int))=((a+(b - a) / 4 * 2:Nat):Int):=bP (by omega) (by omega)
  have a3:IntKind.wrap .i64 (((a+(b - a) / 4 * 2:Nat):Int) - 1)=((a+(b - a) / 4 * 2 - 1:Nat):Int):=bP (by omega) (by omega)
  have a4:IntKind.wrap .i64 (((a+(b - a) / 4 * 2:Nat):Int)+1)=((a+(b - a) / 4 * 2+1:Nat):Int):=bP (by omega) (by omega)
  have u1:IntKind.wrap .u64 ((b - a:Nat):Int)=((b - a:Nat):Int):=wrap_u64 rfl (by omega)
  have u2:IntKind.wrap .u64 ((m:Int) - 1)=((m - 1:Nat):Int):=wrap_u64 (by omega) (by omega)
  simp only [hp,w3,Option.bind_some,m2,a2,a3,a4,u1,u2]
  rw [aK]
  generalize hidx:a+(b - a) / 4 * 2 - 1=idx
  refine Def.loop (fun s=>∃ t,t≤3∧s=(((idx+t:Nat):Int),((stp a (b - a) m idx d t).1.toNat:Int),(stp a (b - a) m idx d t).2.toList)) (fun s=>(idx+3 - s.1).toNat) ⟨0,by omega,by simp [stp,UInt64.toNat_ofNat];omega⟩ ?_
  rintro s ⟨t,ht,rfl⟩
  refine Def.ite (fun hc=>?_) (fun hc=>?_)
  ·have hc:=of_decide_eq_true hc
   simp only at hc ⊢
   have ht:t<3:=by omega
   have hsz:=JM (a:=a) (d:=d) (len:=b - a) (m:=m) (idx:=idx) t
   generalize hst:stp a (b - a) m idx d t=st at hsz ⊢
   obtain ⟨r,d'⟩:=st
   simp only at hsz ⊢
   have hr:=r.toNat_lt
   have s1:=Qr (x:=r.toNat) (k:=13) (by omega)
   rw [show ((13:Nat):Int)=13 from rfl] at s1
   rw [s1,Option.bind_some]
   have x1:=Ip (x:=r.toNat) (y:=r.toNat * 2 ^ 13 % 18446744073709551616) (by omega) (Nat.mod_lt _ (by decide))
   rw [x1.1]
   have s2:=XA (x:=r.toNat ^^^ r.toNat * 2 ^ 13 % 18446744073709551616) (k:=7) (by omega)
   rw [show ((7:Nat):Int)=7 from rfl] at s2
   rw [s2,Option.bind_some]
   have x2:=Ip x1.2 (y:=(r.toNat ^^^ r.toNat * 2 ^ 13 % 18446744073709551616) / 2 ^ 7) (by have:=x1.2;omega)
   rw [x2.1]
   have s3:=Qr (x:=(r.toNat ^^^ r.toNat * 2 ^ 13 % 18446744073709551616) ^^^ (r.toNat ^^^ r.toNat * 2 ^ 13 % 18446744073709551616) / 2 ^ 7) (k:=17) (by omega)
   rw [show ((17:Nat):Int)=17 from rfl] at s3
   rw [s3,Option.bind_some]
   have x3:=Ip x2.2 (y:=((r.toNat ^^^ r.toNat * 2 ^ 13 % 18446744073709551616) ^^^ (r.toNat ^^^ r.toNat * 2 ^ 13 % 18446744073709551616) / 2 ^ 7) * 2 ^ 17 % 18446744073709551616) (Nat.mod_lt _ (by decide))
   rw [x3.1]
   have hx:((r.toNat ^^^ r.toNat * 2 ^ 13 % 18446744073709551616) ^^^ (r.toNat ^^^ r.toNat * 2 ^ 13 % 18446744073709551616) / 2 ^ 7) ^^^ ((r.toNat ^^^ r.toNat * 2 ^ 13 % 18446744073709551616) ^^^ (r.toNat ^^^ r.toNat * 2 ^ 13 % 18446744073709551616) / 2 ^ 7) * 2 ^ 17 % 18446744073709551616=(xorNext r).toNat:=by
    rw [xorNext_toNat];rfl
   rw [hx]
   have hr':=(xorNext r).toNat_lt
   rw [Xz (by omega) (by omega)]
   have hle:(xorNext r).toNat &&& (m - 1)≤m - 1:=Nat.and_le_right
   obtain ⟨q,hq⟩:∃ q,q=(xorNext r).toNat &&& (m - 1):=⟨_,rfl⟩
   rw [← hq] at hle ⊢
   have hnext:stp a (b - a) m idx d (t+1)=(xorNext r,swp d' (idx+t) (a+(if q≥b - a then q - (b - a) else q))):=by
    simp only [stp,breakStep,hst,hq]
   rw [bP (x:=(q:Int)) (n:=q) rfl (by omega)]
   refine Def.aS (fun s:Int=>s=((if q≥b - a then q - (b - a) else q:Nat):Int)) ?_ ?_
   ·rintro _ rfl
    have hlt:(if q≥b - a then q - (b - a) else q)<b - a:=by split <;> omega
    generalize (if q≥b - a then q - (b - a) else q)=o at hlt hnext ⊢
    rw [bP (x:=(a:Int)+(o:Int)) (n:=a+o) (by omega) (by omega),oU (by omega) (by omega),bP (x:=((idx+t:Nat):Int)+1) (n:=idx+(t+1)) (by omega) (by omega)]
    exact .turn ⟨⟨t+1,by omega,by rw [hnext]⟩,by simp only;omega⟩
   ·intro jj hjj
    refine Def.ite (fun hc=>?_) (fun hc=>?_)
    ·have hc:=of_decide_eq_true hc
     rw [bP (x:=(q:Int) - ((b - a:Nat):Int)) (n:=q - (b - a)) (by omega) (by omega)]
     exact hjj _ (by rw [if_pos (by omega)])
    ·have hc : ¬ q≥b - a:=fun h=>hc (decide_eq_true (by omega))
     exact hjj _ (by rw [if_neg hc])
  ·have hc : ¬ idx+t≤a+(b - a) / 4 * 2+1:=fun h=>hc (decide_eq_true (by simp only;omega))
   have:t=3:=by omega
   subst this
   refine .done (.ret ?_)
   simp only [breakPatterns,if_pos h8,← hm,hidx,stp,Nat.add_zero]
 ·simp only [decide_eq_true_eq] at hc
  refine .ret ?_
  rw [breakPatterns,if_neg (by omega)]
theorem Qs (h50:b - a<50):partialInsertionSort ltInt d a b=(d,decide (scanSorted ltInt d b (a+1)=b)):=by
 unfold partialInsertionSort
 rw [partialIns]
 simp only [if_pos h50]
 split
 ·rename_i h;rw [h];simp
 ·rename_i h;simp [h]
theorem pdq_small {lt:Int→Int→Bool} {l:Nat} {wb wp:Bool} (h:b - a≤12):pdq lt d a b l wb wp=insertionSort lt d a b:=by rw [pdq,if_pos h]
theorem Qu {l:Nat} (hab:a≤b) (hb:b≤d.size) (hn:d.size≤1000) (h:b - a≤12):YD d.toList a b l=some ((pdq ltInt d a b l true true).toList,()):=by
 rw [pdq_small h]
 refine Def.eq ?_
 unfold YD
 rw [aK]
 refine Def.loop (fun s=>s=((a:Int),(b:Int),(l:Int),true,true,d.toList)) (fun s=>0) rfl ?_
 rintro _ rfl
 rw [aK,aK,bP (x:=(b:Int) - (a:Int)) (n:=b - a) (by omega) (by omega)]
 refine Def.ite (fun hc=>?_) (fun hc=>absurd (decide_eq_true (by omega)) hc)
 simp only
 rw [U1 hb hn (by omega),Option.bind_some]
 exact .done (.ret rfl)
theorem TY {h:Go.Sort.Hint}:(hnum h==2)=decide (h = .decreasing):=by cases h <;> rfl
theorem Ua {h:Go.Sort.Hint}:(hnum h==1)=decide (h = .increasing):=by cases h <;> rfl
theorem Qv {pv:Nat} (ha:a≤pv) (hp:pv<b):a<(partitionEqual ltInt d a b pv).1∧(partitionEqual ltInt d a b pv).1≤b∧(partitionEqual ltInt d a b pv).2.size=d.size:=by
 obtain ⟨h1,h2,h3⟩:=yS (lt:=ltInt) (a:=a) (b - 1+1 - (a+1)) (a+1) (b - 1) (swp d a pv) (Nat.le_refl _) (by omega) (by omega)
 exact ⟨h1,by unfold partitionEqual;omega,by unfold partitionEqual;rw [h3,size_swp]⟩
theorem Def.ZM {σ ρ:Type} {Q:ρ→Prop} (R:σ→Prop) {k:σ→Option ρ} {body:(σ→Option ρ)→Option ρ} (hb:∀ j:σ→Option ρ,(∀ s,R s→Def (j s) Q)→Def (body j) Q) (hk:∀ s,R s→Def (k s) Q):Def (aS k body) Q:=Def.aS R hk hb
theorem YT {l:Nat} (hab:a≤b) (hb:b≤d.size) (hn:d.size≤1000) (hl:l≤1000) (h:b - a≤25):F55 d.toList a b l=some ((pdq ltInt d a b l true true).toList,()):=by
 refine Def.eq ?_
 unfold F55
 rw [aK]
 refine Def.loop (fun s=>∃ (a' b' l' : Nat) (wb wp:Bool) (d' : Array Int),s=((a' : Int),(b' : Int),(l' : Int),wb,wp,d'.toList)∧a' ≤ b' ∧ b' ≤ d.size∧d'.size=d.size∧l' ≤ 1000∧b' - a' ≤ 25∧pdq ltInt d' a' b' l' wb wp=pdq ltInt d a b l true true) (fun s=>(s.2.1 - s.1).toNat) ⟨a,b,l,true,true,d,rfl,hab,hb,rfl,hl,h,rfl⟩ ?_
 rintro s ⟨x,y,l',wb,wp,d',rfl,h1,h2,h3,h4,h5,h6⟩
 generalize pdq ltInt d a b l true true=R at h6 ⊢
 rw [pdq] at h6
 rw [aK,aK]
 simp only
 rw [bP (x:=(y:Int) - (x:Int)) (n:=y - x) (by omega) (by omega)]
 refine Def.ite (fun hc=>?_) (fun hc=>?_)
 ·have hc:=of_decide_eq_true hc
  rw [if_pos (by omega)] at h6
  rw [U1 (by omega) (by omega) (by omega),Option.bind_some]
  exact .done (.ret (by rw [h6]))
 have hc : ¬ y - x≤12:=fun h=>hc (decide_eq_true (by omega))
 rw [if_neg hc] at h6
 refine Def.ite (fun hc0=>?_) (fun hc0=>?_)
 ·have hc0:=eq_of_beq hc0
  rw [if_pos (by omega)] at h6
  rw [YM (by omega) (by omega) (by omega),Option.bind_some]
  exact .done (.ret (by rw [h6]))
 have hc0 : ¬ l' = 0:=fun h=>hc0 (by rw [h];rfl)
 rw [if_neg hc0] at h6
 obtain ⟨d1,hd1⟩:∃ d1,d1=if (!wb)=true then breakPatterns d' x y else d':=⟨_,rfl⟩
 obtain ⟨l1,hl1⟩:∃ l1,l1=if (!wb)=true then l' - 1 else l':=⟨_,rfl⟩
 have s1:d1.size=d.size:=by
  rw [hd1];split
  ·rw [(breakPatterns_holds d' x y h1 (by omega)).1,h3]
  ·exact h3
 have hl1' : l1≤1000:=by rw [hl1];split <;> omega
 simp only [← hd1,← hl1] at h6
 refine Def.ZM (fun s:Int×List Int=>s=((l1:Int),d1.toList)) ?_ ?_
 ·intro jj hjj
  refine Def.ite (fun hw=>?_) (fun hw=>?_)
  ·rw [YS (by omega) (by omega) (by omega) (by omega),Option.bind_some,bP (x:=(l' : Int) - 1) (n:=l' - 1) (by omega) (by omega)]
   exact hjj _ (by rw [hd1,hl1,if_pos hw,if_pos hw])
  ·exact hjj _ (by rw [hd1,hl1,if_neg hw,if_neg hw])
 rintro _ rfl
 simp only
 rw [YO (by omega) (by omega) (by omega) (by omega),Option.bind_some]
 obtain ⟨c1,c2⟩:=choosePivot_holds ltInt d1 x y (by omega)
 generalize choosePivot ltInt d1 x y=c at c1 c2 h6 ⊢
 obtain ⟨cp,ch⟩:=c
 simp only at c1 c2 h6 ⊢
 obtain ⟨d2,hd2⟩:∃ d2,d2=if ch = .decreasing then reverseRange d1 x y else d1:=⟨_,rfl⟩
 obtain ⟨pv,hpv⟩:∃ pv,pv=if ch = .decreasing then (y - 1) - (cp - x) else cp:=⟨_,rfl⟩
 obtain ⟨hh,hhh⟩:∃ hh,hh=if ch = .decreasing then Go.Sort.Hint.increasing else ch:=⟨_,rfl⟩
 have s2:d2.size=d.size:=by
  rw [hd2];split
  ·rw [(reverseRange_holds d1 x y h1 (by omega)).1,s1]
  ·exact s1
 have p1:x≤pv∧pv<y:=by rw [hpv];split <;> omega
 simp only [← hd2,← hpv,← hhh] at h6
 refine Def.ZM (fun s:Int×Int×List Int=>s=((pv:Int),hnum hh,d2.toList)) ?_ ?_
 ·intro jj hjj
  rw [TY]
  refine Def.ite (fun hw=>?_) (fun hw=>?_)
  ·have hw:=of_decide_eq_true hw
   rw [YN (by omega) (by omega) (by omega),Option.bind_some,bP (x:=(y:Int) - 1) (n:=y - 1) (by omega) (by omega),bP (x:=(cp:Int) - (x:Int)) (n:=cp - x) (by omega) (by omega),bP (x:=((y - 1:Nat):Int) - ((cp - x:Nat):Int)) (n:=y - 1 - (cp - x)) (by omega) (by omega)]
   exact hjj _ (by rw [hd2,hpv,hhh,if_pos hw,if_pos hw,if_pos hw];rfl)
  ·have hw : ¬ ch = .decreasing:=fun h=>hw (decide_eq_true h)
   exact hjj _ (by rw [hd2,hpv,hhh,if_neg hw,if_neg hw,if_neg hw])
 rintro _ rfl
 simp only
 obtain ⟨pi,hpi⟩:∃ pi,pi=if (wb&&wp&&decide (hh = .increasing))=true then partialInsertionSort ltInt d2 x y else (d2,false):=⟨_,rfl⟩
 have hpi1:pi.1=d2:=by
  rw [hpi];split
  ·rw [Qs (by omega)]
  ·rfl
 have hcond:(if (if wb=true then wp else false)=true then (hnum hh==1) else false)=(wb&&wp&&decide (hh = .increasing)):=by
  rw [Ua];cases wb <;> cases wp <;> rfl
 rw [hcond]
 have h6' : (if pi.2=true then pi.1 else
   if (decide (x>0) && !ltInt pi.1[x - 1]! pi.1[pv]!)=true then
    match partitionEqual ltInt pi.1 x y pv with
    | (mid,d4)=>if _h:x<mid∧mid≤y then pdq ltInt d4 mid y l1 wb wp else d4
   else
    match partition ltInt pi.1 x y pv with
    | (mid,alreadyPartitioned,d4) =>
     if _h:x≤mid∧mid<y then
      if mid - x<y - mid then
       pdq ltInt (pdq ltInt d4 x mid l1 true true) (mid+1) y l1 (decide (mid - x≥(y - x) / 8)) alreadyPartitioned
      else
       pdq ltInt (pdq ltInt d4 (mid+1) y l1 true true) x mid l1 (decide (y - mid≥(y - x) / 8)) alreadyPartitioned
     else d4)=R:=by
  rw [← h6,hpi]
 clear h6
 refine Def.ZM (fun s:List Int=>s=d2.toList∧pi.2=false) ?_ ?_
 ·intro jj hjj
  refine Def.ite (fun hw=>?_) (fun hw=>?_)
  ·rw [if_pos hw] at hpi
   rw [YP (by omega) (by omega) (by omega) (by omega),Option.bind_some]
   simp only [← hpi]
   refine Def.ite (fun hq=>?_) (fun hq=>?_)
   ·rw [if_pos hq] at h6'
    exact .done (.ret (by rw [h6']))
   ·exact hjj _ ⟨by rw [hpi1],by simpa using hq⟩
  ·rw [if_neg hw] at hpi
   exact hjj _ ⟨rfl,by rw [hpi]⟩
 rintro _ ⟨rfl,hq⟩
 rw [if_neg (by rw [hq];simp),hpi1] at h6'
 have hg:decide ((x:Int)>0)=true→aB d2.toList (IntKind.wrap .i64 ((x:Int) - 1))=some d2[x - 1]! ∧ aB d2.toList (pv:Int)=some d2[pv]!:=fun hc=>by
  have hc:=of_decide_eq_true hc
  rw [bP (x:=(x:Int) - 1) (n:=x - 1) (by omega) (by omega)]
  exact ⟨kC (by omega),kC (by omega)⟩
 rw [grd hg]
 rw [Du,show decide ((x:Int)>0)=decide (x>0) by simp only [decide_eq_decide];omega]
 refine Def.ite (fun hw=>?_) (fun hw=>?_)
 ·rw [if_pos hw] at h6'
  rw [YQ (by omega) (by omega) p1.1 p1.2,Option.bind_some]
  obtain ⟨e1,e2,e3⟩:=Qv (d:=d2) p1.1 p1.2
  generalize partitionEqual ltInt d2 x y pv=r at e1 e2 e3 h6' ⊢
  obtain ⟨mid,d4⟩:=r
  simp only at e1 e2 e3 h6' ⊢
  rw [dif_pos ⟨e1,e2⟩] at h6'
  exact .turn ⟨⟨mid,y,l1,wb,wp,d4,rfl,e2,h2,by omega,hl1',by omega,h6'⟩,by simp only;omega⟩
 ·rw [if_neg hw] at h6'
  rw [YR (by omega) (by omega) p1.1 p1.2,Option.bind_some]
  obtain ⟨e1,e2,e3,_⟩:=partition_holds ltInt swo_ltInt d2 x y pv p1.1 p1.2 (by omega)
  have e3:=e3.1
  generalize partition ltInt d2 x y pv=r at e1 e2 e3 h6' ⊢
  obtain ⟨mid,ap,d4⟩:=r
  simp only at e1 e2 e3 h6' ⊢
  rw [dif_pos ⟨e1,e2⟩] at h6'
  have w3:DI .i64 ((y - x:Nat):Int) 8=some (((y - x) / 8:Nat):Int):=by
   rw [DI,if_pos (by decide)]
   have:(((y - x:Nat):Int)).tdiv 8=(((y - x) / 8:Nat):Int):=by rw [Int.tdiv_eq_ediv_of_nonneg (by omega)];omega
   rw [this,wrap_i64 (by omega) (by omega)]
  rw [w3,Option.bind_some,aK,bP (x:=(mid:Int) - (x:Int)) (n:=mid - x) (by omega) (by omega),bP (x:=(y:Int) - (mid:Int)) (n:=y - mid) (by omega) (by omega),bP (x:=(mid:Int)+1) (n:=mid+1) (by omega) (by omega)]
  have dg:∀ u:Nat,decide ((u:Int)≥(((y - x) / 8:Nat):Int))=decide (u≥(y - x) / 8):=fun u=>by simp only [decide_eq_decide];omega
  refine Def.ite (fun hm=>?_) (fun hm=>?_)
  ·have hm:=of_decide_eq_true hm
   rw [if_pos (by omega)] at h6'
   rw [Qu e1 (by omega) (by omega) (by omega),Option.bind_some,dg]
   have s5:(pdq ltInt d4 x mid l1 true true).size=d4.size:=by rw [pdq_small (by omega)];exact (insertionSort_holds swo_ltInt d4 x mid e1 (by omega)).1.1
   exact .turn ⟨⟨mid+1,y,l1,_,ap,pdq ltInt d4 x mid l1 true true,rfl,e2,h2,by omega,hl1',by omega,h6'⟩,by simp only;omega⟩
  ·have hm : ¬ mid - x<y - mid:=fun h=>hm (decide_eq_true (by omega))
   rw [if_neg hm] at h6'
   rw [Qu e2 (by omega) (by omega) (by omega),Option.bind_some,dg]
   have s5:(pdq ltInt d4 (mid+1) y l1 true true).size=d4.size:=by rw [pdq_small (by omega)];exact (insertionSort_holds swo_ltInt d4 (mid+1) y e2 (by omega)).1.1
   exact .turn ⟨⟨x,mid,l1,_,ap,pdq ltInt d4 (mid+1) y l1 true true,rfl,e1,by omega,by omega,hl1',by omega,h6'⟩,by simp only;omega⟩
end
theorem YU (l:List Int) (h:l.length≤25):F40 l=some (l.mergeSort (fun a b=>decide (a≤b)),()):=by
 unfold F40
 have h1:=Xx ⟨l.length,by omega⟩
 simp only at h1
 rw [wrap_u64 (n:=l.length) rfl (by omega),h1,Option.bind_some]
 have hbl:bitsLen l.length≤1000:=by
  have:=(bitsLen_le_iff l.length 10).2 (by omega)
  omega
 have h2:=YT (d:=l.toArray) (a:=0) (b:=l.length) (l:=bitsLen l.length) (by omega) (by simp) (by simp;omega) hbl (by omega)
 simp only [Int.natCast_zero] at h2
 rw [h2,Option.bind_some]
 have h3:=sortInt l
 unfold Go.Sort.sort at h3
 simp only [List.size_toArray] at h3
 rw [h3]
end Go.Fn
namespace Go.Fn
open Go Go.Ab Go.Tx
def tq (l:List D6) (root:Int):Option Int:=(l.find? fun o=>o.1 != root&&(aQ l o.1).isEmpty).map (·.1)
end Go.Fn
namespace Go.Fn
open Go Go.Ab Go.Tx
def Ord (l:List D6) (A:List Int):Prop:=∀ pre x post,A=pre++x::post→∀ o∈l,x∈lnk o→o.1∈pre
def Clo (l:List D6) (root:Int) (B:List Int):Prop:=∀ o∈l,o.1≠root→o.1 ∉ B→∃ d∈l,d.1 ∉ B∧o.1∈lnk d
def Things (l:List D6) (root:Int) (A:List Int):Prop:=∀ x∈A,(∃ o∈l,o.1=x)∧x≠root
theorem Qw {l:List D6} {root:Int} {A B:List Int} (hA:Things l root A) (oA:Ord l A) (cB:Clo l root B):∀ x∈A,x∈B:=by
 have key:∀ k,∀ x∈A.take k,x∈B:=by
  intro k
  induction k with
  | zero=>intro x hx;simp at hx
  | succ k ih =>
   intro x hx
   by_cases hk:k<A.length
   ·rw [List.take_add_one,List.getElem?_eq_getElem hk] at hx
    rcases List.mem_append.1 hx with hx | hx
    ·exact ih x hx
    ·simp only [Option.toList_some,List.mem_singleton] at hx
     have hxA:x∈A:=by rw [hx];exact List.getElem_mem hk
     obtain ⟨⟨o,ho,rfl⟩,hr⟩:=hA x hxA
     refine Classical.byContradiction fun hn=>?_
     obtain ⟨d,hd,h1,h2⟩:=cB o ho hr hn
     have hs:A=A.take k++o.1::A.drop (k+1):=by
      rw [hx];exact wu hk
     exact h1 (ih _ (oA _ _ _ hs d hd h2))
   ·rw [List.take_of_length_le (by omega)] at hx
    exact ih x (by rw [List.take_of_length_le (by omega)];exact hx)
 intro x hx
 exact key A.length x (by rw [List.take_length];exact hx)
theorem JO {l:List D6} {A:List Int} {x:Int} (h:Ord l A) (hx:∀ o∈l,x∈lnk o→o.1∈A):Ord l (A++[x]):=by
 intro pre y post e o ho hy
 by_cases hp:post=[]
 ·subst hp
  have e2:=List.append_inj' e (by simp)
  obtain ⟨e3,e4⟩:=e2
  cases e4
  rw [← e3];exact hx o ho hy
 ·obtain ⟨q,z,rfl⟩:∃ q z,post=q++[z]:=⟨post.dropLast,post.getLast hp,(List.dropLast_concat_getLast hp).symm⟩
  have e2:A++[x]=(pre++y::q)++[z]:=by rw [e];simp
  obtain ⟨e3,_⟩:=List.append_inj' e2 (by simp)
  exact h pre y q e3 o ho hy
def rounds (root:Int):Nat→List D6→List Int→List D6×List Int
 | 0,l,L=>(l,L)
 | n+1,l,L=>match tq l root with
  | none=>(l,L)
  | some x=>rounds root n (l.filter (·.1 != x)) (insL L x)
theorem AY {l:List D6} {root x:Int} (h:tq l root=some x):(∃ o∈l,o.1=x)∧x≠root∧∀ o∈l,x ∉ lnk o:=by
 unfold tq at h
 obtain ⟨o,h1,rfl⟩:=Option.map_eq_some_iff.1 h
 have h2:=List.find?_some h1
 simp only [Bool.and_eq_true,bne_iff_ne,ne_eq,List.isEmpty_iff] at h2
 refine ⟨⟨o,List.mem_of_find?_eq_some h1,rfl⟩,h2.1,fun d hd hx=>?_⟩
 have:d.1∈aQ l o.1:=dS.2 ⟨d,hd,hx,rfl⟩
 rw [h2.2] at this;cases this
theorem LX {l:List D6} {root:Int} (h:tq l root=none):∀ o∈l,o.1≠root→∃ d∈l,o.1∈lnk d:=by
 intro o ho hr
 unfold tq at h
 have h1:=List.find?_eq_none.1 (Option.map_eq_none_iff.1 h) o ho
 simp only [Bool.and_eq_true,bne_iff_ne,ne_eq,List.isEmpty_iff,not_and] at h1
 have h2:=h1 hr
 cases hh:aQ l o.1 with
 | nil=>exact absurd hh h2
 | cons d ds =>
  have:d∈aQ l o.1:=by rw [hh];exact List.mem_cons_self
  obtain ⟨e,he,h3,_⟩:=dS.1 this
  exact ⟨e,he,h3⟩
structure Goes (l:List D6) (root:Int) (L:List Int) (l' : List D6):Prop where
 left:l' = l.filter fun o=>!L.contains o.1
 rise:L.Pairwise (· < ·)
 ord:∃ A:List Int,(∀ x,x∈A↔x∈L)∧Things l root A∧Ord l A
theorem Qx {l:List D6} {root:Int} {L:List Int} {l' : List D6} {x:Int} (h:Goes l root L l') (hx:tq l' root=some x):Goes l root (insL L x) (l'.filter (·.1 != x))∧x ∉ L:=by
 obtain ⟨⟨o,ho,rfl⟩,hr,hno⟩:=AY hx
 have ho':=ho
 rw [h.left] at ho'
 simp only [List.mem_filter,Bool.not_eq_true',List.contains_eq_mem,decide_eq_false_iff_not] at ho'
 refine ⟨⟨?_,Qp h.rise ho'.2,?_⟩,ho'.2⟩
 ·rw [h.left,List.filter_filter]
  refine List.filter_congr fun d hd=>?_
  by_cases e:d.1=o.1
  ·simp [e,Dp]
  ·by_cases e2:d.1∈L <;> simp [e,e2,Dp]
 ·obtain ⟨A,h1,h2,h3⟩:=h.ord
  refine ⟨A++[o.1],fun y=>?_,fun y hy=>?_,JO h3 fun d hd hl=>?_⟩
  ·simp only [List.mem_append,List.mem_singleton,Dp,h1 y];exact Or.comm
  ·rcases List.mem_append.1 hy with hy | hy
   ·exact h2 y hy
   ·simp only [List.mem_singleton] at hy
    subst hy;exact ⟨⟨o,ho'.1,rfl⟩,hr⟩
  ·refine Classical.byContradiction fun hn=>hno d ?_ hl
   rw [h.left]
   simp only [List.mem_filter,Bool.not_eq_true',List.contains_eq_mem,decide_eq_false_iff_not]
   exact ⟨hd,fun hc=>hn ((h1 _).2 hc)⟩
end Go.Fn
namespace Go.Fn
open Go Go.Ab Go.Tx
theorem yU {l:List D6} {root:Int}:∀ (n:Nat) (l' : List D6) (L:List Int),Goes l root L l' → l'.length≤n→Goes l root (rounds root n l' L).2 (rounds root n l' L).1∧tq (rounds root n l' L).1 root=none
 | 0,l',L,h,hn=>by
  have:l' = []:=List.eq_nil_of_length_eq_zero (by omega)
  subst this
  exact ⟨h,rfl⟩
 | n+1,l',L,h,hn=>by
  simp only [rounds]
  cases hx:tq l' root with
  | none=>exact ⟨h,hx⟩
  | some x =>
   obtain ⟨h1,_⟩:=Qx h hx
   obtain ⟨⟨o,ho,e⟩,_⟩:=AY hx
   refine yU n _ _ h1 ?_
   have:(l'.filter (·.1 != x)).length<l'.length:=by
    rcases Nat.lt_or_ge (l'.filter (·.1 != x)).length l'.length with h | h
    ·exact h
    ·have h2:=List.length_filter_eq_length_iff.1 (Nat.le_antisymm (List.length_filter_le _ _) h) o ho
     simp [e] at h2
   omega
theorem JQ {l:List D6} {root:Int} {L:List Int} {l' : List D6} (h:Goes l root L l') (ha:tq l' root=none):Clo l root L:=by
 intro o ho hr hn
 have hm:∀ d,d∈l' ↔ d∈l∧d.1 ∉ L:=fun d=>by rw [h.left];simp
 obtain ⟨d,hd,h1⟩:=LX ha o ((hm o).2 ⟨ho,hn⟩) hr
 exact ⟨d,((hm d).1 hd).1,((hm d).1 hd).2,h1⟩
theorem JR (l:List D6) (root:Int):Goes l root [] l :=
 ⟨(List.filter_eq_self.2 fun o _=>by simp).symm,List.Pairwise.nil,[],by simp,by simp [Things],fun pre x post e=>by simp at e⟩
def XJ (w:D7) (a b:Int):D7×List Int×Int :=
 if (dK (objs w) a).2=false∨b ∉ lnk (dK (objs w) a).1 then (w,[],1) else
  let v:=TW w (gV (dK (objs w) a).1 ((lnk (dK (objs w) a).1).filter (· != b)))
  let R:=rounds v.2.2.1 (objs v).length (objs v) []
  (dZ v R.1,R.2,0)
end Go.Fn
namespace Go.Fn
open Go Go.Ab Go.Tx
theorem qm (z:Int) (a c b:Int):∀ l:List (Int×Int),bU z (jW l a c) b=if b=a then c else bU z l b
 | []=>by simp only [jW,bU]
 | (k,e)::l=>by
  have ih:=qm z a c b l
  simp only [jW]
  by_cases h:a=k
  ·subst h
   simp only [if_true,bU]
   split <;> rfl
  ·rw [if_neg h]
   simp only [bU,ih]
   by_cases h2:b=k
   ·subst h2
    rw [if_pos rfl,if_neg (fun e=>h e.symm)];simp
   ·rw [if_neg h2,if_neg h2]
def cnt (l:List D6) (x:Int):Nat:=(l.flatMap lnk).count x
theorem oV (a b:List D6) (x:Int):cnt (a++b) x=cnt a x+cnt b x:=by simp [cnt,List.count_append]
theorem Dx (o:D6) (x:Int):cnt [o] x=(lnk o).count x:=by simp [cnt]
theorem Dy {l:List D6} {x:Int}:cnt l x=0↔∀ d∈l,x ∉ lnk d:=by
 unfold cnt
 rw [List.count_eq_zero,List.mem_flatMap]
 exact ⟨fun h d hd hx=>h ⟨d,hd,hx⟩,fun h ⟨d,hd,hx⟩=>h d hd hx⟩
theorem cnt_le {l:List D6} {x:Int}:cnt l x≤(l.flatMap lnk).length:=List.count_le_length
theorem Iq {l:List D6} (h:∀ o∈l,(lnk o).length≤70):(l.flatMap lnk).length≤l.length * 70:=by
 induction l with
 | nil=>simp
 | cons o l ih =>
  have h1:=h o List.mem_cons_self
  have h2:=ih fun d hd=>h d (List.mem_cons_of_mem _ hd)
  rw [List.flatMap_cons,List.length_append,List.length_cons];omega
theorem Ir {l:List D6} (hp:l.Pairwise (fun a b=>a.1<b.1)) {G:List Int} {o:D6} (ho:o∈l) (hn:o.1 ∉ G) (y:Int) :
  cnt (l.filter fun d=>!(G++[o.1]).contains d.1) y+(lnk o).count y=cnt (l.filter fun d=>!G.contains d.1) y:=by
 obtain ⟨A,B,rfl⟩:=List.append_of_mem ho
 rw [List.pairwise_append,List.pairwise_cons] at hp
 have hA:A.filter (fun d=>!(G++[o.1]).contains d.1)=A.filter fun d=>!G.contains d.1:=List.filter_congr fun d hd=>by
  have:d.1≠o.1:=by have:=hp.2.2 d hd o List.mem_cons_self;omega
  simp [this]
 have hB:B.filter (fun d=>!(G++[o.1]).contains d.1)=B.filter fun d=>!G.contains d.1:=List.filter_congr fun d hd=>by
  have:d.1≠o.1:=by have:=hp.2.1.1 d hd;omega
  simp [this]
 rw [List.filter_append,List.filter_append,List.filter_cons,List.filter_cons,hA,hB]
 have h1:(!(G++[o.1]).contains o.1)=false:=by simp
 have h2:(!G.contains o.1)=true:=by simpa using hn
 rw [if_neg (by rw [h1];simp),if_pos h2,oV,oV,show o::B.filter (fun d=>!G.contains d.1)=[o]++B.filter (fun d=>!G.contains d.1) from rfl,oV,Dx]
 omega
structure SW (l:List D6) (root:Int):Prop where
 few:l.length≤20
 ris:l.Pairwise (fun a b=>a.1<b.1)
 lns:∀ o∈l,(lnk o).length≤70
 lnk:∀ o∈l,(Fn.lnk o).Pairwise (· < ·)
 has:∀ o∈l,∀ x∈Fn.lnk o,∃ y∈l,y.1=x
 top:∀ o∈l,root ∉ Fn.lnk o
structure Mid (l:List D6) (root:Int) (todo:List Int) (m:List (Int×Int)) (gone:List Int):Prop where
 nod:(gone++todo).Nodup
 thg:Things l root (gone++todo)
 map:∀ y,bU 0 m y=(cnt (l.filter fun d=>!gone.contains d.1) y:Nat)
 all:∀ o∈l,o.1≠root→(o.1∈gone++todo↔cnt (l.filter fun d=>!gone.contains d.1) o.1=0)
 ord:Ord l gone
theorem FQ {l:List D6} {A:List Int} (hA:A.Nodup) (h:∀ x∈A,∃ o∈l,o.1=x):A.length≤l.length:=by
 have:=yM A (l.map (·.1)) hA (fun x hx=>by obtain ⟨o,ho,e⟩:=h x hx;exact List.mem_map.2 ⟨o,ho,e⟩)
 simpa using this
theorem Qy {l:List D6} (hp:l.Pairwise (fun a b=>a.1<b.1)) {x:Int} (h:∃ o∈l,o.1=x):∃ o∈l,o.1=x∧dK l x=(o,true):=by
 obtain ⟨o,ho,rfl⟩:=h
 exact ⟨o,ho,rfl,mM hp o ho⟩
theorem AZ:∀ {l:List Int},l.Pairwise (· < ·)→∀ x:Int,l.count x=if x∈l then 1 else 0
 | [],_,x=>by simp
 | a::l,hp,x=>by
  have h1:=AZ (List.pairwise_cons.1 hp).2 x
  have h2:=(List.pairwise_cons.1 hp).1
  rw [List.count_cons,h1]
  by_cases e:a=x
  ·subst e
   have:a ∉ l:=fun h=>by have:=h2 a h;omega
   simp [this]
  ·have e' : ¬ x=a:=fun h=>e h.symm
   simp [e,e']
theorem del_eq:∀ {l:List Int},l.Pairwise (· < ·)→∀ {b:Int},b∈l→gW l b<l.length∧l.take (gW l b)++l.drop (gW l b+1)=l.filter (· != b)
 | [],_,b,hb=>by cases hb
 | c::l,hp,b,hb=>by
  have h1:=(List.pairwise_cons.1 hp).1
  have h2:=(List.pairwise_cons.1 hp).2
  rw [FH]
  by_cases hc:c<b
  ·have hbl:b∈l:=by
    rcases List.mem_cons.1 hb with e | e
    ·omega
    ·exact e
   obtain ⟨g1,g2⟩:=del_eq h2 hbl
   rw [if_pos hc]
   refine ⟨by simp;omega,?_⟩
   have hcb:(c != b)=true:=by simp;omega
   rw [List.filter_cons,if_pos hcb,← g2]
   simp
  ·have e:c=b:=by
    rcases List.mem_cons.1 hb with e | e
    ·exact e.symm
    ·have:=h1 b e;omega
   subst e
   rw [if_neg hc]
   have h0:gW l c=0:=by
    unfold gW
    rw [List.length_eq_zero_iff,List.filter_eq_nil_iff]
    intro x hx;have:=h1 x hx;simp;omega
   have hf:(c::l).filter (· != c)=l:=by
    rw [List.filter_cons,if_neg (by simp)]
    exact List.filter_eq_self.2 fun x hx=>by have:=h1 x hx;simp;omega
   rw [h0,hf]
   exact ⟨by simp,by simp⟩
structure Iu (l:List D6) (root:Int) (gone:List Int) (x:Int) (q todo:List Int) (m:List (Int×Int)):Prop where
 nod:(gone++[x]++todo).Nodup
 thg:Things l root (gone++[x]++todo)
 map:∀ y,bU 0 m y=((cnt (l.filter fun d=>!gone.contains d.1) y:Nat):Int) - (q.count y:Nat)
 all:∀ o∈l,o.1≠root→(o.1∈gone++[x]++todo↔((cnt (l.filter fun d=>!gone.contains d.1) o.1:Nat):Int) - (q.count o.1:Nat)=0)
theorem Mid.start {l:List D6} {root x:Int} {rest gone:List Int} {m:List (Int×Int)} (h:Mid l root (x::rest) m gone):Iu l root gone x [] rest m:=by
 have e:gone++[x]++rest=gone++x::rest:=by simp
 refine ⟨by rw [e];exact h.nod,by rw [e];exact h.thg,fun y=>by rw [h.map y];simp,fun o ho hr=>?_⟩
 rw [e,h.all o ho hr];simp
theorem Iu.fin {l:List D6} {root:Int} {rest gone todo:List Int} {m m' : List (Int×Int)} {o:D6} (hw:SW l root) (h:Mid l root (o.1::rest) m gone) (ho:o∈l) (h' : Iu l root gone o.1 (lnk o) todo m'):Mid l root todo m' (gone++[o.1]):=by
 have hog:o.1 ∉ gone:=fun hc=>by
  have:=(List.nodup_append.1 h.nod).2.2 o.1 hc o.1 List.mem_cons_self
  exact this rfl
 have hor:o.1≠root:=(h.thg o.1 (by simp)).2
 refine ⟨h'.nod,h'.thg,fun y=>?_,fun d hd hr=>?_,JO h.ord fun d hd hx=>?_⟩
 ·rw [h'.map y]
  have:=Ir hw.ris ho hog y
  omega
 ·rw [h'.all d hd hr]
  have:=Ir hw.ris ho hog d.1
  omega
 ·have h0:=(h.all o ho hor).1 (by simp)
  refine Classical.byContradiction fun hn=>?_
  exact Dy.1 h0 d (List.mem_filter.2 ⟨hd,by simpa using hn⟩) hx
theorem Iu.step {l:List D6} {root:Int} {rest gone todo q post:List Int} {m m' : List (Int×Int)} {o:D6} {z:Int} (hw:SW l root) (h:Mid l root (o.1::rest) m gone) (ho:o∈l) (e:lnk o=q++z::post) (h' : Iu l root gone o.1 q todo m') :
  1≤bU 0 m' z∧Iu l root gone o.1 (q++[z]) (if bU 0 m' z - 1=0 then todo++[z] else todo) (jW m' z (bU 0 m' z - 1)):=by
 have hog:o.1 ∉ gone:=fun hc=>by
  have:=(List.nodup_append.1 h.nod).2.2 o.1 hc o.1 List.mem_cons_self
  exact this rfl
 have hzo:z∈lnk o:=by rw [e];simp
 obtain ⟨y,hy,rfl⟩:=hw.has o ho z hzo
 have hyr:y.1≠root:=fun hc=>hw.top o ho (by rw [← hc];exact hzo)
 have hge:(lnk o).count y.1≤cnt (l.filter fun d=>!gone.contains d.1) y.1:=by
  have:=Ir hw.ris ho hog y.1
  omega
 have hq:q.count y.1+1≤(lnk o).count y.1:=by rw [e,List.count_append,List.count_cons];simp
 have h1:1≤bU 0 m' y.1:=by rw [h'.map y.1];omega
 have hno:y.1 ∉ gone++[o.1]++todo:=fun hc=>by
  have:=(h'.all y hy hyr).1 hc
  rw [← h'.map y.1] at this;omega
 have hcnt:∀ u:Int,(q++[y.1]).count u=q.count u+if u=y.1 then 1 else 0:=fun u=>by
  rw [List.count_append]
  by_cases hu:u=y.1
  ·subst hu;simp
  ·rw [if_neg hu]
   have hu' : ¬ y.1=u:=fun h=>hu h.symm
   simp [List.count_cons,hu']
 have hmap:∀ u,bU 0 (jW m' y.1 (bU 0 m' y.1 - 1)) u=((cnt (l.filter fun d=>!gone.contains d.1) u:Nat):Int) - ((q++[y.1]).count u:Nat):=fun u=>by
  rw [qm,hcnt u]
  by_cases hu:u=y.1
  ·subst hu
   rw [if_pos rfl,if_pos rfl,h'.map];omega
  ·rw [if_neg hu,if_neg hu,h'.map];omega
 refine ⟨h1,?_⟩
 by_cases hz:bU 0 m' y.1 - 1=0
 ·rw [if_pos hz]
  have ea:gone++[o.1]++(todo++[y.1])=(gone++[o.1]++todo)++[y.1]:=by simp
  refine ⟨?_,?_,hmap,fun d hd hr=>?_⟩
  ·rw [ea,List.nodup_append]
   refine ⟨h'.nod,by simp,fun a ha b hb=>?_⟩
   simp only [List.mem_singleton] at hb
   subst hb
   rintro rfl;exact hno ha
  ·rw [ea]
   intro u hu
   rcases List.mem_append.1 hu with hu | hu
   ·exact h'.thg u hu
   ·simp only [List.mem_singleton] at hu
    subst hu;exact ⟨⟨y,hy,rfl⟩,hyr⟩
  ·rw [ea,List.mem_append,List.mem_singleton,h'.all d hd hr,hcnt d.1]
   by_cases hu:d.1=y.1
   ·rw [if_pos hu,hu]
    have:=h'.map y.1
    constructor
    ·intro _;omega
    ·intro _;exact .inr rfl
   ·rw [if_neg hu]
    constructor
    ·rintro (h9 | h9)
     ·omega
     ·exact absurd h9 hu
    ·intro h9;exact .inl (by omega)
 ·rw [if_neg hz]
  refine ⟨h'.nod,h'.thg,hmap,fun d hd hr=>?_⟩
  rw [h'.all d hd hr,hcnt d.1]
  by_cases hu:d.1=y.1
  ·rw [if_pos hu,hu]
   have:=h'.map y.1
   omega
  ·rw [if_neg hu];omega
theorem FT {l:List D6} (hp:l.Pairwise (fun a b=>a.1<b.1)) {o o' : D6} (ho:o∈l) (e:o'.1=o.1):∃ A B,l=A++o::B∧tH l o' = A++o' :: B:=by
 obtain ⟨A,B,rfl⟩:=List.append_of_mem ho
 rw [List.pairwise_append,List.pairwise_cons] at hp
 refine ⟨A,B,rfl,?_⟩
 have a1:A.filter (fun x=>decide (x.1<o'.1))=A:=List.filter_eq_self.2 fun d hd=>by have:=hp.2.2 d hd o List.mem_cons_self;rw [e];simpa using this
 have a2:A.filter (fun x=>decide (o'.1<x.1))=[]:=List.filter_eq_nil_iff.2 fun d hd=>by have:=hp.2.2 d hd o List.mem_cons_self;rw [e];simp;omega
 have b1:B.filter (fun x=>decide (x.1<o'.1))=[]:=List.filter_eq_nil_iff.2 fun d hd=>by have:=hp.2.1.1 d hd;rw [e];simp;omega
 have b2:B.filter (fun x=>decide (o'.1<x.1))=B:=List.filter_eq_self.2 fun d hd=>by have:=hp.2.1.1 d hd;rw [e];simpa using this
 have c1 : ¬ o.1<o'.1:=by omega
 have c2 : ¬ o'.1<o.1:=by omega
 simp only [tH,List.filter_append,List.filter_cons,a1,a2,b1,b2,c1,c2,decide_false,Bool.false_eq_true,if_false,List.nil_append,List.append_nil]
theorem Qz {l:List D6} {root b:Int} {o o' : D6} (hw:SW l root) (held:∀ o∈l,o.1≠root→∃ d∈l,o.1∈lnk d) (ho:o∈l) (hb:b∈lnk o) (e1:o'.1=o.1) (e2:lnk o' = (lnk o).filter (· != b)) {m:List (Int×Int)} (hm:∀ x,bU 0 m x=(cnt l x:Nat)) :
  SW (tH l o') root∧1≤bU 0 m b∧Mid (tH l o') root (if bU 0 m b - 1=0 then [b] else []) (jW m b (bU 0 m b - 1)) []:=by
 obtain ⟨A,B,hA,hP⟩:=FT hw.ris ho e1
 have sub:∀ d∈tH l o',∃ c∈l,c.1=d.1∧(lnk d).length≤(lnk c).length∧((lnk c).Pairwise (· < ·)→(lnk d).Pairwise (· < ·))∧∀ x∈lnk d,x∈lnk c:=fun d hd=>by
  rcases Dq.1 hd with h | ⟨h,_⟩
  ·subst h
   exact ⟨o,ho,e1.symm,by rw [e2];exact List.length_filter_le _ _,fun hp=>by rw [e2];exact hp.filter _,fun x hx=>by rw [e2] at hx;exact (List.mem_filter.1 hx).1⟩
  ·exact ⟨d,h,rfl,Nat.le_refl _,id,fun _ h=>h⟩
 have ids:∀ c∈l,∃ d∈tH l o',d.1=c.1:=fun c hc=>by
  by_cases h:c.1=o'.1
  ·exact ⟨o',Dq.2 (.inl rfl),h.symm⟩
  ·exact ⟨c,Dq.2 (.inr ⟨hc,h⟩),rfl⟩
 have hlen:(tH l o').length=l.length:=by rw [hP,hA];simp
 have hSW:SW (tH l o') root:=⟨by rw [hlen];exact hw.few,Qq hw.ris o',fun d hd=>by
   obtain ⟨c,hc,_,h2,_⟩:=sub d hd
   have:=hw.lns c hc;omega,fun d hd=>by
   obtain ⟨c,hc,_,_,h3,_⟩:=sub d hd
   exact h3 (hw.lnk c hc),fun d hd x hx=>by
   obtain ⟨c,hc,_,_,_,h4⟩:=sub d hd
   obtain ⟨y,hy,e⟩:=hw.has c hc x (h4 x hx)
   obtain ⟨z,hz,ez⟩:=ids y hy
   exact ⟨z,hz,ez.trans e⟩,fun d hd hx=>by
   obtain ⟨c,hc,_,_,_,h4⟩:=sub d hd
   exact hw.top c hc (h4 _ hx)⟩
 have hone:(lnk o).count b=1:=by rw [AZ (hw.lnk o ho) b,if_pos hb]
 have hcnt:∀ x,cnt (tH l o') x+(if x=b then 1 else 0)=cnt l x:=fun x=>by
  have hf:(lnk o').count x+(if x=b then 1 else 0)=(lnk o).count x:=by
   rw [e2]
   by_cases h:x=b
   ·subst h
    rw [hone,if_pos rfl,List.count_eq_zero.2 (fun hc=>by simpa using (List.mem_filter.1 hc).2)]
   ·rw [if_neg h,List.count_filter (by simpa using h)];rfl
  have h1:cnt (tH l o') x=cnt A x+((lnk o').count x+cnt B x):=by
   rw [hP,oV,show o' :: B=[o']++B from rfl,oV,Dx]
  have h2:cnt l x=cnt A x+((lnk o).count x+cnt B x):=by
   conv=>lhs;rw [hA]
   rw [oV,show o::B=[o]++B from rfl,oV,Dx]
  omega
 have hb1:1≤bU 0 m b:=by
  rw [hm b]
  have:=hcnt b
  rw [if_pos rfl] at this;omega
 have hmap:∀ y,bU 0 (jW m b (bU 0 m b - 1)) y=(cnt (tH l o') y:Nat):=fun y=>by
  have:=hcnt y
  rw [qm]
  by_cases h:y=b
  ·subst h;rw [if_pos rfl,hm];rw [if_pos rfl] at this;omega
  ·rw [if_neg h,hm];rw [if_neg h] at this;omega
 have hfil:(tH l o').filter (fun d=>!([]:List Int).contains d.1)=tH l o':=List.filter_eq_self.2 fun d _=>by simp
 obtain ⟨y,hy,ey⟩:=hw.has o ho b hb
 obtain ⟨y',hy',ey'⟩:=ids y hy
 have hbr:b≠root:=fun h=>hw.top o ho (h ▸ hb)
 refine ⟨hSW,hb1,?_,?_,fun y=>by rw [hfil];exact hmap y,fun d hd hr=>?_,fun pre x post e=>by simp at e⟩
 ·split <;> simp
 ·intro x hx
  split at hx
  ·simp only [List.nil_append,List.mem_singleton] at hx
   subst hx;exact ⟨⟨y',hy',ey'.trans ey⟩,hbr⟩
  ·simp at hx
 ·rw [hfil,List.nil_append]
  obtain ⟨c,hc,hce,_⟩:=sub d hd
  obtain ⟨e,he,hx⟩:=held c hc (by rw [hce];exact hr)
  have hpos:cnt l d.1≠0:=fun h0=>Dy.1 h0 e he (by rw [← hce];exact hx)
  have h3:=hcnt d.1
  have h4:=hcnt b
  rw [if_pos rfl] at h4
  by_cases h:d.1=b
  ·rw [h]
   have h5:=hm b
   by_cases hz:bU 0 m b - 1=0
   ·rw [if_pos hz];simp;omega
   ·rw [if_neg hz];simp;omega
  ·rw [if_neg h] at h3
   have:d.1 ∉ (if bU 0 m b - 1=0 then [b] else []):=by split <;> simp [h]
   constructor
   ·intro h9;exact absurd h9 this
   ·intro h9;omega
end Go.Fn
namespace Go.Fn
open Go Go.Ab Go.Tx
theorem FU {l:List D6} {a:Int} {p:List Int→Prop} (h0:p []) (h:∀ o∈l,p (lnk o)):p (lnk (dK l a).1):=by
 unfold dK
 split
 ·rename_i o ho;exact h o (List.mem_of_find?_eq_some ho)
 ·exact h0
theorem FV:∀ {A B:List Int},A.Pairwise (· < ·)→B.Pairwise (· < ·)→(∀ x,x∈A↔x∈B)→A=B
 | [],[],_,_,_=>rfl
 | [],b::B,_,_,h=>by have:=(h b).2 List.mem_cons_self;cases this
 | a::A,[],_,_,h=>by have:=(h a).1 List.mem_cons_self;cases this
 | a::A,b::B,hA,hB,h=>by
  have a1:=(List.pairwise_cons.1 hA).1
  have b1:=(List.pairwise_cons.1 hB).1
  have e:a=b:=by
   rcases List.mem_cons.1 ((h a).1 List.mem_cons_self) with e | e
   ·exact e
   ·rcases List.mem_cons.1 ((h b).2 List.mem_cons_self) with e2 | e2
    ·exact e2.symm
    ·have:=a1 b e2;have:=b1 a e;omega
  subst e
  rw [FV (List.pairwise_cons.1 hA).2 (List.pairwise_cons.1 hB).2 fun x=>?_]
  have:=h x
  simp only [List.mem_cons] at this
  constructor
  ·intro hx
   rcases this.1 (.inr hx) with e | e
   ·have:=a1 x hx;omega
   ·exact e
  ·intro hx
   rcases this.2 (.inr hx) with e | e
   ·have:=b1 x hx;omega
   ·exact e
theorem FW {l:List Int} (h:l.Nodup):(l.mergeSort (fun a b=>decide (a≤b))).Pairwise (· < ·):=by
 have h1:(l.mergeSort (fun a b=>decide (a≤b))).Pairwise (fun a b=>decide (a≤b)=true):=List.pairwise_mergeSort (fun a b c h1 h2=>by simp at *; omega) (fun a b=>by simp;omega) l
 have h2:(l.mergeSort (fun a b=>decide (a≤b))).Nodup:=(List.mergeSort_perm l _).nodup_iff.2 h
 exact (h1.and h2).imp fun ⟨h3,h4⟩=>by simp at h3;omega
theorem Iw {l:List D6} {root:Int} {m:List (Int×Int)} {gone:List Int} (h:Mid l root [] m gone) :
  gone.mergeSort (fun a b=>decide (a≤b))=(rounds root l.length l []).2∧l.filter (fun o=>!(gone.mergeSort (fun a b=>decide (a≤b))).contains o.1)=(rounds root l.length l []).1:=by
 obtain ⟨g1,g2⟩:=yU l.length l [] (JR l root) (Nat.le_refl _)
 have hclo:=JQ g1 g2
 have hnd:gone.Nodup:=by simpa using h.nod
 have hth:Things l root gone:=by simpa using h.thg
 have hcg:Clo l root gone:=fun o ho hr hn=>by
  have h1:=h.all o ho hr
  simp only [List.append_nil] at h1
  have h2:cnt (l.filter fun d=>!gone.contains d.1) o.1≠0:=fun h3=>hn (h1.2 h3)
  refine Classical.byContradiction fun hno=>h2 (Dy.2 fun d hd hx=>hno ?_)
  rw [List.mem_filter] at hd
  exact ⟨d,hd.1,by simpa using hd.2,hx⟩
 obtain ⟨A,a1,a2,a3⟩:=g1.ord
 have e:gone.mergeSort (fun a b=>decide (a≤b))=(rounds root l.length l []).2:=by
  refine FV (FW hnd) g1.rise fun x=>?_
  rw [(List.mergeSort_perm gone _).mem_iff]
  exact ⟨Qw hth h.ord hclo x,fun hx=>Qw a2 a3 hcg x ((a1 x).2 hx)⟩
 exact ⟨e,by rw [e];exact g1.left.symm⟩
theorem ZN (w:D7) (a b:Int) (hw:SW (objs w) w.2.2.1) (held:∀ o∈objs w,o.1≠w.2.2.1→∃ d∈objs w,o.1∈lnk d):F8 w a b=some (XJ w a b):=by
 have hfew:=hw.few
 refine Def.eq ?_
 unfold F8
 refine Def.bind (Def.of (UY w a (by omega) hw.ris) ?_)
 obtain ⟨oa,hoa⟩:∃ oa,oa=(dK (objs w) a).1:=⟨_,rfl⟩
 have hk70:(lnk oa).length≤70:=by rw [hoa];exact FU (p:=fun l=>l.length≤70) (by simp) hw.lns
 have hkr:(lnk oa).Pairwise (· < ·):=by rw [hoa];exact FU (p:=fun l=>l.Pairwise (· < ·)) List.Pairwise.nil hw.lnk
 rw [← hoa]
 refine Def.bind (Def.of (UW (lnk oa) b (by omega) hkr) ?_)
 have hc:((if (!(dK (objs w) a).2)=true then true else (!decide (b∈lnk oa)))=true)↔((dK (objs w) a).2=false∨b ∉ lnk (dK (objs w) a).1):=by
  rw [← hoa]
  cases (dK (objs w) a).2 <;> simp
 refine Def.ite (fun h=>.ret ?_) (fun h=>?_)
 ·unfold XJ;rw [if_pos (hc.1 h)]
 have hn : ¬ ((dK (objs w) a).2=false∨b ∉ lnk (dK (objs w) a).1):=fun h'=>h (hc.2 h')
 unfold XJ
 rw [if_neg hn]
 rw [← hoa] at hn ⊢
 have hfound:(dK (objs w) a).2=true:=by cases h9:(dK (objs w) a).2 with | true=>rfl | false=>exact absurd (.inl h9) hn
 have hb:b∈lnk oa:=Classical.byContradiction fun h9=>hn (.inr h9)
 obtain ⟨hoam,hoae⟩:=qj hfound
 rw [← hoa] at hoam hoae
 have hflat:=Iq hw.lns
 refine Def.aS (fun m:List (Int×Int)=>∀ x,bU 0 m x=(cnt (objs w) x:Nat)) (fun m hi=>?_) (fun j5 hj5=>?_)
 ·refine Def.bind (Def.app (by simp only [List.length_nil];show (0+(lnk oa).length) * 8≤_;omega) ?_)
  obtain ⟨d1,d2⟩:=del_eq hkr hb
  refine Def.bind (Def.of (a:=(lnk oa).filter (· != b)) ?_ ?_)
  ·rw [wrap_i64 (by omega) (by omega),aad,if_pos ⟨by omega,by omega,by simp only [List.nil_append];show (gW (lnk oa) b:Int)+1≤((lnk oa).length:Nat);omega⟩]
   have t1:((gW (lnk oa) b:Nat):Int).toNat=gW (lnk oa) b:=Int.toNat_natCast _
   have t2:(((gW (lnk oa) b:Nat):Int)+1).toNat=gW (lnk oa) b+1:=by omega
   simp only [List.nil_append]
   show some (List.take ((gW (lnk oa) b:Nat):Int).toNat (lnk oa)++List.drop (((gW (lnk oa) b:Nat):Int)+1).toNat (lnk oa))=_
   rw [t1,t2,d2]
  ·refine Def.bind (Def.of (YL w _ (by omega) hw.ris) ?_)
   obtain ⟨o',ho'⟩:∃ o',o' = gV oa ((lnk oa).filter (· != b)):=⟨_,rfl⟩
   rw [← ho']
   have e1:o'.1=oa.1:=by rw [ho']
   have e2:lnk o' = (lnk oa).filter (· != b):=by rw [ho']
   obtain ⟨hSW,hb1,hmid⟩:=Qz hw held hoam hb e1 e2 hi
   have hv:TW w o' = dZ w (tH (objs w) o'):=by unfold TW;rw [if_pos (by have:=hSW.few;omega)]
   obtain ⟨v,hvd⟩:∃ v,v=TW w o':=⟨_,rfl⟩
   rw [← hvd]
   have hvo:objs v=tH (objs w) o':=by rw [hvd,hv]
   have hvr:v.2.2.1=w.2.2.1:=by rw [hvd,hv]
   rw [← hvo,← hvr] at hSW hmid
   have hcb:=cnt_le (l:=objs w) (x:=b)
   have hib:=hi b
   have hw1:IntKind.wrap .i64 (bU 0 m b - 1)=bU 0 m b - 1:=wrap_i64 (by omega) (by omega)
   rw [hw1]
   refine Def.aS (fun todo:List Int=>todo=if bU 0 m b - 1=0 then [b] else []) (fun todo ht=>?_) (fun j9 hj9=>?_)
   ·rw [← ht] at hmid
    have hlen:∀ {todo:List Int} {m:List (Int×Int)} {gone:List Int},Mid (objs v) v.2.2.1 todo m gone→(gone++todo).length≤(objs v).length:=fun h=>FQ h.nod fun x hx=>(h.thg x hx).1
    have hfv:=hSW.few
    refine Def.aS (fun s10:(D7×(Unit×((List Int)×((List Int)×Unit))))×(List Int×(List (Int×Int)×List Int))=>s10.1.1=v∧Mid (objs v) v.2.2.1 [] s10.2.2.1 s10.2.2.2) (fun s10 hs=>?_) (fun j10 hj10=>?_)
    ·obtain ⟨hx,hM⟩:=hs
     have hgl:=hlen hM
     rw [List.append_nil] at hgl
     obtain ⟨q1,q2⟩:=Iw hM
     have hnd:s10.2.2.2.Nodup:=by have:=hM.nod;rwa [List.append_nil] at this
     have hsr:=FW hnd
     have hsl:(s10.2.2.2.mergeSort (fun a b=>decide (a≤b))).length=s10.2.2.2.length:=List.length_mergeSort _
     refine Def.bind (Def.of (YU _ (by omega)) ?_)
     obtain ⟨srt,hsrt⟩:∃ srt,srt=s10.2.2.2.mergeSort (fun a b=>decide (a≤b)):=⟨_,rfl⟩
     rw [← hsrt] at q1 q2 hsr hsl ⊢
     refine Def.aS (fun s15:D7×List D6=>s15=(v,(rounds v.2.2.1 (objs v).length (objs v) []).1)) (fun s15 h15=>?_) (fun j15 hj15=>?_)
     ·subst h15
      exact .ret (by simp only;rw [q1])
     ·simp only [aK]
      rw [hx]
      refine Def.YA (l:=objs v) (fun s:Int×D7×List D6=>s.1) (fun pre s=>s.2.1=v∧s.2.2=pre.filter (fun o=>!srt.contains o.1)) (by omega) rfl ⟨rfl,rfl⟩ (fun pre u post s e hs hi=>?_) (fun s hs hi=>.done (hj15 _ ?_))
      ·refine Def.bind' (by rw [hs];exact Def.at e) (fun u' hu=>?_)
       subst hu
       obtain ⟨i1,i2⟩:=hi
       refine Def.bind (Def.of (UW srt u'.1 (by omega) hsr) ?_)
       have hpl:pre.length≤20:=by rw [e] at hfv;simp at hfv;omega
       have hfl:(pre.filter (fun o=>!srt.contains o.1)).length≤pre.length:=List.length_filter_le _ _
       refine Def.ite (fun h9=>?_) (fun h9=>?_)
       ·have h9:u'.1 ∉ srt:=by simpa using h9
        refine Def.bind (.ret ?_)
        refine Def.bind (Def.app (by rw [i2];simp only [List.length_cons,List.length_nil];omega) (.turn ⟨by rw [hs],i1,?_⟩))
        rw [i2,List.filter_append];simp [h9]
       ·have h9:u'.1∈srt:=by simpa using h9
        refine .turn ⟨by rw [hs],i1,?_⟩
        rw [i2,List.filter_append];simp [h9]
      ·rw [hi.1,hi.2,q2]
    ·simp only [aK]
     refine Def.loop (fun s:(D7×(Unit×((List Int)×((List Int)×Unit))))×(List Int×(List (Int×Int)×List Int))=>s.1.1=v∧Mid (objs v) v.2.2.1 s.2.1 s.2.2.1 s.2.2.2) (fun s=>(objs v).length - s.2.2.2.length) ⟨rfl,hmid⟩ (fun s hi=>?_)
     obtain ⟨X,td,mm,gone⟩:=s
     obtain ⟨hx,hM⟩:=hi
     simp only at hx hM
     refine Def.ite (fun h9=>.done (hj10 _ ⟨hx,?_⟩)) (fun h9=>?_)
     ·have h9:td=[]:=by
       simp only [beq_iff_eq] at h9
       exact List.eq_nil_of_length_eq_zero (by omega)
      subst h9;exact hM
     ·cases td with
      | nil=>simp at h9
      | cons x rest =>
       have hgl:=hlen hM
       simp only [List.length_append,List.length_cons] at hgl
       obtain ⟨o,ho,ex,hf⟩:=Qy hSW.ris (hM.thg x (by simp)).1
       subst ex
       refine Def.bind (Def.of (a:=o.1) rfl ?_)
       rw [hx]
       refine Def.bind (Def.of ((UY v o.1 (by omega) hSW.ris).trans (congrArg some hf)) ?_)
       refine Def.bind (Def.of (a:=rest) ?_ ?_)
       ·simp only
        rw [aac,if_pos ⟨by omega,by simp only [List.length_cons];omega,by omega⟩]
        simp
       ·refine Def.bind (.ret ?_)
        refine Def.bind (Def.app (by simp only [List.length_cons,List.length_nil];omega) ?_)
        refine Def.YA (l:=lnk o) (fun s:Int×(D7×(Unit×((List Int)×((List Int)×Unit))))×(List Int×List (Int×Int))=>s.1) (fun q s=>s.2.1.1=v∧Iu (objs v) v.2.2.1 gone o.1 q s.2.2.1 s.2.2.2) (by have:=hSW.lns o ho;omega) rfl ⟨hx,hM.start⟩ (fun q z post s e hs hi=>?_) (fun s hs hi=>.done (.turn ⟨⟨hi.1,hi.2.fin hSW hM ho⟩,?_⟩))
        ·refine Def.bind' (by rw [hs];exact Def.at e) (fun z' hz=>?_)
         subst hz
         obtain ⟨i1,i2⟩:=hi
         obtain ⟨k1,k2⟩:=i2.step hSW hM ho e
         have hc1:=cnt_le (l:=(objs v).filter fun d=>!gone.contains d.1) (x:=z')
         have hc2:=Iq (l:=(objs v).filter fun d=>!gone.contains d.1) (fun d hd=>hSW.lns d (List.mem_filter.1 hd).1)
         have hc3:((objs v).filter fun d=>!gone.contains d.1).length≤(objs v).length:=List.length_filter_le _ _
         have hc4:=i2.map z'
         have hw2:IntKind.wrap .i64 (bU 0 s.2.2.2 z' - 1)=bU 0 s.2.2.2 z' - 1:=wrap_i64 (by omega) (by omega)
         rw [hw2]
         have hg:bU 0 (jW s.2.2.2 z' (bU 0 s.2.2.2 z' - 1)) z' = bU 0 s.2.2.2 z' - 1:=by rw [qm,if_pos rfl]
         rw [hg]
         have htl:=FQ i2.nod fun x hx=>(i2.thg x hx).1
         simp only [List.length_append] at htl
         refine Def.ite (fun h8=>?_) (fun h8=>?_)
         ·have h8:bU 0 s.2.2.2 z' - 1=0:=by simpa using h8
          rw [if_pos h8] at k2
          refine Def.bind (.ret ?_)
          exact Def.bind (Def.app (by simp only [List.length_cons,List.length_nil];omega) (.turn ⟨by rw [hs],i1,k2⟩))
         ·have h8 : ¬ bU 0 s.2.2.2 z' - 1=0:=by simpa using h8
          rw [if_neg h8] at k2
          exact .turn ⟨by rw [hs],i1,k2⟩
        ·simp only [List.length_append,List.length_cons,List.length_nil];omega
   ·have hg:bU 0 (jW m b (bU 0 m b - 1)) b=bU 0 m b - 1:=by rw [qm,if_pos rfl]
    rw [hg]
    refine Def.ite (fun h9=>?_) (fun h9=>?_)
    ·refine Def.bind (.ret ?_)
     refine Def.bind (Def.app (by simp) (hj9 _ ?_))
     have h9:bU 0 m b - 1=0:=by simpa using h9
     rw [if_pos h9];rfl
    ·have h9 : ¬ bU 0 m b - 1=0:=by simpa using h9
     exact hj9 _ (by rw [if_neg h9])
 ·simp only [aK]
  refine Def.YA (l:=objs w) (fun s:Int×List (Int×Int)=>s.1) (fun pre s=>∀ x,bU 0 s.2 x=(cnt pre x:Nat)) (by omega) rfl (by simp [cnt,bU]) (fun pre u post s e hs hi=>?_) (fun s hs hi=>.done (hj5 s.2 hi))
  refine Def.bind' (by rw [hs];exact Def.at e) (fun u' hu=>?_)
  subst hu
  have hum:u' ∈ objs w:=by rw [e];simp
  have hpre:pre.length≤20:=by rw [e] at hfew;simp at hfew;omega
  have hfp:=Iq (l:=pre) (fun o ho=>hw.lns o (by rw [e];exact List.mem_append_left _ ho))
  have h70:=hw.lns u' hum
  refine Def.YA (l:=lnk u') (fun s:Int×List (Int×Int)=>s.1) (fun q s=>∀ x,bU 0 s.2 x=((cnt pre x+q.count x:Nat):Int)) (by omega) rfl (by simpa using hi) (fun q z post' s' e' hs' hi'=>?_) (fun s' hs' hi'=>.done (.turn ⟨by rw [hs],fun x=>?_⟩))
  ·refine Def.bind' (by rw [hs'];exact Def.at e') (fun z' hz=>?_)
   subst hz
   have hq:q.count z' ≤ q.length:=List.count_le_length
   have hql:q.length≤70:=by rw [e'] at h70;simp at h70;omega
   have hcl:=cnt_le (l:=pre) (x:=z')
   refine .turn ⟨by rw [hs'],fun x=>?_⟩
   rw [qm,hi',wrap_i64 (by omega) (by omega)]
   by_cases hx:x=z'
   ·subst hx;rw [if_pos rfl];simp [List.count_append];omega
   ·rw [if_neg hx,hi',List.count_append]
    simp [List.count_cons,Ne.symm hx,fun h:z' = x=>hx h.symm]
  ·rw [hi' x,oV,Dx]
end Go.Fn
namespace Go.Fn
open Go Go.Ab Go.Tx
theorem YV (w:D7) (hok:∀ o∈objs w,OkO o):Def (F6 w) fun b=>b=true→Whole (objs w) w.2.2.1:=by
 unfold F6
 refine Def.ite (fun h=>.ret (fun h=>by cases h)) (fun h=>?_)
 have hn:(objs w).length≤20:=by simp at h;exact_mod_cast h
 simp only [aK,oP]
 refine Def.loop (fun i:Int=>0≤i∧i≤(objs w).length∧∀ o∈(objs w).take i.toNat,aaf o) (fun i:Int=>(objs w).length - i.toNat) ⟨by omega,by omega,by simp⟩ (fun i hi=>?_)
 refine Def.ite (fun h1=>?_) (fun h1=>?_)
 ·have h1:i<(objs w).length:=by simpa [objs] using h1
  refine Def.bind (Def.idx hi.1 h1 (fun o ho hm=>?_))
  refine Def.ite (fun h2=>.done (.ret (fun h=>by cases h))) (fun h2=>.turn ?_)
  have hw:IntKind.wrap .i64 (i+1)=i+1:=wrap_i64 (by omega) (by omega)
  have e:(i+1).toNat=i.toNat+1:=by omega
  rw [hw]
  refine ⟨⟨by omega,by omega,?_⟩,by omega⟩
  rw [e,List.take_add_one,ho]
  intro x hx
  rcases List.mem_append.1 hx with hx | hx
  ·exact hi.2.2 x hx
  ·simp at hx;subst hx
   simp at h2
   exact ⟨by omega,by omega,by omega,by omega⟩
 ·have h1 : ¬ i<(objs w).length:=by simpa [objs] using h1
  have e:i.toNat=(objs w).length:=by omega
  have hf:=hi.2.2
  rw [e,List.take_length] at hf
  exact .done (Def.bind' (Xw w hn hf hok) fun b hb=>.ret fun h=>(hb h).1)
theorem ZO {l:List D6} {root:Int} (h:Whole l root):SW l root∧∀ o∈l,o.1≠root→∃ d∈l,o.1∈lnk d:=by
 refine ⟨⟨h.few,h.ids,h.lns,h.lnk,h.has,fun o ho hx=>?_⟩,fun o ho hr=>?_⟩
 ·obtain ⟨r,hr,e⟩:=h.top
  have h0:=(FC h hr e).1
  have:o.1∈aQ l r.1:=dS.2 ⟨o,ho,by rw [e];exact hx,rfl⟩
  rw [h0] at this;cases this
 ·have h0:=held h ho hr
  cases hh:aQ l o.1 with
  | nil=>exact absurd hh h0
  | cons d ds =>
   have:d∈aQ l o.1:=by rw [hh];exact List.mem_cons_self
   obtain ⟨e,he,h3,_⟩:=dS.1 this
   exact ⟨e,he,h3⟩
end Go.Fn
