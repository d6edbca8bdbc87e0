import Derived.Test.YtleeccmcgophfaaPK
set_option linter.all false
namespace Go.Fn
open Go Go.Ab Go.Tx
abbrev thr (o:D6):D4:=o.2.2.2.2.2.2.2.2.1
abbrev gat (o:D6):D5:=o.2.2.2.2.2.2.2.2.2.1
abbrev big:Nat:=9223372036854775807
structure OkO (o:D6):Prop where
 lab:o.2.2.1.length≤big
 lnk:(lnk o).length≤big
 dat:(dat o).length≤big
 mps:o.2.2.2.2.2.2.2.1.length≤big
 clr:(thr o).2.2.1.length≤big
 alr:(thr o).2.2.2.2.2.2.2.2.1.length≤big
 lbs:∀ i,((thr o).2.2.2.2.2.2.2.2.2.2.1 i).length≤big
 gra:(gat o).1.length≤big
 gcl:(gat o).2.1.length≤big
 inn:o.2.2.2.2.2.2.2.2.2.2.1.length≤big
 out:o.2.2.2.2.2.2.2.2.2.2.2.1.length≤big
structure vP (l:List D0):Prop where
 rise:l.Pairwise (fun a b=>a.1<b.1)
 lev:∀ p∈l,0≤p.2.1∧p.2.1≤5∧p.2.1≠2
theorem Ye (l:List D0) (hl:l.length≤big):Def (F82 l) fun b=>b=true→vP l:=by
 unfold F82
 simp only [ay,F97,Option.bind_some]
 refine Def.sZ (l:=l) (fun pre=>vP pre) hl ⟨List.Pairwise.nil,by simp⟩ (fun pre v post e hi=>?_) (fun hi=>.done (.ret fun _=>hi))
 refine Def.bC _ (fun _=>Def.at e) (fun v4 q4 _=>?_)
 refine Def.bC _ (fun hc=>Def.prev e hl (by simp at hc;omega)) (fun v5 q5 _=>?_)
 refine Def.bC _ (fun _=>Def.at e) (fun v6 q6 _=>?_)
 refine Def.ite (fun _=>.done (.ret (fun h=>by cases h))) (fun hc=>.turn ⟨rfl,?_⟩)
 simp at hc q4 q5 q6
 obtain ⟨⟨⟨h0,h5⟩,h2⟩,hp⟩:=hc
 have e4:=q4 h0 h5
 subst e4
 refine ⟨?_,?_⟩
 ·rw [List.pairwise_append]
  refine ⟨hi.rise,by simp,fun x hx y hy=>?_⟩
  simp only [List.mem_singleton] at hy;subst hy
  have hpos:0<pre.length:=List.length_pos_of_mem hx
  have hu:=q5 h0 h5 h2 hpos
  have hv:=q6 h0 h5 h2 hpos
  have hlt:=hp hpos
  rw [hv] at hlt
  have hr:=hi.rise
  obtain ⟨ys,rfl⟩:=List.getLast?_eq_some_iff.1 hu
  rw [List.pairwise_append] at hr
  rcases List.mem_append.1 hx with hx | hx
  ·have:=hr.2.2 x hx v5 (by simp);omega
  ·simp at hx;subst hx;omega
 ·intro p hp'
  rcases List.mem_append.1 hp' with hp' | hp'
  ·exact hi.lev p hp'
  ·simp at hp'; subst hp'; exact ⟨h0,h5,h2⟩
theorem y7 (l:List D0) (hl:l.length≤big):Def (F59 l) fun b=>b=true→l.length≤16∧vP l:=by
 unfold F59
 simp only [ay]
 refine Def.sZ (l:=l) (fun _=>True) hl trivial (fun pre v post e _=>?_) (fun _=>?_)
 ·exact Def.ite (fun _=>.done (.ret (fun h=>by cases h))) (fun _=>.turn ⟨rfl,trivial⟩)
 ·refine Def.done (Def.bC _ (fun _=>Ye l hl) (fun b q _=>.ret (fun h=>?_)))
  by_cases h' : ((l.length:Nat):Int)≤16
  ·rw [if_pos (by simpa using h')] at h
   exact ⟨by omega,q (by simpa using h') h⟩
  ·rw [if_neg (by simpa using h')] at h;cases h
theorem DT {α:Type} {a b:List α} {c:Int→α→α→Bool} (hl:b.length≤big):Def (if (((List.length a:Nat):Int) != ((List.length b:Nat):Int))=true then some false else
  aH (σ:=Int) (ρ:=Bool) (fun s=>if (decide (s<((List.length a:Nat):Int)))=true then Option.bind (aA a s) fun v=>Option.bind (aA b s) fun u=>if c s v u=true then done (some false) else turn (IntKind.wrap .i64 (s+(1:Int))) else done (some true)) (0:Int))
  fun r=>r=true→(∀ s v u,c s v u=false→v=u)→a=b:=by
 refine Def.ite (fun _=>.ret (fun h=>by cases h)) (fun h=>?_)
 have hn:a.length=b.length:=by simp at h;exact_mod_cast h
 refine Def.sZ (l:=a) (fun pre=>(∀ s v u,c s v u=false→v=u)→b.take pre.length=pre) (by rw [hn];exact hl) (by simp) (fun pre v post e hi=>?_) (fun hi=>?_)
 ·have hlt:pre.length<b.length:=by rw [← hn,e];simp
  refine Def.bind (Def.idx (by omega) (by exact_mod_cast hlt) (fun u hu _=>?_))
  refine Def.ite (fun _=>.done (.ret (fun h=>by cases h))) (fun hc=>.turn ⟨rfl,fun hh=>?_⟩)
  have hvu:=hh _ _ _ (by simpa using hc)
  simp only [Int.toNat_natCast] at hu
  rw [List.length_append,List.length_singleton,List.take_add_one,hi hh,hu,hvu];rfl
 ·refine .done (.ret (fun _ hh=>?_))
  have:=hi hh
  rw [hn,List.take_length] at this
  exact this.symm
theorem y8 (a b:List D0) (hl:b.length≤big):Def (F30 a b) fun _=>True:=by
 unfold F30
 simp only [ay]
 exact (DT (c:=fun _ v u=>!(eqK (.prod (.int .u64) (.prod (.int .i64) .unit)) v u)) hl).mono fun _ _=>trivial
theorem y9 (a b:List Int) (hl:b.length≤big):Def (F31 a b) fun r=>r=true→a=b:=by
 unfold F31
 simp only [ay]
 refine (DT (c:=fun _ v u=>v != u) hl).mono fun r h hr=>h hr fun _ v u h=>?_
 simpa using h
theorem Yf (a b:List D1) (hl:b.length≤big):Def (F32 a b) fun _=>True:=by
 unfold F32
 simp only [ay]
 exact (DT (c:=fun _ v u=>!(eqK (.prod (.int .i64) (.prod (.int .i64) (.prod (.int .u64) (.prod (.int .u64) (.prod (.int .i64) (.prod .bool .unit)))))) v u)) hl).mono fun _ _=>trivial
theorem Gi {i:Int} {Q:Unit→Prop} (h0:0≤i) (h1:i<(4:Nat)) (h:Q ()):Def (nI (if (decide ((0:Int)≤i))=true then (decide (i<(4:Int))) else false)) Q :=
 have h4:i<4:=by omega
 Def.guard (by simp [h0,h4]) h
theorem Yg (a b:D4) (h1:b.2.2.1.length≤big) (h2:b.2.2.2.2.2.2.2.2.1.length≤big) (h3:∀ i,(b.2.2.2.2.2.2.2.2.2.2.1 i).length≤big):Def (F33 a b) fun _=>True:=by
 unfold F33
 simp only [ay,eG]
 refine Def.times (n:=4) (by omega) (fun i h0 h4=>?_) ?_
 ·refine Def.bind (Gi h0 h4 (Def.bind (Def.UL h0 h4 fun k=>Def.bind (Gi h0 h4 (Def.bind (Def.UL h0 h4 fun k'=>?_))))))
  refine Def.bind' (R:=fun _=>True) (y8 _ _ (h3 _)) (fun _ _=>?_)
  exact Def.ite (fun _=>.done (.ret trivial)) (fun _=>.turn rfl)
 ·refine Def.done (Def.bC (fun _=>True) (fun _=>y8 _ _ h1) (fun _ _ _=>?_))
  exact Def.bC (fun _=>True) (fun _=>(y9 _ _ h2).mono fun _ _=>trivial) (fun _ _ _=>.ret trivial)
theorem Yh (a b:D5) (h1:b.1.length≤big) (h2:b.2.1.length≤big):Def (F34 a b) fun _=>True:=by
 unfold F34
 simp only [eG]
 refine Def.bind' (R:=fun _=>True) (y8 _ _ h1) (fun _ _=>?_)
 exact Def.bC (fun _=>True) (fun _=>y8 _ _ h2) (fun _ _ _=>.ret trivial)
theorem Yi (a b:D6) (h:OkO b):Def (F14 a b) fun r=>r=true→lnk a=lnk b∧dat a=dat b:=by
 unfold F14
 simp only [eG]
 refine Def.bC (fun _=>True) (fun _=>y8 _ _ h.lab) (fun _ _ _=>?_)
 refine Def.ite (fun _=>.ret (fun h=>by cases h)) (fun _=>?_)
 refine Def.bind' (y9 _ _ h.lnk) (fun v4 q4=>?_)
 refine Def.bC _ (fun _=>y9 _ _ h.dat) (fun v5 q5 _=>?_)
 refine Def.bC (fun _=>True) (fun _=>Yf _ _ h.mps) (fun v6 _ _=>?_)
 refine Def.bC (fun _=>True) (fun _=>Yg _ _ h.clr h.alr h.lbs) (fun v7 _ _=>?_)
 refine Def.bC (fun _=>True) (fun _=>Yh _ _ h.gra h.gcl) (fun v8 _ _=>?_)
 refine Def.bC (fun _=>True) (fun _=>(y9 _ _ h.inn).mono fun _ _=>trivial) (fun v9 _ _=>?_)
 refine Def.bC (fun _=>True) (fun _=>(y9 _ _ h.out).mono fun _ _=>trivial) (fun v10 _ _=>.ret (fun hr=>?_))
 cases v4 with
 | false=>simp at hr
 | true =>
  cases v5 with
  | false=>simp at hr
  | true=>exact ⟨q4 rfl,q5 (by simp) rfl⟩
theorem Yj (o:D6) (h:OkO o):Def (F60 o) fun r=>r=true→(o.2.1≠2→lnk o=[])∧(o.2.1≠1→dat o=[]):=by
 have key:∀ x:D6,((o.2.1≠2→lnk x=[])∧(o.2.1≠1→dat x=[]))→Def (Option.bind (F14 x o) fun v2=>some v2) fun r=>r=true→(o.2.1≠2→lnk o=[])∧(o.2.1≠1→dat o=[]):=by
  intro x hx
  refine Def.bind' (Yi x o h) (fun v q=>.ret (fun hv=>?_))
  obtain ⟨e1,e2⟩:=q hv
  rw [← e1,← e2];exact hx
 unfold F60
 simp only [ay]
 refine Def.ite (fun hk=>?_) (fun hk=>Def.ite (fun hk2=>?_) (fun hk2=>Def.ite (fun hk3=>?_) (fun hk3=>Def.ite (fun hk4=>?_) (fun hk4=>Def.ite (fun hk5=>?_) (fun hk5=>Def.ite (fun hk6=>?_) (fun hk6=>?_))))))
 all_goals refine key _ ⟨fun hn=>?_,fun hn=>?_⟩
 all_goals first | rfl | (simp_all)
theorem Yk (l:List D0) (hl:l.length≤1000000):Def (F61 l) fun _=>True:=by
 unfold F61
 simp only [ay]
 refine Def.Sr (l:=l) (fun pre a=>a.length≤pre.length) (by omega) (by simp) (fun pre v post a e hi=>?_) (fun a hi=>.done (.ret trivial))
 have hlt:pre.length<l.length:=by rw [e];simp
 refine Def.ite (fun h=>?_) (fun h=>.turn ⟨rfl,by simp;omega⟩)
 refine Def.bind' (R:=fun _=>True) ((Def.at e).mono fun _ _=>trivial) (fun u _=>Def.bind (.ret (Def.bind (Def.app (by simp only [List.length_cons,List.length_nil];omega) (.turn ⟨rfl,?_⟩)))))
 simp only [List.length_append,List.length_cons,List.length_nil];omega
theorem Yl (l:List Int) (hl:l.length≤big):Def (F62 l) fun b=>b=true→l.Pairwise (· < ·):=by
 unfold F62
 simp only [ay,F58,Option.bind_some]
 refine Def.sZ (l:=l) (fun pre=>pre.Pairwise (· < ·)) hl List.Pairwise.nil (fun pre v post e hi=>?_) (fun hi=>.done (.ret fun _=>hi))
 refine Def.bC _ (fun hc=>Def.prev e hl (by simp at hc;omega)) (fun u hu _=>?_)
 refine Def.bC _ (fun hc=>Def.at e) (fun v' hv _=>?_)
 refine Def.ite (fun _=>.done (.ret (fun h=>by cases h))) (fun hc=>.turn ⟨rfl,?_⟩)
 rw [List.pairwise_append]
 refine ⟨hi,by simp,fun x hx y hy=>?_⟩
 simp only [List.mem_singleton] at hy;subst hy
 have h0:0<pre.length:=List.length_pos_of_mem hx
 simp [h0] at hc hu hv
 obtain ⟨hc1,hc2⟩:=hc
 have hu:=hu hc1.1 hc1.2
 have hv:=hv hc1.1 hc1.2
 obtain ⟨ys,rfl⟩:=List.getLast?_eq_some_iff.1 hu
 rw [List.pairwise_append] at hi
 rcases List.mem_append.1 hx with hx | hx
 ·have:=hi.2.2 x hx u (by simp);omega
 ·simp at hx;omega
theorem Ym (l:List D1):Def (F63 l) fun _=>True:=by
 unfold F63
 refine Def.ite (fun _=>.ret trivial) (fun hn=>?_)
 simp only [ay,eG,F83,Option.bind_some]
 have hl:l.length≤big:=by simp at hn;unfold big;omega
 refine Def.sZ (l:=l) (fun _=>True) hl trivial (fun pre v post e _=>?_) (fun _=>.done (.ret trivial))
 refine Def.bC (fun _=>True) (fun hc=>(Def.prev e hl (by simp at hc;omega)).mono fun _ _=>trivial) (fun _ _ _=>?_)
 refine Def.bC (fun _=>True) (fun hc=>(Def.prev e hl (by simp at hc;omega)).mono fun _ _=>trivial) (fun _ _ _=>?_)
 refine Def.bC (fun _=>True) (fun _=>(Def.at e).mono fun _ _=>trivial) (fun _ _ _=>?_)
 exact Def.ite (fun _=>.done (.ret trivial)) (fun _=>.turn ⟨rfl,trivial⟩)
theorem IX (l:List D0) (c:Int) (hl:l.length≤big):Def (F86 l c) fun _=>True:=by
 unfold F86
 simp only [ay]
 refine Def.sZ (l:=l) (fun _=>True) hl trivial (fun pre v post e _=>?_) (fun _=>.done (.ret trivial))
 refine Def.ite (fun _=>Def.bind' (R:=fun _=>True) ((Def.at e).mono fun _ _=>trivial) (fun _ _=>.done (.ret trivial))) (fun _=>.turn ⟨rfl,trivial⟩)
theorem oU (a:Int):Def (F98 a) fun _=>True:=by
 unfold F98
 exact Def.ite (fun _=>.ret trivial) (fun _=>.ret trivial)
theorem Q9 (a b:Int):Def (F85 a b) fun _=>True:=by
 unfold F85
 exact Def.bind' (oU _) (fun _ _=>Def.bind' (oU _) (fun _ _=>.ret trivial))
theorem IY (a b:List D0) (ha:a.length≤big) (hb:b.length≤big):Def (F65 a b) fun _=>True:=by
 unfold F65
 simp only [ay]
 refine Def.sZ (l:=a) (fun _=>True) ha trivial (fun pre v post e _=>?_) (fun _=>.done ?_)
 ·refine Def.bind' (R:=fun _=>True) ((Def.at e).mono fun _ _=>trivial) (fun _ _=>Def.bind' (IX _ _ hb) (fun _ _=>Def.bind' (Q9 _ _) (fun _ _=>?_)))
  exact Def.ite (fun _=>.done (.ret trivial)) (fun _=>.turn ⟨rfl,trivial⟩)
 ·refine Def.sZ (l:=b) (fun _=>True) hb trivial (fun pre v post e _=>?_) (fun _=>.done (.ret trivial))
  refine Def.bind' (IX _ _ ha) (fun _ _=>Def.bind' (R:=fun _=>True) ((Def.at e).mono fun _ _=>trivial) (fun _ _=>Def.bind' (Q9 _ _) (fun _ _=>?_)))
  exact Def.ite (fun _=>.done (.ret trivial)) (fun _=>.turn ⟨rfl,trivial⟩)
theorem Yn (l:List D0) (t:D4) (hl:l.length≤big) (h1:t.2.2.1.length≤big) (h3:∀ i,(t.2.2.2.2.2.2.2.2.2.2.1 i).length≤big):Def (F64 l t) fun _=>True:=by
 unfold F64
 simp only [ay,eG]
 refine Def.times (n:=4) (by omega) (fun i h0 h4=>?_) ?_
 ·refine Def.bind (Gi h0 h4 (Def.bind (Def.UL h0 h4 fun k=>Def.bind' (y7 _ (h3 k)) (fun _ _=>?_))))
  exact Def.ite (fun _=>.done (.ret trivial)) (fun _=>.turn rfl)
 ·refine Def.done (Def.ite (fun _=>.ret trivial) (fun _=>Def.bind' (y7 _ h1) (fun _ _=>?_)))
  refine Def.bC (fun _=>True) (fun _=>IY _ _ hl h1) (fun _ _ _=>?_)
  exact Def.bC (fun _=>True) (fun _=>.ret trivial) (fun _ _ _=>.ret trivial)
structure Yo (o:D6):Prop where
 id:1≤o.1∧o.1≤2305843009213693952
 kind:1≤o.2.1∧o.2.1≤6
 lab:o.2.2.1.length≤16
 fit:vP o.2.2.1
 quo:1≤quo o∧quo o≤4096
 own:o.2.1≠2→lnk o=[]
 dat:o.2.1≠1→dat o=[]
 seg:o.2.1=1→((Fn.dat o).length:Int)≤16 * (Fn.quo o - 1)
 lns:(Fn.lnk o).length≤64
 lnk:(Fn.lnk o).Pairwise (· < ·)
theorem Yp (o:D6) (h:OkO o):Def (F42 o) fun b=>b=true→Yo o:=by
 unfold F42
 simp only [F58,Option.bind_some,eG,ay]
 refine Def.bC _ (fun _=>y7 _ h.lab) (fun v2 q2 _=>?_)
 refine Def.bC _ (fun _=>Yj o h) (fun v4 q4 _=>?_)
 refine Def.ite (fun _=>.ret (fun h=>by cases h)) (fun hc=>?_)
 simp at hc
 obtain ⟨⟨⟨⟨⟨⟨hid,hk1⟩,hk2⟩,hv2⟩,hq1⟩,hq2⟩,hv4⟩:=hc
 obtain ⟨hlab,hfit⟩:=q2 (by simp [hid,hk1,hk2]) hv2
 obtain ⟨ho,hd⟩:=q4 (by simp [hid,hk1,hk2,hv2,hq1,hq2]) hv4
 have mk:(o.2.1=1→((Fn.dat o).length:Int)≤16 * (Fn.quo o - 1))→(o.2.1=2→(Fn.lnk o).length≤64∧(Fn.lnk o).Pairwise (· < ·))→Yo o:=fun h1 h2=>{
  id:=hid,kind:=⟨hk1,hk2⟩,lab:=hlab,fit:=hfit,quo:=⟨hq1,hq2⟩,own:=ho,dat:=hd,seg:=h1
  lns:=by
   by_cases e:o.2.1=2
   ·exact (h2 e).1
   ·rw [ho e];simp
  lnk:=by
   by_cases e:o.2.1=2
   ·exact (h2 e).2
   ·rw [ho e];exact List.Pairwise.nil }
 refine Def.bC (fun _=>True) (fun _=>Yk _ (by omega)) (fun v5 _ _=>?_)
 refine Def.ite (fun _=>.ret (fun h=>by cases h)) (fun _=>?_)
 refine Def.ite (fun e1=>.ret (fun hb=>?_)) (fun e1=>?_)
 ·have e1:o.2.1=1:=by simpa using e1
  refine mk (fun _=>?_) (fun e=>by omega)
  have hq:quo o≤4096:=hq2
  have hq' : 1≤quo o:=hq1
  rw [wrap_i64 (x:=o.2.2.2.1 - 1) (by simp only [quo] at hq'; omega) (by simp only [quo] at hq;omega),wrap_i64 (by simp only [quo] at hq'; omega) (by simp only [quo] at hq;omega)] at hb
  simpa using hb
 have e1 : ¬ o.2.1=1:=by simpa using e1
 refine Def.ite (fun e2=>?_) (fun e2=>?_)
 ·refine Def.bC _ (fun _=>Yl _ h.lnk) (fun v6 q6 _=>.ret (fun hb=>?_))
  refine mk (fun e=>absurd e e1) (fun _=>?_)
  by_cases hn:((o.2.2.2.2.2.1.length:Nat):Int)≤64
  ·refine ⟨by simp only [Fn.lnk];omega,q6 (by simpa using hn) ?_⟩
   rw [if_pos (by simpa using hn)] at hb;exact hb
  ·rw [if_neg (by simpa using hn)] at hb;cases hb
 have e2 : ¬ o.2.1=2:=by simpa using e2
 have done:∀ b:Bool,b=true→Yo o:=fun _ _=>mk (fun e=>absurd e e1) (fun e=>absurd e e2)
 refine Def.ite (fun _=>Def.bind' (Ym _) (fun b _=>.ret (done _))) (fun _=>?_)
 refine Def.ite (fun _=>Def.bind' (Yn _ _ h.lab h.clr h.lbs) (fun b _=>.ret (done _))) (fun _=>?_)
 refine Def.ite (fun _=>?_) (fun _=>.ret (done _))
 refine Def.bind' (y7 _ h.gra) (fun b _=>Def.bC (fun _=>True) (fun _=>(y7 _ h.gcl).mono fun _ _=>trivial) (fun _ _ _=>?_))
 exact Def.bC (fun _=>True) (fun _=>IY _ _ h.gra h.gcl) (fun _ _ _=>.ret (done _))
theorem Yq (w:D7) (hn:(objs w).length≤big) (h:∀ o∈objs w,OkO o):Def (F24 w) fun b=>b=true→(objs w).Pairwise (fun a b=>a.1<b.1)∧∀ o∈objs w,Yo o:=by
 unfold F24
 refine Def.ite (fun _=>.ret (fun h=>by cases h)) (fun _=>?_)
 simp only [ay]
 refine Def.sZ (l:=objs w) (fun pre=>pre.Pairwise (fun a b=>a.1<b.1)∧∀ o∈pre,Yo o) hn ⟨List.Pairwise.nil,by simp⟩ (fun pre v post e hi=>?_) (fun hi=>.done (.ret fun _=>hi))
 obtain ⟨hi,hs⟩:=hi
 have hv:v∈objs w:=by rw [e];simp
 refine Def.bind' (Yp v (h v hv)) (fun v3 q3=>?_)
 refine Def.bC _ (fun hc=>Def.prev e hn (by simp at hc;omega)) (fun u hu _=>?_)
 refine Def.bC _ (fun hc=>Def.at e) (fun v' hv' _=>?_)
 refine Def.ite (fun _=>.done (.ret (fun h=>by cases h))) (fun hc=>.turn ⟨rfl,?_,?_⟩)
 ·rw [List.pairwise_append]
  refine ⟨hi,by simp,fun x hx y hy=>?_⟩
  simp only [List.mem_singleton] at hy;subst hy
  have h0:0<pre.length:=List.length_pos_of_mem hx
  simp [h0] at hc hu hv'
  have hu:=hu hc.1
  have hv:=hv' hc.1
  have hc2:=hc.2
  rw [hv] at hc2
  obtain ⟨ys,rfl⟩:=List.getLast?_eq_some_iff.1 hu
  rw [List.pairwise_append] at hi
  rcases List.mem_append.1 hx with hx | hx
  ·have:=hi.2.2 x hx u (by simp);omega
  ·simp at hx;subst hx;omega
 ·intro o ho
  rcases List.mem_append.1 ho with ho | ho
  ·exact hs o ho
  ·simp at ho;subst ho
   refine q3 ?_
   simp at hc;exact hc.1
end Go.Fn
namespace Go.Fn
open Go Go.Ab Go.Tx
theorem Yr (l:List D0) (hl:l.length≤1000):Def (F67 l) fun r=>r.length≤l.length:=by
 unfold F67
 simp only [ay]
 refine Def.Sr (l:=l) (fun pre a=>a.length≤pre.length) (by omega) (by simp) (fun pre v post a e hi=>?_) (fun a hi=>.done (.ret hi))
 have hlt:pre.length<l.length:=by rw [e];simp
 refine Def.bind' (R:=fun _=>True) ((Def.at e).mono fun _ _=>trivial) (fun u _=>?_)
 have h271:∀ n,Def (F89 n) fun _=>True:=fun n=>by
  unfold F89
  exact Def.bind' (oU _) (fun _ _=>Def.ite (fun _=>.ret trivial) (fun _=>Def.bind' (oU _) (fun _ _=>.ret trivial)))
 refine Def.bind' (h271 _) (fun _ _=>Def.bind (.ret (Def.bind (Def.app (by simp only [List.length_cons,List.length_nil];omega) (.turn ⟨rfl,?_⟩)))))
 simp only [List.length_append,List.length_cons,List.length_nil];omega
theorem Yt (a b:Int):Def (F88 a b) fun _=>True:=by
 unfold F88
 refine Def.bind' (oU _) (fun _ _=>Def.bind' (oU _) (fun _ _=>?_))
 exact Def.ite (fun _=>Def.bind' (oU _) (fun _ _=>.ret trivial)) (fun _=>Def.bind' (oU _) (fun _ _=>.ret trivial))
theorem Yu (l:List D0) (c n:Int) (hl:l.length≤1000):Def (F87 l c n) fun r=>r.length≤l.length+1:=by
 unfold F87
 simp only [ay]
 refine Def.Y9 (l:=l) (fun s:List D0×Bool×Int=>s.2.2) (fun pre s=>s.1.length≤pre.length+(if s.2.1=true then 1 else 0)) (by omega) rfl (by simp) (fun pre v post s e hs hi=>?_) (fun s hs hi=>?_)
 ·have hlt:pre.length<l.length:=by rw [e];simp
  have hat:∀ Q:D0→Prop,Q v→Def (aA l s.2.2) Q:=fun Q h=>by rw [hs];exact (Def.at e).mono fun _ h'=>by rw [h'];exact h
  have step:∀ (a:List D0) (b:Bool),a.length≤pre.length+(if b=true then 1 else 0)→Def (Option.bind (aA l s.2.2) fun v9=>if (v9.1 != c)=true then Option.bind (aA l s.2.2) fun v10=>Option.bind (some [v10]) fun v11=>Option.bind (FY 16 a v11) fun v12=>turn (v12,b,IntKind.wrap .i64 (s.2.2+1)) else turn (a,b,IntKind.wrap .i64 (s.2.2+1))) (fun r:(List D0×Bool×Int) ⊕ List D0=>match r with | .inl s'=>s'.2.2=IntKind.wrap .i64 ((pre.length:Int)+1)∧s'.1.length≤(pre++[v]).length+(if s'.2.1=true then 1 else 0) | .inr r=>r.length≤l.length+1):=by
   intro a b ha
   have hb1:(if b=true then 1 else 0)≤1:=by split <;> omega
   refine Def.bind (hat _ (Def.ite (fun _=>Def.bind (hat _ (Def.bind (.ret (Def.bind (Def.app (by simp only [List.length_cons,List.length_nil];omega) (.turn ⟨by rw [hs],?_⟩)))))) ) (fun _=>.turn ⟨by rw [hs],?_⟩)))
   ·simp only [List.length_append,List.length_cons,List.length_nil];omega
   ·simp only [List.length_append,List.length_cons,List.length_nil];omega
  refine Def.bC (fun _=>True) (fun _=>hat _ trivial) (fun v6 _ _=>?_)
  refine Def.ite (fun hc=>?_) (fun hc=>(step _ _ hi).mono fun r hr=>by cases r <;> exact hr)
  have hf:s.2.1=false:=by
   cases hq:s.2.1 with
   | false=>rfl
   | true=>rw [hq] at hc;simp at hc
  rw [hf] at hi
  refine Def.bind (.ret (Def.bind (Def.app (by simp only [List.length_cons,List.length_nil];simp at hi;omega) ((step _ _ ?_).mono fun r hr=>by cases r <;> exact hr))))
  simp only [List.length_append,List.length_cons,List.length_nil]
  simp at hi ⊢; omega
 ·refine .done (Def.ite (fun hc=>?_) (fun hc=>.ret ?_))
  ·have hf:s.2.1=false:=by simpa using hc
   rw [hf] at hi
   simp at hi
   refine Def.bind (.ret (Def.bind (Def.app (by simp only [List.length_cons,List.length_nil];omega) (.ret ?_))))
   simp only [List.length_append,List.length_cons,List.length_nil];omega
  ·have hb1:(if s.2.1=true then 1 else 0)≤1:=by split <;> omega
   omega
theorem Yv (a:List D0) (ha:a.length≤100):Def (F66 a []) fun r=>r.length≤2 * a.length:=by
 unfold F66
 simp only [ay]
 refine Def.Sr (l:=a) (fun pre s=>s.length≤a.length+pre.length) (by omega) (by simp) (fun pre v post s e hi=>?_) (fun s hi=>.done ?_)
 ·have hlt:pre.length<a.length:=by rw [e];simp
  refine Def.bind' (R:=fun _=>True) ((Def.at e).mono fun _ _=>trivial) (fun _ _=>Def.bind' (R:=fun _=>True) ((Def.at e).mono fun _ _=>trivial) (fun _ _=>?_))
  refine Def.bind' (IX _ _ (by simp)) (fun _ _=>Def.bind' (Yt _ _) (fun _ _=>Def.bind' (Yu _ _ _ (by simp only;omega)) (fun r hr=>.turn ⟨rfl,?_⟩)))
  simp only [List.length_append,List.length_cons,List.length_nil] at hr ⊢; omega
 ·refine Def.Sr (l:=([]:List D0)) (fun pre x=>x.length≤2 * a.length) (by simp) (by simp only;omega) (fun pre v post s e hi=>by cases pre <;> cases e) (fun s hi=>.done (.ret hi))
theorem Yw (d o:List D0) (hd:d.length≤100) (ho:o.length≤100):Def (F43 d o) fun _=>True:=by
 unfold F43
 refine Def.bind' (Yr _ (by omega)) (fun r hr=>Def.bind' (Yv _ (by omega)) (fun r' hr'=>Def.bind' (IY _ _ (by unfold big;omega) (by unfold big;omega)) (fun _ _=>.ret trivial)))
theorem jg {l:List D6} {id:Int} (h:(bM l id).2=true):(bM l id).1∈l∧(bM l id).1.1=id:=by
 unfold bM at h ⊢
 cases hf:l.find? (fun o=>o.1==id) with
 | none=>rw [hf] at h;cases h
 | some o =>
  have:=List.find?_some hf
  exact ⟨List.mem_of_find?_eq_some hf,by simpa using this⟩
theorem Rf (w:D7) (d:D6) (hn:(objs w).length≤1000) (hs:∀ o∈objs w,o.2.2.1.length≤16) (hd:d.2.2.1.length≤16) (hk:(lnk d).length≤1000) (hdat:(dat d).length≤1000000):Def (F25 w d) fun b=>b=true→(∀ x∈lnk d,∃ y∈objs w,y.1=x)∧(d.2.1=2→qB (objs w) (pages d) (lnk d)≤quo d):=by
 unfold F25
 simp only [ay]
 refine Def.sZ (l:=lnk d) (fun pre=>∀ x∈pre,∃ y∈objs w,y.1=x) (by omega) (by simp) (fun pre v post e hi=>?_) (fun hi=>.done ?_)
 ·refine Def.bind (Def.of (vO w v hn) ?_)
  refine Def.bC (fun _=>True) (fun hc=>Yw _ _ (by omega) ?_) (fun v5 _ _=>?_)
  ·have:=hs _ (jg (by simpa using hc)).1;omega
  ·refine Def.ite (fun _=>.done (.ret (fun h=>by cases h))) (fun hc=>.turn ⟨rfl,fun x hx=>?_⟩)
   rcases List.mem_append.1 hx with hx | hx
   ·exact hi x hx
   ·simp only [List.mem_singleton] at hx
    subst hx
    simp at hc
    exact ⟨_,jg hc.1⟩
 ·refine Def.bC (fun v=>v=qB (objs w) (pages d) (lnk d)) (fun _=>Def.of (Q8 w d hn hdat hk) rfl) (fun v2 q2 _=>.ret (fun hb=>⟨hi,fun e=>?_⟩))
  have q:=q2 (by simp [e])
  simp [e] at hb
  rw [← q];exact hb
theorem Rh (a b c:Int):Def (F90 a b c) fun _=>True:=by
 unfold F90 F99
 refine Def.bind' (R:=fun _=>True) (Def.bind (Def.shr (by decide) fun _=>Def.bind (Def.shr (by decide) fun _=>Def.bind (Def.shr (by decide) fun _=>.ret trivial)))) (fun _ _=>Def.bind (Def.shr (by decide) fun _=>.ret trivial))
theorem Yx (a b:Int):Def (F69 a b) fun _=>True:=by
 unfold F69
 simp only [ay]
 refine Def.bind (Def.shr (by decide) fun v2=>?_)
 refine Def.loop (fun s:Int×Int×Int=>0≤s.2.2∧s.2.2≤8) (fun s=>8 - s.2.2.toNat) ⟨by simp,by simp⟩ (fun s hi=>?_)
 obtain ⟨h1,h2⟩:=hi
 refine Def.ite (fun hc=>?_) (fun hc=>.done (Def.bind (Def.shl (by decide) fun _=>.ret trivial)))
 have hc:s.2.2<8:=by simpa using hc
 have hw:IntKind.wrap .u64 (s.2.2+1)=s.2.2+1:=wrap_in (by simp [inR];omega)
 refine Def.bind (Def.rem (by decide) fun v6=>Def.ite (fun _=>?_) (fun _=>?_))
 ·refine Def.bind' (Rh _ _ _) (fun _ _=>.turn ?_)
  simp only [hw]
  exact ⟨⟨by omega,by omega⟩,by omega⟩
 ·refine Def.bind' (Rh _ _ _) (fun _ _=>.turn ?_)
  simp only [hw]
  exact ⟨⟨by omega,by omega⟩,by omega⟩
theorem Ri (a:Int) (s:D2) (b:Int):Def (F45 a s b) fun _=>True:=by
 unfold F45
 exact Def.bind' (Yx _ _) (fun _ _=>.ret trivial)
theorem Yy (w:D7) (hn:(objs w).length≤1000):Def (F27 w) fun _=>True:=by
 unfold F27
 simp only [ay]
 refine Def.sZ (l:=objs w) (fun _=>True) (by omega) trivial (fun pre v post e _=>?_) (fun _=>.done (.ret trivial))
 refine Def.loop (fun i:Int=>0≤i∧i≤(objs w).length) (fun i:Int=>(objs w).length - i.toNat) ⟨by simp,by omega⟩ (fun i hi=>?_)
 refine Def.ite (fun hc=>?_) (fun hc=>.done (.turn ⟨rfl,trivial⟩))
 have hlt:i<(objs w).length:=by
  by_cases h:i<(objs w).length
  ·exact h
  ·exfalso;simp only [objs] at h;rw [if_neg (by simpa using h)] at hc;cases hc
 refine Def.bind (Def.idx hi.1 hlt (fun o _ _=>Def.bind' (Ri _ _ _) (fun _ _=>?_)))
 refine Def.bC (fun _=>True) (fun _=>?_) (fun _ _ _=>Def.ite (fun _=>.done (.done (.ret trivial))) (fun _=>.turn ?_))
 ·unfold F46
  exact .ret trivial
 ·rw [wrap_i64 (by omega) (by omega)]
  exact ⟨⟨by omega,by omega⟩,by omega⟩
theorem Rj {o:D6} (h:Yo o) (hk:o.2.1≠2):pages o≤quo o:=by
 unfold pages
 have:=h.quo
 by_cases e:o.2.1=1
 ·have:=h.seg e
  omega
 ·rw [h.dat e]
  simp
  omega
theorem Rk (w:D7) (hn:(objs w).length≤20) (hf:∀ o∈objs w,abp o) (h:∀ o∈objs w,OkO o):Def (F10 w) fun b=>b=true→Whole (objs w) w.2.2.1∧∀ o∈objs w,Yo o:=by
 unfold F10
 refine Def.bind (Def.of (vO w _ (by omega)) ?_)
 refine Def.bind' (Yq w (by unfold big;omega) h) (fun v2 q2=>?_)
 refine Def.ite (fun _=>.ret (fun h=>by cases h)) (fun hc=>?_)
 simp at hc
 obtain ⟨hids,hsn⟩:=q2 hc.1
 simp only [ay]
 have hl:∀ o∈objs w,(lnk o).length≤1000:=fun o ho=>by have:=(hf o ho).2.1;simp only [lnk];omega
 refine Def.sZ (l:=objs w) (fun pre=>∀ o∈pre,((∀ x∈lnk o,∃ y∈objs w,y.1=x)∧(o.2.1=2→qB (objs w) (pages o) (lnk o)≤quo o))∧jy (objs w) w.2.2.1 o=true) (by omega) (by simp) (fun pre v post e hi=>?_) (fun hi=>.done ?_)
 ·have hv:v∈objs w:=by rw [e];simp
  refine Def.bind' (Rf w v (by omega) (fun o ho=>(hsn o ho).lab) (hsn v hv).lab (hl v hv) (by have:=(hf v hv).2.2.1;simp only [dat];omega)) (fun v5 q5=>?_)
  refine Def.bC _ (fun _=>Def.at e) (fun v6 q6 _=>?_)
  refine Def.bC (fun v=>v=jy (objs w) w.2.2.1 v6) (fun _=>Def.of (V3 w v6 (by omega) hl) rfl) (fun v7 q7 _=>?_)
  refine Def.ite (fun _=>.done (.ret (fun h=>by cases h))) (fun hc=>.turn ⟨rfl,fun o ho=>?_⟩)
  rcases List.mem_append.1 ho with ho | ho
  ·exact hi o ho
  ·simp only [List.mem_singleton] at ho
   subst ho
   simp at hc
   have e6:=q6 (by simp [hc.1])
   subst e6
   have e7:=q7 (by simp [hc.1])
   rw [hc.2] at e7
   exact ⟨q5 hc.1,e7.symm⟩
 ·refine Def.bind' (Yy w (by omega)) (fun v _=>.ret (fun _=>⟨?_,hsn⟩))
  exact {
   few:=hn,ids:=hids,quo:=fun o ho=>(hsn o ho).quo
   dat:=fun o ho=>(hf o ho).2.2.1,lns:=fun o ho=>(hf o ho).2.1
   own:=fun o ho hk=>⟨(hsn o ho).own hk,Rj (hsn o ho) hk⟩
   lnk:=fun o ho=>(hsn o ho).lnk,has:=fun o ho=>(hi o ho).1.1,uses:=fun o ho=>(hi o ho).1.2
   top:=⟨_,jg hc.2⟩,placed:=fun o ho=>(hi o ho).2 }
end Go.Fn
namespace Go.Fn
open Go Go.Ab Go.Tx
theorem DU {i j:Nat} (hn:i+j≤4611686018427387904):Bc .u64 (IntKind.wrap .u64 (IntKind.wrap .i64 ((i:Int)+j))) 1=some (((i+j) / 2:Nat):Int):=by
 rw [wrap_i64 (x:=(i:Int)+j) (by omega) (by omega)]
 have e:IntKind.wrap .u64 ((i:Int)+j)=(i:Int)+j:=wrap_in (by simp [inR];omega)
 rw [e,Bc,if_pos (by decide)]
 have e2:((i:Int)+j).fdiv (2 ^ (min (1:Int).toNat (IntKind.bits .u64)))=(((i+j) / 2:Nat):Int):=by
  rw [show min (1:Int).toNat (IntKind.bits .u64)=1 from by decide,Int.fdiv_eq_ediv_of_nonneg _ (by decide)]
  simp
 rw [e2]
section
variable {ρ:Type}
theorem Def.search {n m:Nat} (hm:m≤n) (hn:n≤1000000) {B E:Int×Int→Option ((Int×Int) ⊕ ρ)} {Q:ρ→Prop}
  (hb:∀ i j:Nat,i<j→j≤n→i≤m→m≤j→Def (B ((i:Int),(j:Int))) fun r=>match r with | .inl s=>(s=((((i+j) / 2:Nat):Int)+1,(j:Int))∧(i+j) / 2<m)∨(s=((i:Int),(((i+j) / 2:Nat):Int))∧m≤(i+j) / 2) | .inr r=>Q r)
  (he:Def (E ((m:Int),(m:Int))) fun r=>match r with | .inl _=>False | .inr r=>Q r) :
  Def (aH (fun s=>if decide (s.1<s.2)=true then B s else E s) ((0:Int),(n:Int))) Q:=by
 refine Def.loop (fun s:Int×Int=>∃ i j:Nat,s=((i:Int),(j:Int))∧i≤m∧m≤j∧j≤n) (fun s=>(s.2 - s.1).toNat) ⟨0,n,rfl,by omega,hm,by omega⟩ (fun s hi=>?_)
 obtain ⟨i,j,rfl,h1,h2,h3⟩:=hi
 refine Def.ite (fun hc=>?_) (fun hc=>?_)
 ·have hlt:i<j:=by simpa using hc
  refine (hb i j hlt h3 h1 h2).mono fun r hr=>?_
  cases r with
  | inr r=>exact hr
  | inl s =>
   rcases hr with ⟨rfl,h⟩ | ⟨rfl,h⟩
   ·exact ⟨⟨(i+j) / 2+1,j,by simp,by omega,by omega,by omega⟩,by simp only;omega⟩
   ·exact ⟨⟨i,(i+j) / 2,rfl,by omega,by omega,by omega⟩,by simp only;omega⟩
 ·have hge : ¬ i<j:=by simpa using hc
  have e1:i=m:=by omega
  have e2:j=m:=by omega
  subst e1;subst e2
  refine he.mono fun r hr=>?_
  cases r with
  | inl s=>exact hr.elim
  | inr r=>exact hr
end
theorem Ky (a b:Int):F51 a b=some (if a<b then -1 else if b<a then 1 else 0):=by
 unfold F51 F52
 simp only [Option.bind_some,ay,bne_self_eq_false,Bool.false_eq_true,if_false]
 by_cases h1:a<b
 ·simp [h1]
 ·by_cases h2:b<a
  ·simp [h1,h2]
  ·simp [h1,h2]
theorem Z9 (a b:Int):F37 a b=some (decide (a<b)):=by
 unfold F37 F52
 simp
theorem V4 (l:List Int) (t:Int) (hl:l.length≤1000000) (hp:l.Pairwise (· < ·)):F16 l t=some ((gI l t:Int),decide (t∈l)):=by
 refine Def.eq ?_
 unfold F16
 simp only [ay]
 refine Def.search (n:=l.length) (m:=gI l t) (DL l t) hl (fun i j hij hj h1 h2=>?_) (.done ?_)
 ·simp only
  rw [DU (by omega)]
  have hk:(i+j) / 2<l.length:=by omega
  have ew:IntKind.wrap .i64 (((i+j) / 2:Nat):Int)=(((i+j) / 2:Nat):Int):=wrap_i64 (by omega) (by omega)
  have ew2:IntKind.wrap .i64 ((((i+j) / 2:Nat):Int)+1)=(((i+j) / 2:Nat):Int)+1:=wrap_i64 (by omega) (by omega)
  rw [Option.bind_some]
  simp only [ew,ew2]
  refine Def.bind (Def.idx (by omega) (by omega) (fun v hv _=>?_))
  simp only [Int.toNat_natCast] at hv
  have hlow:=rC hp t _ v hv
  rw [Z9,Option.bind_some]
  refine Def.ite (fun hc=>.turn (.inl ⟨rfl,?_⟩)) (fun hc=>.turn (.inr ⟨rfl,?_⟩))
  ·exact hlow.1 (by simpa using hc)
  ·have : ¬ v<t:=by simpa using hc
   exact Nat.le_of_not_lt fun h=>this (hlow.2 h)
 ·simp only [F38,bne_self_eq_false]
  by_cases hlt:gI l t<l.length
  ·have hg:=List.getElem?_eq_getElem hlt
   have hm:=DN hp hg
   have h1:aA l (gI l t:Int)=some l[gI l t]:=by rw [jJ,hg]
   have hd:decide (((gI l t:Nat):Int)<((l.length:Nat):Int))=true:=by simpa using hlt
   simp only [hd,h1,Bool.and_true,Bool.true_and,if_true,Option.bind_some]
   by_cases he:l[gI l t]=t
   ·simp [he,hm.2 he,Def]
   ·have:t ∉ l:=fun h=>he (hm.1 h)
    simp [he,this,Def]
  ·have hd:decide (((gI l t:Nat):Int)<((l.length:Nat):Int))=false:=by simpa using hlt
   have:t ∉ l:=DR hp (by omega)
   simp only [hd,Bool.false_and,Bool.false_eq_true,if_false,Option.bind_some]
   exact ⟨_,rfl,by simp [this]⟩
abbrev keys (l:List D6):List Int:=l.map (·.1)
theorem Gj {l:List D6} (h:l.Pairwise (fun a b=>a.1<b.1)):(keys l).Pairwise (· < ·):=by
 rw [List.pairwise_map];exact h
theorem V5 (w:D7) (id:Int) (hl:(objs w).length≤1000000) (hp:(objs w).Pairwise (fun a b=>a.1<b.1)):F15 w id=some (bM (objs w) id):=by
 refine Def.eq ?_
 unfold F15 F35
 rw [Option.bind_some]
 have e0:((yX (yV (Ty.zero t9:D9) w.2.2.2.1) ()):D8).1=objs w:=rfl
 simp only [ay,e0]
 have hk:=Gj hp
 have hlen:(keys (objs w)).length=(objs w).length:=by simp [keys]
 have hge:∀ (k:Nat) (v:D6),(objs w)[k]? = some v→(keys (objs w))[k]? = some v.1:=fun k v h=>by simp [keys,h]
 refine Def.search (n:=(objs w).length) (m:=gI (keys (objs w)) id) (by rw [← hlen];exact DL _ _) hl (fun i j hij hj h1 h2=>?_) (.done ?_)
 ·simp only
  rw [DU (by omega)]
  have ew:IntKind.wrap .i64 (((i+j) / 2:Nat):Int)=(((i+j) / 2:Nat):Int):=wrap_i64 (by omega) (by omega)
  have ew2:IntKind.wrap .i64 ((((i+j) / 2:Nat):Int)+1)=(((i+j) / 2:Nat):Int)+1:=wrap_i64 (by omega) (by omega)
  rw [Option.bind_some]
  simp only [ew,ew2]
  refine Def.bind (Def.idx (by omega) (by show _<(((objs w).length:Nat):Int);omega) (fun v hv _=>?_))
  simp only [Int.toNat_natCast] at hv
  have hlow:=rC hk id _ v.1 (hge _ _ hv)
  rw [F48,Option.bind_some,Ky,Option.bind_some]
  refine Def.ite (fun hc=>.turn (.inl ⟨rfl,?_⟩)) (fun hc=>.turn (.inr ⟨rfl,?_⟩))
  ·refine hlow.1 ?_
   by_cases h:v.1<id
   ·exact h
   ·by_cases h' : id<v.1 <;> simp [h,h'] at hc
  ·have : ¬ v.1<id:=fun h=>by simp [h] at hc
   exact Nat.le_of_not_lt fun h=>this (hlow.2 h)
 ·by_cases hlt:gI (keys (objs w)) id<(objs w).length
  ·have hg:=List.getElem?_eq_getElem hlt
   have hm:=DN hk (hge _ _ hg)
   have h1:aA (objs w) (gI (keys (objs w)) id:Int)=some (objs w)[gI (keys (objs w)) id]:=by rw [jJ,hg]
   have hd:decide (((gI (keys (objs w)) id:Nat):Int)<(((objs w).length:Nat):Int))=true:=by simpa using hlt
   generalize ho:(objs w)[gI (keys (objs w)) id]=o at h1 hm
   have hin:o∈objs w:=by rw [← ho];exact List.getElem_mem hlt
   simp only [hd,h1,Bool.and_true,if_true,Option.bind_some,F48,Ky]
   by_cases he:o.1=id
   ·subst he
    refine ⟨_,by simp only [Int.lt_irrefl,if_false];rfl,?_⟩
    exact (cu hp o hin).symm
   ·have hno:∀ x∈objs w,x.1≠id:=fun x hx e=>he (hm.1 (List.mem_map.2 ⟨x,hx,e⟩))
    refine ⟨_,?_,rfl⟩
    rw [uQ hno]
    have : ¬ ((if o.1<id then (-1:Int) else if id<o.1 then 1 else 0)==0)=true:=by
     by_cases h1:o.1<id
     ·simp [h1]
     ·by_cases h2:id<o.1
      ·simp [h1,h2]
      ·omega
    rw [if_pos (by simpa using this)]
  ·have hd:decide (((gI (keys (objs w)) id:Nat):Int)<(((objs w).length:Nat):Int))=false:=by simpa using hlt
   have hno:∀ x∈objs w,x.1≠id:=fun x hx e=>DR hk (by rw [hlen];omega) (List.mem_map.2 ⟨x,hx,e⟩)
   simp only [hd,Bool.false_and,Bool.false_eq_true,if_false,Option.bind_some]
   exact ⟨_,rfl,(uQ hno).symm⟩
end Go.Fn
namespace Go.Fn
open Go Go.Ab Go.Tx
end Go.Fn
namespace Go.Fn
open Go Go.Ab Go.Tx
def Kz (n:Int):Int:=if n=0 then 5 else n
def jr (l:List D0):List D0:=l.map fun p=>(p.1,Kz p.2.1,())
def uS (l:List D0) (c:Int):Int:=match l.find? (fun p=>p.1==c) with | some p=>p.2.1 | none=>2
theorem jL:∀ {l:List D0},l.Pairwise (fun a b=>a.1<b.1)→∀ p∈l,uS l p.1=p.2.1
 | [],_,o,h=>by cases h
 | a::l,hp,o,h=>by
  obtain ⟨h1,h2⟩:=List.pairwise_cons.1 hp
  rcases List.mem_cons.1 h with rfl | h
  ·simp [uS]
  ·have:=h1 o h
   have hne:(a.1==o.1)=false:=by simp;omega
   have ih:=jL h2 o h
   unfold uS at ih ⊢
   rw [List.find?_cons,hne]
   exact ih
theorem kC {l:List D0} {c:Int} (h:∀ p∈l,p.1≠c):uS l c=2:=by
 have:l.find? (fun p=>p.1==c)=none:=List.find?_eq_none.2 fun p hp=>by simpa using h p hp
 unfold uS
 rw [this]
theorem zh {l:List D0} (h:vP l):(jr l).Pairwise (fun a b=>a.1<b.1):=by
 unfold jr
 rw [List.pairwise_map]
 exact h.rise
def qM (d o:List D0):Bool:=d.all fun p=>decide (p.2.1≤max 2 (uS (jr o) p.1))
end Go.Fn
namespace Go.Fn
open Go Go.Ab Go.Tx
theorem Gl {k t:Int} {ks:List Int}:gI (k::ks) t=if k<t then gI ks t+1 else gI ks t:=by
 unfold gI
 rw [List.filter_cons]
 by_cases h:k<t <;> simp [h]
theorem zk:∀ {l:List D6},l.Pairwise (fun a b=>a.1<b.1)→∀ t:Int,l.take (gI (keys l) t)=l.filter (fun o=>decide (o.1<t))∧l.drop (gI (keys l) t)=l.filter (fun o=>!decide (o.1<t))
 | [],_,t=>by simp
 | o::l,hp,t=>by
  obtain ⟨h1,h2⟩:=List.pairwise_cons.1 hp
  obtain ⟨i1,i2⟩:=zk h2 t
  by_cases h:o.1<t
  ·have e:gI (keys (o::l)) t=gI (keys l) t+1:=by simp only [keys,List.map_cons,Gl,h,if_true]
   rw [e]
   simp only [List.take_succ_cons,List.drop_succ_cons,List.filter_cons,h,decide_true,if_true,Bool.not_true,Bool.false_eq_true,if_false]
   exact ⟨by rw [i1],i2⟩
  ·have hall:∀ x∈o::l,¬ x.1<t:=by
    intro x hx
    rcases List.mem_cons.1 hx with rfl | hx
    ·exact h
    ·have:=h1 x hx;omega
   have e:gI (keys (o::l)) t=0:=by
    unfold gI
    rw [List.filter_eq_nil_iff.2]
    ·rfl
    ·intro x hx
     obtain ⟨y,hy,rfl⟩:=List.mem_map.1 hx
     simpa using hall y hy
   rw [e]
   refine ⟨?_,?_⟩
   ·rw [List.take_zero,List.filter_eq_nil_iff.2]
    intro x hx;simpa using hall x hx
   ·rw [List.drop_zero,List.filter_eq_self.2]
    intro x hx;simpa using hall x hx
def insL (l:List Int) (t:Int):List Int:=l.filter (fun o=>decide (o<t))++t::l.filter (fun o=>!decide (o<t))
def tY (l:List D6) (o:D6):List D6:=l.filter (fun x=>decide (x.1<o.1))++o::l.filter (fun x=>decide (o.1<x.1))
theorem KA {l:List D6} (hp:l.Pairwise (fun a b=>a.1<b.1)) (o:D6) (hl:l.length≤1000000) (hno:∀ x∈l,x.1≠o.1):abo 632 l (gI (keys l) o.1:Int) [o]=some (tY l o):=by
 have h1:=DL (keys l) o.1
 have h2:(keys l).length=l.length:=by simp [keys]
 rw [abo,if_pos ⟨by omega,by omega,by simp only [List.length_cons,List.length_nil];omega⟩]
 obtain ⟨e1,e2⟩:=zk hp o.1
 simp only [Int.toNat_natCast,e1,e2,tY]
 have:l.filter (fun x=>!decide (x.1<o.1))=l.filter (fun x=>decide (o.1<x.1)):=by
  refine List.filter_congr fun x hx=>?_
  have:=hno x hx
  by_cases h:x.1<o.1
  ·have h' : ¬ o.1<x.1:=by omega
   simp [h,h']
  ·have h' : o.1<x.1:=by omega
   simp [h,h']
 rw [this];simp
theorem U3 {l:List D6} (hp:l.Pairwise (fun a b=>a.1<b.1)) (o v:D6) (hv:l[gI (keys l) o.1]? = some v) (e:v.1=o.1):eF l (gI (keys l) o.1:Int) o=some (tY l o):=by
 obtain ⟨hlt,hve⟩:=List.getElem?_eq_some_iff.1 hv
 rw [eF,if_pos ⟨by omega,by simpa using hlt⟩]
 obtain ⟨e1,e2⟩:=zk hp o.1
 simp only [Int.toNat_natCast,Option.some.injEq]
 rw [List.set_eq_take_append_cons_drop,if_pos hlt,e1,tY]
 have hd:l.drop (gI (keys l) o.1)=v::l.drop (gI (keys l) o.1+1):=by rw [← hve];exact List.drop_eq_getElem_cons hlt
 rw [hd] at e2
 have e3:l.drop (gI (keys l) o.1+1)=l.filter (fun x=>decide (o.1<x.1)):=by
  have hp2:(v::l.drop (gI (keys l) o.1+1)).Pairwise (fun a b=>a.1<b.1):=by rw [← hd];exact hp.sublist (List.drop_sublist _ _)
  obtain ⟨q1,q2⟩:=List.pairwise_cons.1 hp2
  have h1:(v::l.drop (gI (keys l) o.1+1)).filter (fun x=>decide (o.1<x.1))=l.drop (gI (keys l) o.1+1):=by
   rw [List.filter_cons,if_neg (by simp;omega),List.filter_eq_self.2]
   intro x hx
   have:=q1 x hx
   simp;omega
  rw [← h1,e2,List.filter_filter]
  refine List.filter_congr fun x hx=>?_
  by_cases h:o.1<x.1
  ·have h' : ¬ x.1<o.1:=by omega
   simp [h,h']
  ·simp [h]
 rw [e3]
theorem DV {l:List Int} {t x:Int}:x∈insL l t↔x=t∨x∈l:=by
 simp only [insL,List.mem_append,List.mem_cons,List.mem_filter]
 by_cases h:x<t
 ·simp [h];constructor
  ·rintro (h1 | h1)
   ·exact .inr h1
   ·omega
  ·rintro (h1 | h1)
   ·omega
   ·exact .inl h1
 ·simp [h]
theorem DW {l:List D6} {o x:D6}:x∈tY l o↔x=o∨x∈l∧x.1≠o.1:=by
 simp only [tY,List.mem_append,List.mem_cons,List.mem_filter,decide_eq_true_eq]
 constructor
 ·rintro (⟨h1,h2⟩ | h | ⟨h1,h2⟩)
  ·exact .inr ⟨h1,by omega⟩
  ·exact .inl h
  ·exact .inr ⟨h1,by omega⟩
 ·rintro (h | ⟨h1,h2⟩)
  ·exact .inr (.inl h)
  ·by_cases h:x.1<o.1
   ·exact .inl ⟨h1,h⟩
   ·exact .inr (.inr ⟨h1,by omega⟩)
theorem Rl {l:List Int} (hp:l.Pairwise (· < ·)) {t:Int} (hn:t ∉ l):(insL l t).Pairwise (· < ·):=by
 unfold insL
 rw [List.pairwise_append,List.pairwise_cons]
 refine ⟨hp.filter _,⟨fun x hx=>?_,hp.filter _⟩,fun x hx y hy=>?_⟩
 ·simp only [List.mem_filter] at hx
  have h1 : ¬ x<t:=by simpa using hx.2
  have:x≠t:=fun e=>hn (e ▸ hx.1)
  omega
 ·simp only [List.mem_filter,decide_eq_true_eq] at hx
  rcases List.mem_cons.1 hy with rfl | hy
  ·exact hx.2
  ·simp only [List.mem_filter] at hy
   have h1 : ¬ y<t:=by simpa using hy.2
   omega
theorem Rn {l:List D6} (hp:l.Pairwise (fun a b=>a.1<b.1)) (o:D6):(tY l o).Pairwise (fun a b=>a.1<b.1):=by
 unfold tY
 rw [List.pairwise_append,List.pairwise_cons]
 refine ⟨hp.filter _,⟨fun x hx=>?_,hp.filter _⟩,fun x hx y hy=>?_⟩
 ·simp only [List.mem_filter,decide_eq_true_eq] at hx;exact hx.2
 ·simp only [List.mem_filter,decide_eq_true_eq] at hx
  rcases List.mem_cons.1 hy with rfl | hy
  ·exact hx.2
  ·simp only [List.mem_filter,decide_eq_true_eq] at hy;omega
abbrev Ris (w:D7):Prop:=(objs w).Pairwise (fun a b=>a.1<b.1)
def U4 (w:D7) (o:D6):D7:=if (tY (objs w) o).length≤1024 then bn w (tY (objs w) o) else w
theorem aac (w:D7) (o:D6) (hl:(objs w).length≤100000) (hp:Ris w):F20 w o=some (U4 w o):=by
 refine Def.eq ?_
 unfold F20 F35
 rw [Option.bind_some]
 have e0:((yX (yV (Ty.zero t9:D9) w.2.2.2.1) ()):D8).1=objs w:=rfl
 simp only [ay,e0]
 have hk:=Gj hp
 have hlen:(keys (objs w)).length=(objs w).length:=by simp [keys]
 have hge:∀ (k:Nat) (v:D6),(objs w)[k]? = some v→(keys (objs w))[k]? = some v.1:=fun k v h=>by simp [keys,h]
 have fin:∀ l,l=tY (objs w) o→Def (if decide (((List.length l:Nat):Int)≤(1024:Int))=true then some (bn w l) else some w) fun r=>r=U4 w o:=by
  rintro l rfl
  unfold U4
  refine Def.ite (fun hc=>.ret ?_) (fun hc=>.ret ?_)
  ·rw [if_pos (by simp only [decide_eq_true_eq] at hc;omega)]
  ·rw [if_neg (by simp only [decide_eq_true_eq] at hc;omega)]
 have hc0:∀ {Q:List D6→Prop},Q (objs w)→Def (FY 632 [] (objs w)) Q:=fun h=>Def.app (by simp only [List.length_nil];omega) (by simpa using h)
 rw [F48,Option.bind_some]
 refine Def.search (n:=(objs w).length) (m:=gI (keys (objs w)) o.1) (by rw [← hlen];exact DL _ _) (by omega) (fun i j hij hj h1 h2=>?_) (.done ?_)
 ·simp only
  rw [DU (by omega)]
  have ew:IntKind.wrap .i64 (((i+j) / 2:Nat):Int)=(((i+j) / 2:Nat):Int):=wrap_i64 (by omega) (by omega)
  have ew2:IntKind.wrap .i64 ((((i+j) / 2:Nat):Int)+1)=(((i+j) / 2:Nat):Int)+1:=wrap_i64 (by omega) (by omega)
  rw [Option.bind_some]
  simp only [ew,ew2]
  refine Def.bind (Def.idx (by omega) (by show _<(((objs w).length:Nat):Int);omega) (fun v hv _=>?_))
  simp only [Int.toNat_natCast] at hv
  have hlow:=rC hk o.1 _ v.1 (hge _ _ hv)
  rw [F48,Option.bind_some,Ky,Option.bind_some]
  refine Def.ite (fun hc=>.turn (.inl ⟨rfl,?_⟩)) (fun hc=>.turn (.inr ⟨rfl,?_⟩))
  ·refine hlow.1 ?_
   by_cases h:v.1<o.1
   ·exact h
   ·by_cases h' : o.1<v.1 <;> simp [h,h'] at hc
  ·have : ¬ v.1<o.1:=fun h=>by simp [h] at hc
   exact Nat.le_of_not_lt fun h=>this (hlow.2 h)
 ·by_cases hlt:gI (keys (objs w)) o.1<(objs w).length
  ·have hg:=List.getElem?_eq_getElem hlt
   have hm:=DN hk (hge _ _ hg)
   have h1:aA (objs w) (gI (keys (objs w)) o.1:Int)=some (objs w)[gI (keys (objs w)) o.1]:=by rw [jJ,hg]
   have hd:decide (((gI (keys (objs w)) o.1:Nat):Int)<(((objs w).length:Nat):Int))=true:=by simpa using hlt
   generalize ho:(objs w)[gI (keys (objs w)) o.1]=v at h1 hm hg
   simp only [hd,h1,Bool.and_true,if_true,Option.bind_some,F48,Ky]
   refine Def.bind (hc0 ?_)
   by_cases he:v.1=o.1
   ·have hx:((if v.1<o.1 then (-1:Int) else if o.1<v.1 then 1 else 0)==0)=true:=by rw [he];simp
    rw [hx]
    simp only [if_true,h1,Option.bind_some]
    rw [U3 hp o v hg he,Option.bind_some]
    exact fin _ rfl
   ·have hno:∀ x∈objs w,x.1≠o.1:=fun x hx e=>he (hm.1 (List.mem_map.2 ⟨x,hx,e⟩))
    have hx:((if v.1<o.1 then (-1:Int) else if o.1<v.1 then 1 else 0)==0)=false:=by
     by_cases h1:v.1<o.1
     ·simp [h1]
     ·by_cases h2:o.1<v.1
      ·simp [h1,h2]
      ·omega
    rw [hx]
    simp only [Bool.false_eq_true,if_false,Option.bind_some]
    rw [KA hp o (by omega) hno,Option.bind_some]
    exact fin _ rfl
  ·have hd:decide (((gI (keys (objs w)) o.1:Nat):Int)<(((objs w).length:Nat):Int))=false:=by simpa using hlt
   have hno:∀ x∈objs w,x.1≠o.1:=fun x hx e=>DR hk (by rw [hlen];omega) (List.mem_map.2 ⟨x,hx,e⟩)
   simp only [hd,Bool.false_and,Bool.false_eq_true,if_false,Option.bind_some]
   refine Def.bind (hc0 ?_)
   rw [KA hp o (by omega) hno,Option.bind_some]
   exact fin _ rfl
structure abq (w:D7):Prop where
 few:(objs w).length≤1000
 ids:Ris w
 lns:∀ o∈objs w,(lnk o).length≤1000
 lnk:∀ o∈objs w,(Fn.lnk o).Pairwise (· < ·)
 dat:∀ o∈objs w,(dat o).length≤1000000
def aad (l:List D6) (d:D6):Int:=IntKind.wrap .i64 (quo d - qB l (pages d) (lnk d))
structure Yz (o:D6):Prop where
 lns:(lnk o).length≤1000
 lnk:(Fn.lnk o).Pairwise (· < ·)
 dat:(dat o).length≤1000000
 lab:o.2.2.1.length≤1000
 fit:vP o.2.2.1
end Go.Fn
namespace Go.Fn
open Go Go.Ab Go.Tx
theorem Nr:Yz (Ty.zero t6:D6):=⟨by decide,List.Pairwise.nil,by decide,by decide,⟨List.Pairwise.nil,by intro p hp;cases hp⟩⟩
theorem Ro {l:List D6} {Q:D6→Prop} (h:∀ o∈l,Q o) (h0:Q (Ty.zero t6)) (id:Int):Q (bM l id).1:=by
 cases hf:(bM l id).2 with
 | true=>exact h _ (jg hf).1
 | false =>
  have:(bM l id).1=Ty.zero t6:=by
   unfold bM at hf ⊢
   cases hx:l.find? (fun o=>o.1==id) with
   | none=>rfl
   | some o=>rw [hx] at hf;cases hf
  rw [this];exact h0
end Go.Fn
namespace Go.Fn
open Go Go.Ab Go.Tx
theorem U5:∀ (t:Ty) (e:t.den→t.den→Bool),eqT t=some e→∀ x,e x x=true:=by
 intro t
 induction t with
 | int k=>intro e h x;cases h;simp
 | bool=>intro e h x;cases h;simp
 | unit=>intro e h x;cases h;rfl
 | prod a b iha ihb =>
  intro e h x
  simp only [eqT] at h
  cases ha:eqT a with
  | none=>rw [ha] at h;cases h
  | some f =>
   cases hb:eqT b with
   | none=>rw [ha,hb] at h;cases h
   | some g=>rw [ha,hb] at h;cases h;simp [iha f ha x.1,ihb g hb x.2]
 | st a ih =>
  intro e h x
  simp only [eqT] at h
  cases ha:eqT a with
  | none=>rw [ha] at h;cases h
  | some f=>rw [ha] at h;cases h;exact ih f ha x
 | arr n t ih =>
  intro e h x
  simp only [eqT] at h
  cases ha:eqT t with
  | none=>rw [ha] at h;cases h
  | some f=>rw [ha] at h;cases h;simp [ih f ha]
 | _=>intro e h;cases h
theorem ni {t:Ty} (h:(eqT t).isSome=true) (x:t.den):eqK t x x=true:=by
 unfold eqK
 cases he:eqT t with
 | none=>rw [he] at h;cases h
 | some e=>exact U5 t e he x
theorem zn {α:Type} {a:List α} {c:Int→α→α→Bool} (hl:a.length≤big) (hc:∀ s v,c s v v=false):(if (((List.length a:Nat):Int) != ((List.length a:Nat):Int))=true then some false else
  aH (σ:=Int) (ρ:=Bool) (fun s=>if (decide (s<((List.length a:Nat):Int)))=true then Option.bind (aA a s) fun v=>Option.bind (aA a s) fun u=>if c s v u=true then done (some false) else turn (IntKind.wrap .i64 (s+(1:Int))) else done (some true)) (0:Int))=some true:=by
 refine Def.eq ?_
 refine Def.ite (fun h=>by simp at h) (fun _=>?_)
 refine Def.sZ (l:=a) (fun _=>True) hl trivial (fun pre v post e _=>?_) (fun _=>.done (.ret rfl))
 refine Def.bind' (Def.at e) (fun u hu=>?_)
 subst hu
 rw [if_neg (by rw [hc];simp)]
 exact .turn ⟨rfl,trivial⟩
theorem tC (a:List D0) (hl:a.length≤big):F30 a a=some true:=by
 unfold F30
 simp only [ay]
 exact zn (c:=fun _ v u=>!(eqK (.prod (.int .u64) (.prod (.int .i64) .unit)) v u)) hl fun _ v=>by rw [ni (by rfl)];rfl
theorem tH (a:List Int) (hl:a.length≤big):F31 a a=some true:=by
 unfold F31
 simp only [ay]
 exact zn (c:=fun _ v u=>v != u) hl fun _ v=>by simp
theorem U6 (a:List D1) (hl:a.length≤big):F32 a a=some true:=by
 unfold F32
 simp only [ay]
 exact zn (c:=fun _ v u=>!(eqK (.prod (.int .i64) (.prod (.int .i64) (.prod (.int .u64) (.prod (.int .u64) (.prod (.int .i64) (.prod .bool .unit)))))) v u)) hl fun _ v=>by rw [ni (by rfl)];rfl
theorem U7 (b:D4) (h1:b.2.2.1.length≤big) (h2:b.2.2.2.2.2.2.2.2.1.length≤big) (h3:∀ i,(b.2.2.2.2.2.2.2.2.2.2.1 i).length≤big):F33 b b=some true:=by
 refine Def.eq ?_
 unfold F33
 simp only [ay,eG]
 refine Def.times (n:=4) (by omega) (fun i h0 h4=>?_) ?_
 ·refine Def.bind (Gi h0 h4 ?_)
  have hi:0≤i∧i.toNat<4:=⟨h0,by omega⟩
  have e:∀ f:Fin 4→List D0,DF f i=some (f ⟨i.toNat,hi.2⟩):=fun f=>by rw [DF,dif_pos hi]
  rw [e,Option.bind_some]
  refine Def.bind (Gi h0 h4 ?_)
  rw [Option.bind_some,tC _ (h3 _),Option.bind_some]
  exact .turn rfl
 ·rw [tC _ h1,tH _ h2]
  have k1:=ni (t:=.arr 16 (.int .u64)) (by rfl) b.1
  have k2:=ni (t:=.prod (.int .u64) (.prod (.int .u64) .unit)) (by rfl) b.2.2.2.1
  have k3:=ni (t:=.prod t2 (.prod (.int .u64) (.prod (.int .u64) (.prod .bool .unit)))) (by rfl) b.2.2.2.2.2.2.2.1
  have k4:=ni (t:=.prod (.int .u64) (.prod (.int .u64) .unit)) (by rfl) b.2.2.2.2.2.2.2.2.2.1
  simp only [k1,k2,k3,k4,beq_self_eq_true,if_true,Bool.and_self,Option.bind_some]
  exact .done (.ret rfl)
theorem U8 (b:D5) (h1:b.1.length≤big) (h2:b.2.1.length≤big):F34 b b=some true:=by
 unfold F34
 have k2:=ni (t:=.prod (.int .u64) (.prod (.int .u64) .unit)) (by rfl) b.2.2.1
 simp only [eG,tC _ h1,tC _ h2,k2,beq_self_eq_true,if_true,Bool.and_self,Option.bind_some]
theorem KC (b:D6) (h:OkO b):F14 b b=some true:=by
 unfold F14
 have a1:=tC _ h.lab
 have a2:=tH _ h.lnk
 have a3:=tH _ h.dat
 have a4:=U6 _ h.mps
 have a5:=U7 _ h.clr h.alr h.lbs
 have a6:=U8 _ h.gra h.gcl
 have a7:=tH _ h.inn
 have a8:=tH _ h.out
 simp only [lnk,dat,thr,gat] at a2 a3 a5 a6
 simp only [eG,a1,a2,a3,a4,a5,a6,a7,a8,bne_self_eq_false,beq_self_eq_true,if_true,if_false,Bool.false_eq_true,Bool.not_false,Bool.not_true,Bool.and_self,Option.bind_some]
theorem YA (w:D7) (hl:(objs w).length≤big) (h:∀ o∈objs w,OkO o):F9 w w=some true:=by
 refine Def.eq ?_
 unfold F9
 simp only [eG,ay,bne_self_eq_false,if_false,Bool.false_eq_true]
 refine Def.sZ (l:=objs w) (fun _=>True) hl trivial (fun pre v post e _=>?_) (fun _=>.done (.ret rfl))
 refine Def.bind' (Def.at e) (fun u hu=>?_)
 subst hu
 rw [KC u (h u (by rw [e];simp)),Option.bind_some]
 exact .turn ⟨rfl,trivial⟩
def lv (n:Int):Int:=if n<0∨5<n then 2 else n
theorem KD (n:Int):F98 n=some (lv n):=by
 unfold F98 lv
 by_cases h1:n<0
 ·simp [h1]
 ·by_cases h2:5<n <;> simp [h1,h2]
theorem zS {n:Int} (h0:0≤n) (h5:n≤5):lv n=n:=by
 unfold lv
 rw [if_neg (by omega)]
theorem aae (l:List D0) (hl:l.length≤1000) (hf:vP l):F67 l=some (jr l):=by
 refine Def.eq ?_
 unfold F67
 simp only [ay]
 refine Def.Sr (l:=l) (fun pre a=>a=jr pre) (by omega) rfl (fun pre v post a e hi=>?_) (fun a hi=>.done (.ret hi))
 have hlt:pre.length<l.length:=by rw [e];simp
 obtain ⟨h0,h5,_⟩:=hf.lev v (by rw [e];simp)
 subst hi
 refine Def.bind' (Def.at e) (fun u hu=>?_)
 subst hu
 have h271:F89 u.2.1=some (Kz u.2.1):=by
  unfold F89 Kz
  rw [KD,zS h0 h5]
  by_cases h:u.2.1=0 <;> simp [h]
 rw [h271,Option.bind_some,Option.bind_some]
 refine Def.bind (Def.app (by simp only [jr,List.length_cons,List.length_nil,List.length_map];omega) (.turn ⟨rfl,?_⟩))
 simp [jr]
theorem Rq (l:List D0) (c:Int) (hl:l.length≤big):F86 l c=some (uS l c):=by
 refine Def.eq ?_
 unfold F86
 simp only [ay]
 refine Def.sZ (l:=l) (fun pre=>∀ p∈pre,p.1≠c) hl (by simp) (fun pre v post e hi=>?_) (fun hi=>.done (.ret (kC hi).symm))
 have hn:pre.find? (fun p=>p.1==c)=none:=List.find?_eq_none.2 fun p hp=>by simpa using hi p hp
 refine Def.ite (fun hc=>?_) (fun hc=>.turn ⟨rfl,?_⟩)
 ·refine Def.bind' (Def.at e) (fun u hu=>.done (.ret ?_))
  subst hu
  unfold uS
  rw [e,List.find?_append,hn,List.find?_cons,hc]
  rfl
 ·intro p hp
  rcases List.mem_append.1 hp with hp | hp
  ·exact hi p hp
  ·simp at hp;subst hp;simpa using hc
theorem V6 (a b:Int):F85 a b=some (decide (lv a≤lv b)):=by
 unfold F85
 rw [KD,KD,Option.bind_some,Option.bind_some]
def V7 (a b:List D0):Bool:=(a.all fun p=>decide (lv p.2.1≤lv (uS b p.1)))&&b.all fun q=>decide (lv (uS a q.1)≤lv q.2.1)
theorem V8 (a b:List D0) (ha:a.length≤big) (hb:b.length≤big):F65 a b=some (V7 a b):=by
 refine Def.eq ?_
 unfold F65
 simp only [ay]
 refine Def.sZ (l:=a) (fun pre=>(pre.all fun p=>decide (lv p.2.1≤lv (uS b p.1)))=true) ha rfl (fun pre v post e hi=>?_) (fun hi=>.done ?_)
 ·refine Def.bind' (Def.at e) (fun u hu=>?_)
  subst hu
  rw [Rq _ _ hb,Option.bind_some,V6,Option.bind_some]
  refine Def.ite (fun hc=>.done (.ret ?_)) (fun hc=>.turn ⟨rfl,?_⟩)
  ·have hc:decide (lv u.2.1≤lv (uS b u.1))=false:=by simpa using hc
   unfold V7
   have:(a.all fun p=>decide (lv p.2.1≤lv (uS b p.1)))=false:=by rw [e,List.all_append,List.all_cons,hc];simp
   rw [this];rfl
  ·rw [List.all_append,hi]
   simpa using hc
 ·refine Def.sZ (l:=b) (fun pre=>(pre.all fun q=>decide (lv (uS a q.1)≤lv q.2.1))=true) hb rfl (fun pre v post e hi2=>?_) (fun hi2=>.done (.ret ?_))
  ·rw [Rq _ _ ha,Option.bind_some]
   refine Def.bind' (Def.at e) (fun u hu=>?_)
   subst hu
   rw [V6,Option.bind_some]
   refine Def.ite (fun hc=>.done (.ret ?_)) (fun hc=>.turn ⟨rfl,?_⟩)
   ·have hc:decide (lv (uS a u.1)≤lv u.2.1)=false:=by simpa using hc
    unfold V7
    have:(b.all fun q=>decide (lv (uS a q.1)≤lv q.2.1))=false:=by rw [e,List.all_append,List.all_cons,hc];simp
    rw [this];simp
   ·rw [List.all_append,hi2]
    simpa using hc
  ·unfold V7
   rw [hi,hi2];rfl
def DX (l:List D0) (c n:Int):List D0:=l.filter (fun p=>decide (p.1<c))++(if n=2 then [] else [(c,n,())])++l.filter (fun p=>decide (c<p.1))
theorem aaf (l:List D0) (c n:Int) (hl:l.length≤1000) (hr:l.Pairwise (fun a b=>a.1<b.1)):F87 l c n=some (DX l c n):=by
 refine Def.eq ?_
 unfold F87
 simp only [ay]
 let I:List D0→List D0×Bool×Int→Prop:=fun pre s =>
  s.1.length≤pre.length+1∧((s.2.1=false∧n≠2∧s.1=pre.filter (fun p=>decide (p.1<c))∧∀ p∈pre,p.1≤c)∨(s.2.1=true∧s.1=DX pre c n∧(n=2∨∃ p∈pre,c<p.1)))
 refine Def.Y9 (l:=l) (fun s:List D0×Bool×Int=>s.2.2) I (by omega) rfl ⟨by simp,?_⟩ (fun pre v post s e hs hi=>?_) (fun s hs hi=>?_)
 ·by_cases h:n=2
  ·exact .inr ⟨by simpa using h,by simp [DX,h],.inl h⟩
  ·exact .inl ⟨by simpa using h,h,rfl,by simp⟩
 ·obtain ⟨hlen,hi⟩:=hi
  have hlt:pre.length<l.length:=by rw [e];simp
  have hv:aA l s.2.2=some v:=by rw [hs,jJ,e];simp
  have hpv:∀ p∈pre,p.1<v.1:=fun p hp=>by
   rw [e,List.pairwise_append] at hr
   exact hr.2.2 p hp v (by simp)
  have hfl:∀ q:D0→Bool,(pre.filter q).length≤pre.length:=fun q=>List.length_filter_le _ _
  rw [hv]
  simp only [Option.bind_some]
  rcases hi with ⟨h1,hn,h2,h3⟩ | ⟨h1,h2,h3⟩
  ·rw [h1]
   simp only [Bool.not_false,Bool.and_self,if_true,Option.bind_some]
   refine Def.ite (fun hc=>?_) (fun hc=>?_)
   ·have hc:c<v.1:=by simpa using hc
    have hpc:pre.filter (fun p=>decide (c<p.1))=[]:=List.filter_eq_nil_iff.2 fun p hp=>by have:=h3 p hp;simp;omega
    refine Def.bind (Def.app (by simp only [List.length_cons,List.length_nil];omega) ?_)
    rw [if_pos (by simp;omega)]
    refine Def.bind (Def.app (by simp only [List.length_append,List.length_cons,List.length_nil];have:=hfl (fun p=>decide (p.1<c));omega) (.turn ⟨by rw [hs],?_,.inr ⟨rfl,?_,.inr ⟨v,by simp,hc⟩⟩⟩))
    ·rw [h2];have:=hfl (fun p=>decide (p.1<c));simp only [List.length_append,List.length_cons,List.length_nil];omega
    ·have hv1 : ¬ v.1<c:=by omega
     simp [DX,hn,h2,List.filter_append,hpc,hc,hv1]
   ·have hc : ¬ c<v.1:=by simpa using hc
    by_cases hvc:v.1=c
    ·rw [if_neg (by simp [hvc])]
     refine .turn ⟨by rw [hs],by simp;omega,.inl ⟨rfl,hn,?_,?_⟩⟩
     ·have : ¬ v.1<c:=by omega
      simp [h2,List.filter_append,this]
     ·intro p hp
      rcases List.mem_append.1 hp with hp | hp
      ·exact h3 p hp
      ·simp at hp;subst hp;omega
    ·rw [if_pos (by simpa using hvc)]
     refine Def.bind (Def.app (by simp only [List.length_cons,List.length_nil];omega) (.turn ⟨by rw [hs],by simp;omega,.inl ⟨rfl,hn,?_,?_⟩⟩))
     ·have:v.1<c:=by omega
      simp [h2,List.filter_append,this]
     ·intro p hp
      rcases List.mem_append.1 hp with hp | hp
      ·exact h3 p hp
      ·simp at hp;subst hp;omega
  ·rw [h1]
   simp only [Bool.not_true,Bool.false_and,Bool.false_eq_true,if_false,Option.bind_some]
   by_cases hvc:v.1=c
   ·rw [if_neg (by simp [hvc])]
    refine .turn ⟨by rw [hs],by simp;omega,.inr ⟨rfl,?_,?_⟩⟩
    ·have a1 : ¬ v.1<c:=by omega
     have a2 : ¬ c<v.1:=by omega
     simp [h2,DX,List.filter_append,a1,a2]
    ·rcases h3 with h | ⟨p,hp,h⟩
     ·exact .inl h
     ·exact .inr ⟨p,by simp [hp],h⟩
   ·rw [if_pos (by simpa using hvc)]
    refine Def.bind (Def.app (by simp only [List.length_cons,List.length_nil];omega) (.turn ⟨by rw [hs],?_,.inr ⟨rfl,?_,?_⟩⟩))
    ·simp only [List.length_append,List.length_cons,List.length_nil];omega
    ·by_cases h:v.1<c
     ·have a2 : ¬ c<v.1:=by omega
      have hpc:pre.filter (fun p=>decide (c<p.1))=[]:=List.filter_eq_nil_iff.2 fun p hp=>by have:=hpv p hp;simp;omega
      have hn:n=2:=by
       rcases h3 with h' | ⟨p,hp,h'⟩
       ·exact h'
       ·have:=hpv p hp;omega
      simp [h2,DX,List.filter_append,h,a2,hn,hpc]
     ·have a2:c<v.1:=by omega
      simp [h2,DX,List.filter_append,h,a2]
    ·rcases h3 with h | ⟨p,hp,h⟩
     ·exact .inl h
     ·exact .inr ⟨p,by simp [hp],h⟩
 ·obtain ⟨hlen,hi⟩:=hi
  rcases hi with ⟨h1,hn,h2,h3⟩ | ⟨h1,h2,h3⟩
  ·have hpc:l.filter (fun p=>decide (c<p.1))=[]:=List.filter_eq_nil_iff.2 fun p hp=>by have:=h3 p hp;simp;omega
   rw [h1]
   simp only [Bool.not_false,if_true,Option.bind_some]
   refine .done (Def.bind (Def.app (by simp only [List.length_cons,List.length_nil];omega) (.ret ?_)))
   simp [DX,hn,h2,hpc]
  ·rw [h1]
   simp only [Bool.not_true,Bool.false_eq_true,if_false]
   exact .done (.ret h2)
end Go.Fn
namespace Go.Fn
open Go Go.Ab Go.Tx
theorem aag (a b:Int):F88 a b=some (if lv b<lv a then lv a else lv b):=by
 unfold F88
 simp only [KD,Option.bind_some]
 by_cases h:lv b<lv a <;> simp [h]
def joinL (a:List D0):List D0:=a.filter fun p=>decide (2<p.2.1)
theorem aah (a:List D0) (ha:a.length≤500) (hr:a.Pairwise (fun a b=>a.1<b.1)) (hl:∀ p∈a,0≤p.2.1∧p.2.1≤5):F66 a []=some (joinL a):=by
 refine Def.eq ?_
 unfold F66
 simp only [ay]
 refine Def.Sr (l:=a) (fun pre s=>s=joinL pre++a.drop pre.length) (by omega) (by simp [joinL]) (fun pre v post s e hi=>?_) (fun s hi=>.done ?_)
 ·have hlt:pre.length<a.length:=by rw [e];simp
  have hd:a.drop pre.length=v::post:=by rw [e];simp
  rw [hd] at hi
  have hr':=hr
  rw [e,List.pairwise_append,List.pairwise_cons] at hr'
  obtain ⟨_,⟨r2,r3⟩,r4⟩:=hr'
  have hsub:s.Sublist a:=by
   rw [hi,e]
   exact List.Sublist.append List.filter_sublist (List.Sublist.refl _)
  have hsl:s.length≤a.length:=hsub.length_le
  refine Def.bind' (Def.at e) (fun u hu=>?_)
  subst hu
  refine Def.bind' (Def.at e) (fun u' hu'=>?_)
  subst hu'
  obtain ⟨l0,l5⟩:=hl u' (by rw [e];simp)
  rw [Rq [] _ (by simp),Option.bind_some,aag,Option.bind_some,aaf _ _ _ (by omega) (hr.sublist hsub),Option.bind_some]
  refine .turn ⟨rfl,?_⟩
  have g2:uS [] u'.1=2:=rfl
  rw [g2,zS l0 l5,show lv 2=2 from rfl]
  have f1:s.filter (fun p=>decide (p.1<u'.1))=joinL pre:=by
   rw [hi,List.filter_append,List.filter_cons,if_neg (by simp),List.filter_eq_self.2,List.filter_eq_nil_iff.2]
   ·simp
   ·intro p hp;have:=r2 p hp;simp;omega
   ·intro p hp;have:=r4 p (List.mem_filter.1 hp).1 u' (by simp);simpa using this
  have f2:s.filter (fun p=>decide (u'.1<p.1))=post:=by
   rw [hi,List.filter_append,List.filter_cons,if_neg (by simp),List.filter_eq_nil_iff.2,List.filter_eq_self.2]
   ·simp
   ·intro p hp;have:=r2 p hp;simpa using this
   ·intro p hp;have:=r4 p (List.mem_filter.1 hp).1 u' (by simp);simp;omega
  have f3:a.drop (pre++[u']).length=post:=by rw [e];simp
  simp only
  rw [DX,f1,f2,f3]
  have f4:joinL (pre++[u'])=joinL pre++if 2<u'.2.1 then [u'] else []:=by
   unfold joinL
   rw [List.filter_append]
   by_cases h:2<u'.2.1 <;> simp [h]
  rw [f4]
  by_cases h:2<u'.2.1
  ·have h' : ¬ u'.2.1=2:=by omega
   simp [h,h']
  ·simp [h]
 ·rw [List.drop_length,List.append_nil] at hi
  refine Def.Sr (l:=([]:List D0)) (fun pre x=>x=joinL a) (by simp) hi (fun pre v post s e hi=>by cases pre <;> cases e) (fun s hi=>.done (.ret hi))
theorem Rt {a:List D0} (hr:a.Pairwise (fun a b=>a.1<b.1)) (c:Int):uS (joinL a) c=max 2 (uS a c):=by
 have hj:(joinL a).Pairwise (fun a b=>a.1<b.1):=hr.filter _
 by_cases h:∃ p∈a,p.1=c
 ·obtain ⟨p,hp,rfl⟩:=h
  rw [jL hr p hp]
  by_cases h2:2<p.2.1
  ·rw [jL hj p (List.mem_filter.2 ⟨hp,by simpa using h2⟩)];omega
  ·rw [kC fun q hq e=>?_]
   ·omega
   ·have hq':=List.mem_filter.1 hq
    have:=jL hr q hq'.1
    rw [e,jL hr p hp] at this
    have h3:2<q.2.1:=by simpa using hq'.2
    omega
 ·rw [kC (l:=a) fun p hp e=>h ⟨p,hp,e⟩,kC (l:=joinL a) fun p hp e=>h ⟨p,(List.mem_filter.1 hp).1,e⟩]
  rfl
theorem IZ {l:List D0} (hr:vP l) (c:Int):0≤uS l c∧uS l c≤5:=by
 by_cases h:∃ p∈l,p.1=c
 ·obtain ⟨p,hp,rfl⟩:=h
  rw [jL hr.rise p hp];have:=hr.lev p hp;omega
 ·rw [kC fun p hp e=>h ⟨p,hp,e⟩];omega
theorem DY {o:List D0} (h:vP o):∀ p∈jr o,0≤p.2.1∧p.2.1≤5:=by
 intro p hp
 obtain ⟨q,hq,rfl⟩:=List.mem_map.1 hp
 have:=h.lev q hq
 simp only [Kz]
 split <;> omega
theorem U9 {d o:List D0} (hd:vP d) (ho:vP o):V7 d (joinL (jr o))=qM d o:=by
 have hr:=zh ho
 have hg:∀ c,2≤max 2 (uS (jr o) c)∧max 2 (uS (jr o) c)≤5:=fun c=>by
  have:uS (jr o) c≤5:=by
   by_cases h:∃ p∈jr o,p.1=c
   ·obtain ⟨p,hp,rfl⟩:=h
    rw [jL hr p hp];exact (DY ho p hp).2
   ·rw [kC fun p hp e=>h ⟨p,hp,e⟩];omega
  omega
 have h1:(d.all fun p=>decide (lv p.2.1≤lv (uS (joinL (jr o)) p.1)))=qM d o:=by
  unfold qM
  rw [Bool.eq_iff_iff,List.all_eq_true,List.all_eq_true]
  refine forall_congr' fun p=>forall_congr' fun hp=>?_
  have:=hd.lev p hp
  have h2:=hg p.1
  rw [Rt hr,zS (by omega) (by omega),zS (by omega) h2.2]
 unfold V7
 rw [h1]
 cases hp:qM d o with
 | false=>rfl
 | true =>
  rw [Bool.true_and,List.all_eq_true]
  intro q hq
  have hq':=List.mem_filter.1 hq
  have q2:2<q.2.1:=by simpa using hq'.2
  have q5:=(DY ho q hq'.1).2
  have hdi:=IZ hd q.1
  rw [zS hdi.1 hdi.2,zS (by omega) q5,decide_eq_true_eq]
  by_cases h:∃ p∈d,p.1=q.1
  ·obtain ⟨p,hpd,e⟩:=h
   have:=List.all_eq_true.1 hp p hpd
   rw [e,jL hr q hq'.1] at this
   rw [← e,jL hd.rise p hpd]
   have:=of_decide_eq_true this
   omega
  ·rw [kC fun p hp e=>h ⟨p,hp,e⟩];omega
theorem aai (d o:List D0) (hd:d.length≤400) (ho:o.length≤400) (fd:vP d) (fo:vP o):F43 d o=some (qM d o):=by
 unfold F43
 have hj:(joinL (jr o)).length≤400:=Nat.le_trans (List.length_filter_le _ _) (by simp [jr];omega)
 rw [aae o (by omega) fo,Option.bind_some,aah _ (by simp [jr];omega) (zh fo) (DY fo),Option.bind_some,V8 _ _ (by unfold big;omega) (by unfold big;omega),Option.bind_some,U9 fd fo]
end Go.Fn
namespace Go.Fn
open Go Go.Ab Go.Tx
structure Va (o:D6):Prop extends Yz o where
 lab4:o.2.2.1.length≤400
theorem I4:Va (Ty.zero t6:D6):={ Nr with lab4:=by decide }
theorem aaj (w:D7) (d:D6) (hw:abq w) (hd:Yz d):F13 w d=some (aad (objs w) d):=by
 unfold F13
 rw [Q8 w d hw.few hd.dat hd.lns,Option.bind_some]
 rfl
end Go.Fn
namespace Go.Fn
open Go Go.Ab Go.Tx
theorem YB:∀ (t:Ty) (e:t.den→t.den→Bool),eqT t=some e→∀ x y,e x y=true↔x=y:=by
 intro t
 induction t with
 | int k=>intro e h x y;cases h;simp
 | bool=>intro e h x y;cases h;simp
 | unit=>intro e h x y;cases h;simp
 | prod a b iha ihb =>
  intro e h x y
  simp only [eqT] at h
  cases ha:eqT a with
  | none=>rw [ha] at h;cases h
  | some f =>
   cases hb:eqT b with
   | none=>rw [ha,hb] at h;cases h
   | some g =>
    rw [ha,hb] at h;cases h
    simp only [Bool.and_eq_true,iha f ha,ihb g hb]
    exact ⟨fun h=>Prod.ext h.1 h.2,fun h=>by rw [h];exact ⟨rfl,rfl⟩⟩
 | st a ih =>
  intro e h x y
  simp only [eqT] at h
  cases ha:eqT a with
  | none=>rw [ha] at h;cases h
  | some f=>rw [ha] at h;cases h;exact ih f ha x y
 | arr n t ih =>
  intro e h x y
  simp only [eqT] at h
  cases ha:eqT t with
  | none=>rw [ha] at h;cases h
  | some f =>
   rw [ha] at h;cases h
   simp only [List.all_eq_true,ih f ha]
   exact ⟨fun h=>funext fun i=>h i (List.mem_finRange i),fun h i _=>by rw [h]⟩
 | _=>intro e h;cases h
theorem oV {t:Ty} (h:(eqT t).isSome=true) (x y:t.den):eqK t x y=true↔x=y:=by
 unfold eqK
 cases he:eqT t with
 | none=>rw [he] at h;cases h
 | some e=>exact YB t e he x y
theorem same_iff {α:Type} {a b:List α} {c:Int→α→α→Bool} (hl:b.length≤big) (hc:∀ s v u,c s v u=false↔v=u):Def (if (((List.length a:Nat):Int) != ((List.length b:Nat):Int))=true then some false else
  aH (σ:=Int) (ρ:=Bool) (fun s=>if (decide (s<((List.length a:Nat):Int)))=true then Option.bind (aA a s) fun v=>Option.bind (aA b s) fun u=>if c s v u=true then done (some false) else turn (IntKind.wrap .i64 (s+(1:Int))) else done (some true)) (0:Int))
  fun r=>r=true↔a=b:=by
 refine Def.ite (fun h=>.ret ⟨fun h=>(by cases h),fun e=>by rw [e] at h;simp at h⟩) (fun h=>?_)
 have hn:a.length=b.length:=by simp at h;exact_mod_cast h
 refine Def.sZ (l:=a) (fun pre=>b.take pre.length=pre) (by rw [hn];exact hl) (by simp) (fun pre v post e hi=>?_) (fun hi=>?_)
 ·have hlt:pre.length<b.length:=by rw [← hn,e];simp
  refine Def.bind (Def.idx (by omega) (by exact_mod_cast hlt) (fun u hu _=>?_))
  simp only [Int.toNat_natCast] at hu
  refine Def.ite (fun hc'=>.done (.ret ⟨fun h=>(by cases h),fun eab=>?_⟩)) (fun hc'=>.turn ⟨rfl,?_⟩)
  ·rw [← eab,e] at hu
   simp at hu
   have:=(hc pre.length v u).2 hu
   rw [this] at hc'; cases hc'
  ·have hvu:=(hc _ _ _).1 (by simpa using hc')
   rw [List.length_append,List.length_singleton,List.take_add_one,hi,hu,hvu];rfl
 ·refine .done (.ret ⟨fun _=>?_,fun _=>rfl⟩)
  rw [hn,List.take_length] at hi
  exact hi.symm
theorem zo (a b:List D0) (hl:b.length≤big):Def (F30 a b) fun r=>r=true↔a=b:=by
 unfold F30
 simp only [ay]
 exact same_iff (c:=fun _ v u=>!(eqK (.prod (.int .u64) (.prod (.int .i64) .unit)) v u)) hl fun _ v u=>by
  rw [Bool.not_eq_eq_eq_not,Bool.not_false];exact oV (by rfl) v u
theorem zq (a b:List Int) (hl:b.length≤big):Def (F31 a b) fun r=>r=true↔a=b:=by
 unfold F31
 simp only [ay]
 exact same_iff (c:=fun _ v u=>v != u) hl fun _ v u=>by simp
theorem YC (a b:List D1) (hl:b.length≤big):Def (F32 a b) fun r=>r=true↔a=b:=by
 unfold F32
 simp only [ay]
 exact same_iff (c:=fun _ v u=>!(eqK (.prod (.int .i64) (.prod (.int .i64) (.prod (.int .u64) (.prod (.int .u64) (.prod (.int .i64) (.prod .bool .unit)))))) v u)) hl fun _ v u=>by
  rw [Bool.not_eq_eq_eq_not,Bool.not_false];exact oV (by rfl) v u
def qN (l:List D0):List Int:=(l.filter fun p=>p.2.1==0).map (·.1)
theorem zu (l:List D0) (v:D0):qN (l++[v])=qN l++if v.2.1==0 then [v.1] else []:=by
 unfold qN
 rw [List.filter_append,List.map_append]
 cases h:(v.2.1==0) <;> simp [List.filter_cons,h]
theorem Ns (l:List D0):(qN l).length≤l.length:=by
 unfold qN
 rw [List.length_map];exact List.length_filter_le _ _
theorem aak (l:List D0) (hl:l.length≤1000000):F61 l=some (qN l):=by
 refine Def.eq ?_
 unfold F61
 simp only [ay]
 refine Def.Sr (l:=l) (fun pre a=>a=qN pre) (by omega) rfl (fun pre v post a e hi=>?_) (fun a hi=>.done (.ret hi))
 have hlt:pre.length<l.length:=by rw [e];simp
 have:=Ns pre
 subst hi
 refine Def.ite (fun h=>?_) (fun h=>.turn ⟨rfl,?_⟩)
 ·refine Def.bind' (Def.at e) (fun u hu=>Def.bind (.ret (Def.bind (Def.app (by simp only [List.length_cons,List.length_nil];omega) (.turn ⟨rfl,?_⟩)))))
  subst hu
  rw [zu,if_pos h]
 ·rw [zu,if_neg h,List.append_nil]
theorem Def.V9 {ρ:Type} {n:Nat} {A:Int→Option (Int ⊕ ρ)} {E:Int→Option (Int ⊕ ρ)} {Q:ρ→Prop} (I:Nat→Prop) (hn:n≤1000000) (h0:I 0)
  (hb:∀ i:Nat,i<n→I i→Def (A i) fun r=>match r with | .inl s=>s=IntKind.wrap .i64 ((i:Int)+1)∧I (i+1) | .inr r=>Q r)
  (he:I n→Def (E (n:Int)) fun r=>match r with | .inl _=>False | .inr r=>Q r) :
  Def (aH (fun s=>if decide (s<(n:Int))=true then A s else E s) (0:Int)) Q:=by
 refine Def.loop (fun i:Int=>0≤i∧i≤n∧I i.toNat) (fun i:Int=>n - i.toNat) ⟨by simp,by omega,h0⟩ (fun i hi=>?_)
 obtain ⟨h1,h2,h3⟩:=hi
 obtain ⟨k,rfl⟩:∃ k:Nat,i=k:=⟨i.toNat,by omega⟩
 simp only [Int.toNat_natCast] at h3
 refine Def.ite (fun hc=>?_) (fun hc=>?_)
 ·have hlt:k<n:=by simpa using hc
  refine (hb k hlt h3).mono fun r hr=>?_
  cases r with
  | inr r=>exact hr
  | inl s =>
   obtain ⟨hr,hk⟩:=hr
   rw [wrap_i64 (by omega) (by omega)] at hr
   subst hr
   exact ⟨⟨by omega,by omega,by rw [show ((k:Int)+1).toNat=k+1 by omega];exact hk⟩,by omega⟩
 ·have e:k=n:=by simp at hc;omega
  subst e
  refine (he h3).mono fun r hr=>?_
  cases r with
  | inl s=>exact hr.elim
  | inr r=>exact hr
theorem YD {α:Type} {f:Fin 4→α} {i:Nat} (h:i<4):DF f (i:Int)=some (f ⟨i,h⟩):=by
 rw [DF,dif_pos ⟨by omega,by simpa using h⟩]
 simp
theorem Ru {i:Nat} (h:i<4):nI (if (decide ((0:Int)≤(i:Int)))=true then (decide ((i:Int)<(4:Int))) else false)=some ():=by
 have h4:(i:Int)<4:=by omega
 have h0:(0:Int)≤i:=by omega
 rw [nI,if_pos (by simp [h4,h0])]
theorem aal {a b:D4} (h1:a.1=b.1) (h2:a.2.1=b.2.1) (h3:a.2.2.1=b.2.2.1) (h4:a.2.2.2.1=b.2.2.2.1) (h5:a.2.2.2.2.1=b.2.2.2.2.1) (h6:a.2.2.2.2.2.1=b.2.2.2.2.2.1) (h7:a.2.2.2.2.2.2.1=b.2.2.2.2.2.2.1) (h8:a.2.2.2.2.2.2.2.1=b.2.2.2.2.2.2.2.1) (h9:a.2.2.2.2.2.2.2.2.1=b.2.2.2.2.2.2.2.2.1) (h10:a.2.2.2.2.2.2.2.2.2.1=b.2.2.2.2.2.2.2.2.2.1) (h11:a.2.2.2.2.2.2.2.2.2.2.1=b.2.2.2.2.2.2.2.2.2.2.1):a=b:=by
 obtain ⟨_,_,_,_,_,_,_,_,_,_,_,_⟩:=a
 obtain ⟨_,_,_,_,_,_,_,_,_,_,_,_⟩:=b
 simp only at h1 h2 h3 h4 h5 h6 h7 h8 h9 h10 h11
 subst h1;subst h2;subst h3;subst h4;subst h5;subst h6;subst h7;subst h8;subst h9;subst h10;subst h11
 rfl
theorem YE (a b:D4) (h1:b.2.2.1.length≤big) (h2:b.2.2.2.2.2.2.2.2.1.length≤big) (h3:∀ i,(b.2.2.2.2.2.2.2.2.2.2.1 i).length≤big):Def (F33 a b) fun r=>r=true↔a=b:=by
 unfold F33
 simp only [ay,eG]
 refine Def.V9 (n:=4) (fun k=>∀ i:Fin 4,i.1<k→a.2.2.2.2.2.2.2.2.2.2.1 i=b.2.2.2.2.2.2.2.2.2.2.1 i) (by omega) (fun i h=>absurd h (by omega)) (fun i h4 hi=>?_) (fun hi=>?_)
 ·rw [Ru h4,YD h4,YD h4]
  simp only [Option.bind_some]
  refine Def.bind' (zo _ _ (h3 _)) (fun v hv=>?_)
  refine Def.ite (fun hc=>.done (.ret ⟨fun h=>(by cases h),fun e=>?_⟩)) (fun hc=>.turn ⟨rfl,fun k hk=>?_⟩)
  ·have hv' : v=true:=hv.2 (by rw [e])
   rw [hv'] at hc;simp at hc
  ·have hv' : v=true:=by simpa using hc
   by_cases hki:k.1<i
   ·exact hi k hki
   ·have:k=⟨i,h4⟩:=Fin.ext (by simp only;omega)
    rw [this];exact hv.1 hv'
 ·have hl:a.2.2.2.2.2.2.2.2.2.2.1=b.2.2.2.2.2.2.2.2.2.2.1:=funext fun i=>hi i i.2
  have k1:=oV (t:=.arr 16 (.int .u64)) (by rfl) a.1 b.1
  have k2:=oV (t:=.prod (.int .u64) (.prod (.int .u64) .unit)) (by rfl) a.2.2.2.1 b.2.2.2.1
  have k3:=oV (t:=.prod t2 (.prod (.int .u64) (.prod (.int .u64) (.prod .bool .unit)))) (by rfl) a.2.2.2.2.2.2.2.1 b.2.2.2.2.2.2.2.1
  have k4:=oV (t:=.prod (.int .u64) (.prod (.int .u64) .unit)) (by rfl) a.2.2.2.2.2.2.2.2.2.1 b.2.2.2.2.2.2.2.2.2.1
  refine Def.done (Def.bC _ (fun _=>zo _ _ h1) (fun v2 q2 _=>Def.bC _ (fun _=>zq _ _ h2) (fun v4 q4 _=>.ret ⟨fun hr=>?_,fun e=>?_⟩)))
  ·simp only [Bool.if_false_right,Bool.and_eq_true,decide_eq_true_eq,Bool.and_true,beq_iff_eq,k1,k2,k3,k4] at hr q2 q4
   obtain ⟨⟨⟨⟨⟨⟨⟨⟨⟨r1,r2⟩,r3⟩,r4⟩,r5⟩,r6⟩,r7⟩,r8⟩,r9⟩,r10⟩:=hr
   exact aal r1 r2 ((q2 ⟨r1,r2⟩).1 r3) r4 r5 r6 r7 r8 ((q4 ⟨⟨⟨⟨⟨⟨⟨r1,r2⟩,r3⟩,r4⟩,r5⟩,r6⟩,r7⟩,r8⟩).1 r9) r10 hl
  ·subst e
   simp only [Bool.if_false_right,Bool.and_eq_true,decide_eq_true_eq,Bool.and_true,beq_iff_eq,k1,k2,k3,k4] at q2 q4 ⊢
   have e2:=(q2 ⟨trivial,trivial⟩).2 trivial
   subst e2
   have e4:=(q4 (by simp)).2 trivial
   subst e4
   simp
end Go.Fn
namespace Go.Fn
open Go Go.Ab Go.Tx
theorem aam {a b:D5} (h1:a.1=b.1) (h2:a.2.1=b.2.1) (h3:a.2.2.1=b.2.2.1) (h4:a.2.2.2.1=b.2.2.2.1) (h5:a.2.2.2.2.1=b.2.2.2.2.1):a=b:=by
 obtain ⟨_,_,_,_,_,_⟩:=a
 obtain ⟨_,_,_,_,_,_⟩:=b
 simp only at h1 h2 h3 h4 h5
 subst h1;subst h2;subst h3;subst h4;subst h5
 rfl
theorem vS {a b:D6} (h1:a.1=b.1) (h2:a.2.1=b.2.1) (h3:a.2.2.1=b.2.2.1) (h4:a.2.2.2.1=b.2.2.2.1) (h5:a.2.2.2.2.1=b.2.2.2.2.1) (h6:a.2.2.2.2.2.1=b.2.2.2.2.2.1) (h7:a.2.2.2.2.2.2.1=b.2.2.2.2.2.2.1) (h8:a.2.2.2.2.2.2.2.1=b.2.2.2.2.2.2.2.1) (h9:a.2.2.2.2.2.2.2.2.1=b.2.2.2.2.2.2.2.2.1) (h10:a.2.2.2.2.2.2.2.2.2.1=b.2.2.2.2.2.2.2.2.2.1) (h11:a.2.2.2.2.2.2.2.2.2.2.1=b.2.2.2.2.2.2.2.2.2.2.1) (h12:a.2.2.2.2.2.2.2.2.2.2.2.1=b.2.2.2.2.2.2.2.2.2.2.2.1):a=b:=by
 obtain ⟨_,_,_,_,_,_,_,_,_,_,_,_,_⟩:=a
 obtain ⟨_,_,_,_,_,_,_,_,_,_,_,_,_⟩:=b
 simp only at h1 h2 h3 h4 h5 h6 h7 h8 h9 h10 h11 h12
 subst h1;subst h2;subst h3;subst h4;subst h5;subst h6;subst h7;subst h8;subst h9;subst h10;subst h11;subst h12
 rfl
theorem YF (a b:D5) (h1:b.1.length≤big) (h2:b.2.1.length≤big):Def (F34 a b) fun r=>r=true↔a=b:=by
 have k2:=oV (t:=.prod (.int .u64) (.prod (.int .u64) .unit)) (by rfl) a.2.2.1 b.2.2.1
 unfold F34
 simp only [eG]
 refine Def.bind' (zo _ _ h1) (fun v q=>Def.bC _ (fun _=>zo _ _ h2) (fun v2 q2 _=>.ret ⟨fun hr=>?_,fun e=>?_⟩))
 ·simp only [Bool.if_false_right,Bool.and_eq_true,decide_eq_true_eq,Bool.and_true,beq_iff_eq,k2] at hr q2
  obtain ⟨⟨⟨⟨r1,r2⟩,r3⟩,r4⟩,r5⟩:=hr
  exact aam (q.1 r1) ((q2 r1).1 r2) r3 r4 r5
 ·subst e
  have e1:=q.2 rfl
  subst e1
  have e2:=(q2 rfl).2 rfl
  subst e2
  simp [k2]
theorem YG (a b:D6) (h:OkO b):Def (F14 a b) fun r=>r=true↔a=b:=by
 unfold F14
 simp only [eG]
 refine Def.bC _ (fun _=>zo _ _ h.lab) (fun v2 q2 _=>?_)
 refine Def.ite (fun hc=>.ret ⟨fun h=>(by cases h),fun e=>?_⟩) (fun hc=>?_)
 ·subst e
  have:=(q2 (by simp)).2 rfl
  subst this
  simp at hc
 ·simp at hc q2
  obtain ⟨⟨⟨⟨c1,c2⟩,c3⟩,c4⟩,c5⟩:=hc
  have c3:=(q2 c1 c2).1 c3
  refine Def.bind' (zq _ _ h.lnk) (fun v4 q4=>?_)
  refine Def.bC _ (fun _=>zq _ _ h.dat) (fun v5 q5 _=>?_)
  refine Def.bC _ (fun _=>YC _ _ h.mps) (fun v6 q6 _=>?_)
  refine Def.bC _ (fun _=>YE _ _ h.clr h.alr h.lbs) (fun v7 q7 _=>?_)
  refine Def.bC _ (fun _=>YF _ _ h.gra h.gcl) (fun v8 q8 _=>?_)
  refine Def.bC _ (fun _=>zq _ _ h.inn) (fun v9 q9 _=>?_)
  refine Def.bC _ (fun _=>zq _ _ h.out) (fun v10 q10 _=>.ret ⟨fun hr=>?_,fun e=>?_⟩)
  ·simp only [Bool.if_false_right,Bool.and_eq_true,decide_eq_true_eq,Bool.and_true] at hr q5 q6 q7 q8 q9 q10
   obtain ⟨⟨⟨⟨⟨⟨r4,r5⟩,r6⟩,r7⟩,r8⟩,r9⟩,r10⟩:=hr
   exact vS c1 c2 c3 c4 c5 (q4.1 r4) ((q5 r4).1 r5) ((q6 ⟨r4,r5⟩).1 r6) ((q7 ⟨⟨r4,r5⟩,r6⟩).1 r7) ((q8 ⟨⟨⟨r4,r5⟩,r6⟩,r7⟩).1 r8) ((q9 ⟨⟨⟨⟨r4,r5⟩,r6⟩,r7⟩,r8⟩).1 r9) ((q10 ⟨⟨⟨⟨⟨r4,r5⟩,r6⟩,r7⟩,r8⟩,r9⟩).1 r10)
  ·subst e
   simp only [Bool.if_false_right,Bool.and_eq_true,decide_eq_true_eq,Bool.and_true] at q5 q6 q7 q8 q9 q10 ⊢
   have e4:=q4.2 rfl
   subst e4
   have e5:=(q5 rfl).2 trivial
   subst e5
   have e6:=(q6 (by simp)).2 trivial
   subst e6
   have e7:=(q7 (by simp)).2 trivial
   subst e7
   have e8:=(q8 (by simp)).2 trivial
   subst e8
   have e9:=(q9 (by simp)).2 trivial
   subst e9
   have e10:=(q10 (by simp)).2 trivial
   subst e10
   simp
structure Alone (o:D6):Prop where
 lnk:o.2.1≠2→lnk o=[]
 dat:o.2.1≠1→dat o=[]
 mps:o.2.1≠3→o.2.2.2.2.2.2.2.1=[]
 thr:o.2.1≠4→thr o=Ty.zero t4
 gat:o.2.1≠5→gat o=Ty.zero t5
 inn:o.2.1≠6→o.2.2.2.2.2.2.2.2.2.2.1=[]
 out:o.2.1≠6→o.2.2.2.2.2.2.2.2.2.2.2.1=[]
theorem YH (o:D6) (h:OkO o):Def (F60 o) fun r=>r=true↔Alone o:=by
 have key:∀ x:D6,(x=o↔Alone o)→Def (Option.bind (F14 x o) fun v2=>some v2) fun r=>r=true↔Alone o:=by
  intro x hx
  refine Def.bind' (YG x o h) (fun v q=>.ret ?_)
  exact q.trans hx
 have fwd:∀ (k:Int) (x:D6),o.2.1=k→x=o→(k≠2→lnk x=[])→(k≠1→dat x=[])→(k≠3→x.2.2.2.2.2.2.2.1=[])→(k≠4→thr x=Ty.zero t4)→(k≠5→gat x=Ty.zero t5)→(k≠6→x.2.2.2.2.2.2.2.2.2.2.1=[])→(k≠6→x.2.2.2.2.2.2.2.2.2.2.2.1=[])→Alone o:=by
  rintro k x rfl rfl h1 h2 h3 h4 h5 h6 h7
  exact ⟨h1,h2,h3,h4,h5,h6,h7⟩
 unfold F60
 simp only [ay]
 by_cases e1:o.2.1=1
 ·rw [if_pos (by simpa using e1)]
  refine key _ ⟨fun e=>fwd 1 _ e1 e (fun _=>rfl) (fun h=>absurd rfl h) (fun _=>rfl) (fun _=>rfl) (fun _=>rfl) (fun _=>rfl) (fun _=>rfl),fun ⟨a1,a2,a3,a4,a5,a6,a7⟩=>vS rfl rfl rfl rfl rfl (a1 (by omega)).symm rfl (a3 (by omega)).symm (a4 (by omega)).symm (a5 (by omega)).symm (a6 (by omega)).symm (a7 (by omega)).symm⟩
 rw [if_neg (by simpa using e1)]
 by_cases e2:o.2.1=2
 ·rw [if_pos (by simpa using e2)]
  refine key _ ⟨fun e=>fwd 2 _ e2 e (fun h=>absurd rfl h) (fun _=>rfl) (fun _=>rfl) (fun _=>rfl) (fun _=>rfl) (fun _=>rfl) (fun _=>rfl),fun ⟨a1,a2,a3,a4,a5,a6,a7⟩=>vS rfl rfl rfl rfl rfl rfl (a2 (by omega)).symm (a3 (by omega)).symm (a4 (by omega)).symm (a5 (by omega)).symm (a6 (by omega)).symm (a7 (by omega)).symm⟩
 rw [if_neg (by simpa using e2)]
 by_cases e3:o.2.1=3
 ·rw [if_pos (by simpa using e3)]
  refine key _ ⟨fun e=>fwd 3 _ e3 e (fun _=>rfl) (fun _=>rfl) (fun h=>absurd rfl h) (fun _=>rfl) (fun _=>rfl) (fun _=>rfl) (fun _=>rfl),fun ⟨a1,a2,a3,a4,a5,a6,a7⟩=>vS rfl rfl rfl rfl rfl (a1 (by omega)).symm (a2 (by omega)).symm rfl (a4 (by omega)).symm (a5 (by omega)).symm (a6 (by omega)).symm (a7 (by omega)).symm⟩
 rw [if_neg (by simpa using e3)]
 by_cases e4:o.2.1=4
 ·rw [if_pos (by simpa using e4)]
  refine key _ ⟨fun e=>fwd 4 _ e4 e (fun _=>rfl) (fun _=>rfl) (fun _=>rfl) (fun h=>absurd rfl h) (fun _=>rfl) (fun _=>rfl) (fun _=>rfl),fun ⟨a1,a2,a3,a4,a5,a6,a7⟩=>vS rfl rfl rfl rfl rfl (a1 (by omega)).symm (a2 (by omega)).symm (a3 (by omega)).symm rfl (a5 (by omega)).symm (a6 (by omega)).symm (a7 (by omega)).symm⟩
 rw [if_neg (by simpa using e4)]
 by_cases e5:o.2.1=5
 ·rw [if_pos (by simpa using e5)]
  refine key _ ⟨fun e=>fwd 5 _ e5 e (fun _=>rfl) (fun _=>rfl) (fun _=>rfl) (fun _=>rfl) (fun h=>absurd rfl h) (fun _=>rfl) (fun _=>rfl),fun ⟨a1,a2,a3,a4,a5,a6,a7⟩=>vS rfl rfl rfl rfl rfl (a1 (by omega)).symm (a2 (by omega)).symm (a3 (by omega)).symm (a4 (by omega)).symm rfl (a6 (by omega)).symm (a7 (by omega)).symm⟩
 rw [if_neg (by simpa using e5)]
 by_cases e6:o.2.1=6
 ·rw [if_pos (by simpa using e6)]
  refine key _ ⟨fun e=>fwd 6 _ e6 e (fun _=>rfl) (fun _=>rfl) (fun _=>rfl) (fun _=>rfl) (fun _=>rfl) (fun h=>absurd rfl h) (fun h=>absurd rfl h),fun ⟨a1,a2,a3,a4,a5,a6,a7⟩=>vS rfl rfl rfl rfl rfl (a1 (by omega)).symm (a2 (by omega)).symm (a3 (by omega)).symm (a4 (by omega)).symm (a5 (by omega)).symm rfl rfl⟩
 rw [if_neg (by simpa using e6)]
 exact key _ ⟨fun e=>fwd _ _ rfl e (fun _=>rfl) (fun _=>rfl) (fun _=>rfl) (fun _=>rfl) (fun _=>rfl) (fun _=>rfl) (fun _=>rfl),fun ⟨a1,a2,a3,a4,a5,a6,a7⟩=>vS rfl rfl rfl rfl rfl (a1 e2).symm (a2 e1).symm (a3 e3).symm (a4 e4).symm (a5 e5).symm (a6 e6).symm (a7 e6).symm⟩
end Go.Fn
namespace Go.Fn
open Go Go.Ab Go.Tx
theorem YI {l pre post:List D0} {v:D0} (e:l=pre++v::post) (h:vP l):(0≤v.2.1∧v.2.1≤5∧v.2.1≠2)∧∀ u,pre.getLast? = some u→u.1<v.1:=by
 refine ⟨h.lev v (by rw [e];simp),fun u hu=>?_⟩
 have hr:=h.rise
 rw [e,List.pairwise_append] at hr
 exact hr.2.2 u (List.mem_of_getLast? hu) v (by simp)
theorem Vb {pre:List D0} {v:D0} (h:vP pre) (hl:0≤v.2.1∧v.2.1≤5∧v.2.1≠2) (hp:∀ u,pre.getLast? = some u→u.1<v.1):vP (pre++[v]):=by
 refine ⟨?_,?_⟩
 ·rw [List.pairwise_append]
  refine ⟨h.rise,by simp,fun x hx y hy=>?_⟩
  simp only [List.mem_singleton] at hy;subst hy
  cases hg:pre.getLast? with
  | none=>rw [List.getLast?_eq_none_iff.1 hg] at hx;cases hx
  | some u =>
   have hu:=hp u hg
   have hr:=h.rise
   obtain ⟨ys,rfl⟩:=List.getLast?_eq_some_iff.1 hg
   rw [List.pairwise_append] at hr
   rcases List.mem_append.1 hx with hx | hx
   ·have:=hr.2.2 x hx u (by simp);omega
   ·simp at hx;subst hx;omega
 ·intro p hp'
  rcases List.mem_append.1 hp' with hp' | hp'
  ·exact h.lev p hp'
  ·simp at hp'; subst hp'; exact hl
theorem last_none {α:Type} {pre:List α} (h : ¬ 0<pre.length):∀ u,pre.getLast? = some u→False:=fun u hu=>by
 have:pre=[]:=List.length_eq_zero_iff.1 (by omega)
 rw [this] at hu;cases hu
theorem YJ (l:List D0) (hl:l.length≤big):Def (F82 l) fun b=>b=true↔vP l:=by
 unfold F82
 simp only [ay,F97,Option.bind_some]
 refine Def.sZ (l:=l) (fun pre=>vP pre) hl ⟨List.Pairwise.nil,by simp⟩ (fun pre v post e hi=>?_) (fun hi=>.done (.ret ⟨fun _=>hi,fun _=>rfl⟩))
 refine Def.bC _ (fun _=>Def.at e) (fun v4 q4 _=>?_)
 refine Def.bC _ (fun hc=>Def.prev e hl (by simp at hc;omega)) (fun v5 q5 _=>?_)
 refine Def.bC _ (fun _=>Def.at e) (fun v6 q6 _=>?_)
 simp at q4 q5 q6
 refine Def.ite (fun hc=>.done (.ret ⟨fun h=>(by cases h),fun hf=>?_⟩)) (fun hc=>.turn ⟨rfl,?_⟩)
 ·obtain ⟨⟨h0,h5,h2⟩,hp⟩:=YI e hf
  have e4:=q4 h0 h5
  subst e4
  simp [h0,h5,h2] at hc
  obtain ⟨hpos,hge⟩:=hc
  have:=hp _ (q5 h0 h5 h2 hpos)
  have e6:=q6 h0 h5 h2 hpos
  rw [e6] at hge
  omega
 ·simp at hc
  obtain ⟨⟨⟨h0,h5⟩,h2⟩,hp⟩:=hc
  have e4:=q4 h0 h5
  subst e4
  refine Vb hi ⟨h0,h5,h2⟩ fun u hu=>?_
  by_cases hpos:0<pre.length
  ·have h1:=q5 h0 h5 h2 hpos
   have h3:=hp hpos
   rw [q6 h0 h5 h2 hpos] at h3
   rw [hu] at h1;cases h1
   omega
  ·exact (last_none hpos u hu).elim
structure tJ (l:List D0):Prop where
 len:l.length≤16
 fit:vP l
 low:∀ p∈l,p.2.1≠5
theorem zy (l:List D0) (hl:l.length≤big):Def (F59 l) fun b=>b=true↔tJ l:=by
 unfold F59
 simp only [ay]
 refine Def.sZ (l:=l) (fun pre=>∀ p∈pre,p.2.1≠5) hl (by simp) (fun pre v post e hi=>?_) (fun hi=>?_)
 ·refine Def.ite (fun hc=>.done (.ret ⟨fun h=>(by cases h),fun hk=>?_⟩)) (fun hc=>.turn ⟨rfl,fun p hp=>?_⟩)
  ·exact absurd (by simpa using hc) (hk.low v (by rw [e];simp))
  ·rcases List.mem_append.1 hp with hp | hp
   ·exact hi p hp
   ·simp at hp;subst hp;simpa using hc
 ·refine Def.done (Def.bC _ (fun _=>YJ l hl) (fun b q _=>.ret ?_))
  by_cases h' : ((l.length:Nat):Int)≤16
  ·rw [if_pos (by simpa using h')]
   show b=true↔tJ l
   rw [q (by simpa using h')]
   exact ⟨fun h=>⟨by omega,h,hi⟩,fun h=>h.fit⟩
  ·rw [if_neg (by simpa using h')]
   exact ⟨fun h=>(by cases h),fun h=>by have:=h.len;omega⟩
def Vd (a b:List D0):Prop:=(∀ p∈a,p.2.1≤uS b p.1)∧∀ q∈b,uS a q.1≤q.2.1
theorem Ve {a b:List D0} (ha:vP a) (hb:vP b):V7 a b=true↔Vd a b:=by
 unfold V7 Vd
 rw [Bool.and_eq_true,List.all_eq_true,List.all_eq_true]
 refine and_congr (forall_congr' fun p=>forall_congr' fun hp=>?_) (forall_congr' fun q=>forall_congr' fun hq=>?_)
 ·have h1:=ha.lev p hp
  have h2:=IZ hb p.1
  rw [zS h1.1 h1.2.1,zS h2.1 h2.2,decide_eq_true_eq]
 ·have h1:=hb.lev q hq
  have h2:=IZ ha q.1
  rw [zS h1.1 h1.2.1,zS h2.1 h2.2,decide_eq_true_eq]
theorem vP.tail {p:D0} {l:List D0} (h:vP (p::l)):vP l:=⟨(List.pairwise_cons.1 h.rise).2,fun q hq=>h.lev q (by simp [hq])⟩
theorem Rw (a b:List D0) (hla:a.length≤1000) (hlb:b.length≤1000) (ha:vP a) (hb:vP b):Def (F65 a b) fun r=>r=true↔Vd a b :=
 ⟨_,V8 a b (by unfold big;omega) (by unfold big;omega),Ve ha hb⟩
end Go.Fn
namespace Go.Fn
open Go Go.Ab Go.Tx
def Adj {α:Type} (R:α→α→Prop) (l:List α):Prop:=∀ pre u v post,l=pre++u::v::post→R u v
theorem YK {α:Type} {R:α→α→Prop} {l pre post:List α} {v:α} (e:l=pre++v::post) (h:Adj R l):∀ u,pre.getLast? = some u→R u v:=by
 intro u hu
 obtain ⟨ys,rfl⟩:=List.getLast?_eq_some_iff.1 hu
 exact h ys u v post (by rw [e];simp)
theorem Vf {α:Type} {R:α→α→Prop} {pre:List α} {v:α} (h:Adj R pre) (hp:∀ u,pre.getLast? = some u→R u v):Adj R (pre++[v]):=by
 intro p u w post e
 rcases List.eq_nil_or_concat post with rfl | ⟨q,x,rfl⟩
 ·have e' : pre++[v]=(p++[u])++[w]:=by rw [e];simp
  obtain ⟨e1,e2⟩:=List.append_inj' e' rfl
  cases e2
  exact hp u (by rw [e1];simp)
 ·have e' : pre++[v]=(p++u::w::q)++[x]:=by rw [e];simp
  obtain ⟨e1,_⟩:=List.append_inj' e' rfl
  exact h p u w q e1
theorem YL {α:Type} {R:α→α→Prop}:Adj R ([]:List α):=by
 intro p u v q e
 cases p <;> cases e
theorem Gm {α:Type} {key:α→Int} {pre:List α} {v:α} (h:pre.Pairwise (fun a b=>key a<key b)) (hp:∀ u,pre.getLast? = some u→key u<key v):(pre++[v]).Pairwise (fun a b=>key a<key b):=by
 rw [List.pairwise_append]
 refine ⟨h,by simp,fun x hx y hy=>?_⟩
 simp only [List.mem_singleton] at hy;subst hy
 cases hg:pre.getLast? with
 | none=>rw [List.getLast?_eq_none_iff.1 hg] at hx;cases hx
 | some u =>
  have hu:=hp u hg
  obtain ⟨ys,rfl⟩:=List.getLast?_eq_some_iff.1 hg
  rw [List.pairwise_append] at h
  rcases List.mem_append.1 hx with hx | hx
  ·have:=h.2.2 x hx u (by simp);omega
  ·simp at hx;subst hx;omega
theorem KE {α:Type} {key:α→Int} {l pre post:List α} {v:α} (e:l=pre++v::post) (h:l.Pairwise (fun a b=>key a<key b)):∀ u,pre.getLast? = some u→key u<key v:=by
 intro u hu
 rw [e,List.pairwise_append] at h
 exact h.2.2 u (List.mem_of_getLast? hu) v (by simp)
structure aaU (l:List Int):Prop where
 rise:l.Pairwise (· < ·)
 id:∀ x∈l,1≤x∧x≤2305843009213693952
theorem YM (l:List Int) (hl:l.length≤big):Def (F62 l) fun b=>b=true↔aaU l:=by
 unfold F62
 simp only [ay,F58,Option.bind_some]
 refine Def.sZ (l:=l) (fun pre=>aaU pre) hl ⟨List.Pairwise.nil,by simp⟩ (fun pre v post e hi=>?_) (fun hi=>.done (.ret ⟨fun _=>hi,fun _=>rfl⟩))
 refine Def.bC _ (fun hc=>Def.prev e hl (by simp at hc;omega)) (fun u hu _=>?_)
 refine Def.bC _ (fun hc=>Def.at e) (fun v' hv _=>?_)
 simp at hu hv
 refine Def.ite (fun hc=>.done (.ret ⟨fun h=>(by cases h),fun hr=>?_⟩)) (fun hc=>.turn ⟨rfl,?_⟩)
 ·have hid:=hr.id v (by rw [e];simp)
  have hm:=KE (key:=fun x=>x) e hr.rise
  simp [hid] at hc
  have h1:=hm u (hu hid.1 hid.2 hc.1)
  have h2:=hv hid.1 hid.2 hc.1
  rw [h2] at hc
  have:=hc.2
  omega
 ·simp at hc
  obtain ⟨⟨c1,c2⟩,c3⟩:=hc
  refine ⟨Gm (key:=fun x=>x) hi.rise fun w hw=>?_,fun x hx=>?_⟩
  ·by_cases hpos:0<pre.length
   ·have h1:=hu c1 c2 hpos
    have h3:=c3 hpos
    rw [hv c1 c2 hpos] at h3
    rw [hw] at h1;cases h1
    exact h3
   ·exact (last_none hpos w hw).elim
  ·rcases List.mem_append.1 hx with hx | hx
   ·exact hi.id x hx
   ·simp at hx;subst hx;exact ⟨c1,c2⟩
structure abr (m:D1):Prop where
 va:0≤m.1∧m.1<1048576
 off:0≤m.2.2.2.2.1∧m.2.2.2.2.1<1048576
 n:1≤m.2.1∧m.2.1≤1048576 - m.1∧m.2.1≤1048576 - m.2.2.2.2.1
theorem YN (m:D1):Def (F83 m) fun b=>b=true↔abr m:=by
 unfold F83
 simp only [eG]
 refine .ret ?_
 simp only [Bool.if_false_right,Bool.and_eq_true,decide_eq_true_eq]
 constructor
 ·rintro ⟨⟨⟨⟨⟨⟨⟨h1,h2⟩,h3⟩,h4⟩,h5⟩,h6⟩,h7⟩,h8⟩
  rw [wrap_i64 (by omega) (by omega)] at h7 h8
  exact ⟨⟨by omega,h2⟩,⟨by omega,h4⟩,by omega,h7,h8⟩
 ·rintro ⟨⟨h1,h2⟩,⟨h3,h4⟩,h5,h6,h7⟩
  rw [wrap_i64 (by omega) (by omega),wrap_i64 (by omega) (by omega)]
  exact ⟨⟨⟨⟨⟨⟨⟨h1,h2⟩,h3⟩,h4⟩,h5⟩,by omega⟩,h6⟩,h7⟩
structure abt (l:List D1):Prop where
 len:l.length≤16
 one:∀ m∈l,abr m
 adj:Adj (fun u v:D1=>IntKind.wrap .i64 (u.1+u.2.1)≤v.1) l
theorem YO (l:List D1):Def (F63 l) fun b=>b=true↔abt l:=by
 unfold F63
 refine Def.ite (fun h=>.ret ⟨fun h=>(by cases h),fun hp=>?_⟩) (fun hn=>?_)
 ·have:=hp.len
  simp at h;omega
 simp only [ay]
 have hl:l.length≤16:=by simp at hn;omega
 refine Def.sZ (l:=l) (fun pre=>(∀ m∈pre,abr m)∧Adj (fun u v:D1=>IntKind.wrap .i64 (u.1+u.2.1)≤v.1) pre) (by omega) ⟨by simp,YL⟩ (fun pre v post e hi=>?_) (fun hi=>.done (.ret ⟨fun _=>⟨hl,hi.1,hi.2⟩,fun _=>rfl⟩))
 refine Def.bind' (YN v) (fun v3 q3=>?_)
 refine Def.bC _ (fun hc=>Def.prev e (by omega) (by simp at hc;omega)) (fun v4 q4 _=>?_)
 refine Def.bC _ (fun hc=>Def.prev e (by omega) (by simp at hc;omega)) (fun v5 q5 _=>?_)
 refine Def.bC _ (fun _=>Def.at e) (fun v6 q6 _=>?_)
 simp at q4 q5 q6
 refine Def.ite (fun hc=>.done (.ret ⟨fun h=>(by cases h),fun hp=>?_⟩)) (fun hc=>.turn ⟨rfl,fun m hm=>?_,Vf hi.2 fun u hu=>?_⟩)
 ·have e3:=q3.2 (hp.one v (by rw [e];simp))
  subst e3
  simp at hc
  have h1:=q4 rfl hc.1
  have h2:=q5 rfl hc.1
  have h3:=q6 rfl hc.1
  rw [h1] at h2;cases h2
  have:=YK e hp.adj v4 h1
  rw [h3] at hc
  omega
 ·simp at hc
  rcases List.mem_append.1 hm with hm | hm
  ·exact hi.1 m hm
  ·simp at hm;subst hm;exact q3.1 hc.1
 ·simp at hc
  obtain ⟨rfl,hc⟩:=hc
  by_cases hpos:0<pre.length
  ·have h1:=q4 rfl hpos
   have h2:=q5 rfl hpos
   have h3:=hc hpos
   rw [q6 rfl hpos] at h3
   rw [hu] at h1 h2;cases h1;cases h2
   exact h3
  ·exact (last_none hpos u hu).elim
end Go.Fn
namespace Go.Fn
open Go Go.Ab Go.Tx
def aan (s:D2):Bool:=(if (decide (s.1≤s.2.1))=true then (decide (s.2.1≤(2305843009213693952:Int))) else false)
structure aaV (l:List D0) (t:D4):Prop where
 labs:∀ i,tJ (t.2.2.2.2.2.2.2.2.2.2.1 i)
 wait:t.2.2.2.2.2.2.1≠1→t.2.2.2.2.2.2.2.1=Ty.zero t3
 clr:tJ t.2.2.1
 leq:Vd l t.2.2.1
 state:0≤t.2.2.2.2.2.2.1∧t.2.2.2.2.2.2.1≤2
 alr:t.2.2.2.2.2.2.2.2.1.length≤8
 span:aan t.2.2.2.2.2.2.2.2.2.1=true
theorem YP (l:List D0) (t:D4) (hl:tJ l) (h1:t.2.2.1.length≤big) (h3:∀ i,(t.2.2.2.2.2.2.2.2.2.2.1 i).length≤big):Def (F64 l t) fun b=>b=true↔aaV l t:=by
 have k3:=oV (t:=.prod t2 (.prod (.int .u64) (.prod (.int .u64) (.prod .bool .unit)))) (by rfl) t.2.2.2.2.2.2.2.1 (Ty.zero t3:D3)
 unfold F64
 simp only [ay,eG]
 refine Def.V9 (n:=4) (fun k=>∀ i:Fin 4,i.1<k→tJ (t.2.2.2.2.2.2.2.2.2.2.1 i)) (by omega) (fun i h=>absurd h (by omega)) (fun i h4 hi=>?_) (fun hi=>?_)
 ·rw [Ru h4,YD h4]
  simp only [Option.bind_some]
  refine Def.bind' (zy _ (h3 _)) (fun v hv=>?_)
  refine Def.ite (fun hc=>.done (.ret ⟨fun h=>(by cases h),fun e=>?_⟩)) (fun hc=>.turn ⟨rfl,fun k hk=>?_⟩)
  ·have hv' : v=true:=hv.2 (e.labs _)
   rw [hv'] at hc;simp at hc
  ·have hv' : v=true:=by simpa using hc
   by_cases hki:k.1<i
   ·exact hi k hki
   ·have:k=⟨i,h4⟩:=Fin.ext (by simp only;omega)
    rw [this];exact hv.1 hv'
 ·have hl4:∀ i,tJ (t.2.2.2.2.2.2.2.2.2.2.1 i):=fun i=>hi i i.2
  refine Def.done (Def.ite (fun hc=>.ret ⟨fun h=>(by cases h),fun hp=>?_⟩) (fun hc=>?_))
  ·simp only [Bool.if_false_right,Bool.and_eq_true,decide_eq_true_eq,bne_iff_ne,ne_eq,Bool.not_eq_true',← Bool.not_eq_true,k3] at hc
   exact (hc.2 (hp.wait hc.1)).elim
  ·simp only [Bool.if_false_right,Bool.and_eq_true,decide_eq_true_eq,bne_iff_ne,ne_eq,Bool.not_eq_true',← Bool.not_eq_true,k3] at hc
   have hw:t.2.2.2.2.2.2.1≠1→t.2.2.2.2.2.2.2.1=Ty.zero t3:=fun h=>Classical.byContradiction fun h'=>hc ⟨h,h'⟩
   refine Def.bind' (zy _ h1) (fun v2 q2=>?_)
   refine Def.bC (fun v3=>v3=true↔Vd l t.2.2.1) (fun hc=>?_) (fun v3 q3 _=>?_)
   ·have hk:=q2.1 (by simpa using hc)
    exact Rw _ _ (by have:=hl.len;omega) (by have:=hk.len;omega) hl.fit hk.fit
   refine Def.bC (fun v4=>v4=aan t.2.2.2.2.2.2.2.2.2.1) (fun _=>.ret rfl) (fun v4 q4 _=>.ret ⟨fun hr=>?_,fun hp=>?_⟩)
   ·simp only [Bool.if_false_right,Bool.and_eq_true,decide_eq_true_eq,Bool.and_true] at hr q3 q4
    obtain ⟨⟨⟨⟨⟨r2,r3⟩,r4⟩,r5⟩,r6⟩,r7⟩:=hr
    exact ⟨hl4,hw,q2.1 r2,(q3 r2).1 r3,⟨r4,r5⟩,by omega,by rw [← q4 ⟨⟨⟨⟨r2,r3⟩,r4⟩,r5⟩,r6⟩];exact r7⟩
   ·have e2:=q2.2 hp.clr
    subst e2
    have e3:=(q3 (by simp)).2 hp.leq
    subst e3
    have hs:=hp.state
    have ha:=hp.alr
    simp only [Bool.if_false_right,Bool.and_eq_true,decide_eq_true_eq,Bool.and_true] at q4 ⊢
    have h8:((t.2.2.2.2.2.2.2.2.1.length:Nat):Int)≤8:=by omega
    have e4:=q4 (by simp [hs,h8])
    rw [hp.span] at e4
    simp [hs,h8,e4]
structure KF (o:D6):Prop where
 seg:o.2.1=1→((dat o).length:Int)≤16 * (quo o - 1)
 con:o.2.1=2→(lnk o).length≤64∧aaU (lnk o)
 spa:o.2.1=3→abt o.2.2.2.2.2.2.2.1
 thr:o.2.1=4→aaV o.2.2.1 (thr o)∧o.2.2.2.2.1=false
 gat:o.2.1=5→tJ (gat o).1∧tJ (gat o).2.1∧Vd (gat o).1 (gat o).2.1
 dev:o.2.1=6→o.2.2.2.2.2.2.2.2.2.2.1.length≤64∧o.2.2.2.2.2.2.2.2.2.2.2.1.length≤1024
structure Vg (o:D6):Prop where
 id:1≤o.1∧o.1≤2305843009213693952
 kind:1≤o.2.1∧o.2.1≤6
 lab:tJ o.2.2.1
 quo:1≤quo o∧quo o≤4096
 own:o.2.1≠4→qN o.2.2.1=[]
 alone:Alone o
 inner:KF o
theorem qw (o:D6) (k:Int) (e:o.2.1=k) (h1:k=1→((dat o).length:Int)≤16 * (quo o - 1)) (h2:k=2→(lnk o).length≤64∧aaU (lnk o)) (h3:k=3→abt o.2.2.2.2.2.2.2.1) (h4:k=4→aaV o.2.2.1 (thr o)∧o.2.2.2.2.1=false) (h5:k=5→tJ (gat o).1∧tJ (gat o).2.1∧Vd (gat o).1 (gat o).2.1) (h6:k=6→o.2.2.2.2.2.2.2.2.2.2.1.length≤64∧o.2.2.2.2.2.2.2.2.2.2.2.1.length≤1024):KF o:=by
 subst e;exact ⟨h1,h2,h3,h4,h5,h6⟩
theorem no {p:Prop} {a b:Int} (h:a≠b):a=b→p:=fun e=>absurd e h
theorem Vh (a b:List D0) (ha:a.length≤big) (hb:b.length≤big):Def (Option.bind (F59 a) fun v6=>Option.bind (if (v6&&true)=true then (F59 b) else some false) fun v7=>Option.bind (if ((if v6=true then v7 else false)&&true)=true then (F65 a b) else some false) fun v8=>some (if (if v6=true then v7 else false)=true then v8 else false)) fun r=>r=true↔tJ a∧tJ b∧Vd a b:=by
 refine Def.bind' (zy _ ha) (fun v6 q6=>Def.bC _ (fun _=>zy _ hb) (fun v7 q7 _=>Def.bC (fun v8=>v8=true↔Vd a b) (fun hc=>?_) (fun v8 q8 _=>.ret ⟨fun hr=>?_,fun hp=>?_⟩)))
 ·simp only [Bool.if_false_right,Bool.and_eq_true,decide_eq_true_eq,Bool.and_true] at hc q7
  have k1:=q6.1 hc.1
  have k2:=(q7 hc.1).1 hc.2
  exact Rw _ _ (by have:=k1.len;omega) (by have:=k2.len;omega) k1.fit k2.fit
 ·simp only [Bool.if_false_right,Bool.and_eq_true,decide_eq_true_eq,Bool.and_true] at hr q7 q8
  obtain ⟨⟨r1,r2⟩,r3⟩:=hr
  exact ⟨q6.1 r1,(q7 r1).1 r2,(q8 ⟨r1,r2⟩).1 r3⟩
 ·obtain ⟨p1,p2,p3⟩:=hp
  have e6:=q6.2 p1
  subst e6
  have e7:=(q7 (by simp)).2 p2
  subst e7
  have e8:=(q8 (by simp)).2 p3
  subst e8
  simp
theorem YQ {a b:Nat} (r:Bool) (hr:r=(if (decide (((a:Nat):Int)≤(64:Int)))=true then (decide (((b:Nat):Int)≤(1024:Int))) else false)):r=true↔a≤64∧b≤1024:=by
 subst hr
 simp only [Bool.if_false_right,Bool.and_eq_true,decide_eq_true_eq]
 omega
theorem YR (o:D6) (h:OkO o):Def (F42 o) fun b=>b=true↔Vg o:=by
 unfold F42
 simp only [F58,Option.bind_some,eG,ay]
 refine Def.bC _ (fun _=>zy _ h.lab) (fun v2 q2 _=>?_)
 refine Def.bC _ (fun _=>YH o h) (fun v4 q4 _=>?_)
 refine Def.ite (fun hc=>.ret ⟨fun h=>(by cases h),fun hp=>?_⟩) (fun hc=>?_)
 ·obtain ⟨p1,p2,p3,p4,p5,p6,p7⟩:=hp
  have e2:=(q2 (by simp [p1,p2])).2 p3
  subst e2
  have e4:=(q4 (by simp only [quo] at p4;simp [p1,p2,p4])).2 p6
  subst e4
  simp only [quo] at p4
  simp [p1,p2,p4] at hc
  omega
 simp at hc
 obtain ⟨⟨⟨⟨⟨⟨hid,hk1⟩,hk2⟩,hv2⟩,hq1⟩,hq2⟩,hv4⟩:=hc
 have hkept:=(q2 (by simp [hid,hk1,hk2])).1 hv2
 have hal:=(q4 (by simp [hid,hk1,hk2,hv2,hq1,hq2])).1 hv4
 rw [aak _ (by have:=hkept.len;omega)]
 refine Def.bC (fun v=>v=qN o.2.2.1) (fun _=>.ret rfl) (fun v5 q5 _=>?_)
 refine Def.ite (fun hc=>.ret ⟨fun h=>(by cases h),fun hp=>?_⟩) (fun hc=>?_)
 ·by_cases e4:o.2.1=4
  ·simp [e4] at hc
  ·have:=q5 (by simp [e4])
   rw [hp.own e4] at this
   subst this
   simp at hc
 have hown:o.2.1≠4→qN o.2.2.1=[]:=fun e4=>by
  have:=q5 (by simp [e4])
  subst this
  simp [e4] at hc
  exact hc
 have mk:KF o→Vg o:=fun hi=>⟨hid,⟨hk1,hk2⟩,hkept,⟨hq1,hq2⟩,hown,hal,hi⟩
 have fin:∀ b:Bool,(b=true↔KF o)→(b=true↔Vg o):=fun b hb=>⟨fun h=>mk (hb.1 h),fun h=>hb.2 h.inner⟩
 by_cases e1:o.2.1=1
 ·rw [if_pos (by simpa using e1)]
  refine .ret (fin _ ?_)
  rw [wrap_i64 (x:=o.2.2.2.1 - 1) (by omega) (by omega),wrap_i64 (by omega) (by omega),decide_eq_true_eq]
  exact ⟨fun h=>qw o 1 e1 (fun _=>h) (no (by decide)) (no (by decide)) (no (by decide)) (no (by decide)) (no (by decide)),fun h=>h.seg e1⟩
 rw [if_neg (by simpa using e1)]
 by_cases e2:o.2.1=2
 ·rw [if_pos (by simpa using e2)]
  refine Def.bC _ (fun _=>YM _ h.lnk) (fun v6 q6 _=>.ret (fin _ ?_))
  constructor
  ·intro hb
   simp only [Bool.if_false_right,Bool.and_eq_true,decide_eq_true_eq] at hb
   have hr:=(q6 (by simpa using hb.1)).1 hb.2
   exact qw o 2 e2 (no (by decide)) (fun _=>⟨by simp only [lnk];omega,hr⟩) (no (by decide)) (no (by decide)) (no (by decide)) (no (by decide))
  ·intro hi
   obtain ⟨h64,hr⟩:=hi.con e2
   have h64' : ((o.2.2.2.2.2.1.length:Nat):Int)≤64:=by simp only [lnk] at h64;omega
   rw [if_pos (by simpa using h64')]
   exact (q6 (by simpa using h64')).2 hr
 rw [if_neg (by simpa using e2)]
 by_cases e3:o.2.1=3
 ·rw [if_pos (by simpa using e3)]
  refine Def.bind' (YO _) (fun v6 q6=>.ret (fin _ (q6.trans ?_)))
  exact ⟨fun h=>qw o 3 e3 (no (by decide)) (no (by decide)) (fun _=>h) (no (by decide)) (no (by decide)) (no (by decide)),fun h=>h.spa e3⟩
 rw [if_neg (by simpa using e3)]
 by_cases e4:o.2.1=4
 ·rw [if_pos (by simpa using e4)]
  refine Def.bind' (YP _ _ hkept h.clr h.lbs) (fun v6 q6=>.ret (fin _ ?_))
  have:((if v6=true then (!o.2.2.2.2.1) else false)=true)↔aaV o.2.2.1 (thr o)∧o.2.2.2.2.1=false:=by
   rw [← q6]
   cases v6 <;> simp
  exact this.trans ⟨fun h=>qw o 4 e4 (no (by decide)) (no (by decide)) (no (by decide)) (fun _=>h) (no (by decide)) (no (by decide)),fun h=>h.thr e4⟩
 rw [if_neg (by simpa using e4)]
 by_cases e5:o.2.1=5
 ·rw [if_pos (by simpa using e5)]
  refine (Vh _ _ h.gra h.gcl).mono fun r hr=>fin _ (hr.trans ?_)
  exact ⟨fun h=>qw o 5 e5 (no (by decide)) (no (by decide)) (no (by decide)) (no (by decide)) (fun _=>h) (no (by decide)),fun h=>h.gat e5⟩
 rw [if_neg (by simpa using e5)]
 have e6:o.2.1=6:=by omega
 refine .ret (fin _ ((YQ _ rfl).trans ?_))
 exact ⟨fun h=>qw o 6 e6 (no (by decide)) (no (by decide)) (no (by decide)) (no (by decide)) (no (by decide)) (fun _=>h),fun h=>h.dev e6⟩
structure aao (w:D7):Prop where
 time:0≤w.1∧w.1≤1099511627776
 few:(objs w).length≤1024
 ids:Ris w
 snd:∀ o∈objs w,Vg o
theorem YS (w:D7) (hn:(objs w).length≤big) (h:∀ o∈objs w,OkO o):Def (F24 w) fun b=>b=true↔aao w:=by
 unfold F24
 refine Def.ite (fun hc=>.ret ⟨fun h=>(by cases h),fun hp=>?_⟩) (fun hc=>?_)
 ·have h1:=hp.time
  have h2:=hp.few
  simp only [objs] at h2
  simp at hc;omega
 simp at hc
 simp only [ay]
 refine Def.sZ (l:=objs w) (fun pre=>pre.Pairwise (fun a b=>a.1<b.1)∧∀ o∈pre,Vg o) hn ⟨List.Pairwise.nil,by simp⟩ (fun pre v post e hi=>?_) (fun hi=>.done (.ret ⟨fun _=>⟨⟨by omega,by omega⟩,by simp only [objs];omega,hi.1,hi.2⟩,fun _=>rfl⟩))
 obtain ⟨hi,hs⟩:=hi
 have hv:v∈objs w:=by rw [e];simp
 refine Def.bind' (YR v (h v hv)) (fun v3 q3=>?_)
 refine Def.bC _ (fun hc=>Def.prev e hn (by simp at hc;omega)) (fun u hu _=>?_)
 refine Def.bC _ (fun hc=>Def.at e) (fun v' hv' _=>?_)
 refine Def.ite (fun hc=>.done (.ret ⟨fun h=>(by cases h),fun hp=>?_⟩)) (fun hc=>.turn ⟨rfl,Gm (key:=fun o:D6=>o.1) hi fun x hx=>?_,fun o ho=>?_⟩)
 ·have e3:=q3.2 (hp.snd v hv)
  subst e3
  simp at hc hu hv'
  have h1:=hu hc.1
  have h2:=hv' hc.1
  rw [h2] at hc
  have:=KE (key:=fun o:D6=>o.1) e hp.ids u h1
  omega
 ·by_cases hpos:0<pre.length
  ·simp [hpos] at hc hu hv'
   have h1:=hu hc.1
   have h2:=hv' hc.1
   rw [hx] at h1;cases h1
   rw [h2] at hc
   exact hc.2
  ·exact (last_none hpos x hx).elim
 ·rcases List.mem_append.1 ho with ho | ho
  ·exact hs o ho
  ·simp at ho;subst ho
   refine q3.1 ?_
   simp at hc;exact hc.1
end Go.Fn
namespace Go.Fn
open Go Go.Ab Go.Tx
theorem c1:NJ .u64 1 31=some 2147483648:=by rw [NJ,if_pos (by decide)];rfl
theorem c2:IntKind.wrap .u64 ((2147483648:Int) - 1)=2147483647:=wrap_in (by decide)
theorem c3:IntKind.wrap .i64 ((31:Int) - 0)=31:=wrap_in (by decide)
theorem c4:IntKind.wrap .i64 ((1:Int) - 0)=1:=wrap_in (by decide)
theorem c5:IntKind.wrap .i64 ((31:Int) - 1)=30:=wrap_in (by decide)
theorem c6:NJ .u64 1 30=some 1073741824:=by rw [NJ,if_pos (by decide)];rfl
theorem g0:nI (if (decide ((0:Int)≤0))=true then (decide ((0:Int)<2)) else false)=some ():=by decide
theorem g1:nI (if (decide ((0:Int)≤1))=true then (decide ((1:Int)<2)) else false)=some ():=by decide
end Go.Fn
namespace Go.Fn
open Go Go.Ab Go.Tx
abbrev spn (o:D6):D2:=(thr o).2.2.2.2.2.2.2.2.2.1
structure Few (w:D7):Prop where
 len:(objs w).length≤100
 lns:∀ o∈objs w,(lnk o).length≤1000
 dat:∀ o∈objs w,(dat o).length≤1000000
 ok:∀ o∈objs w,OkO o
 spn:∀ o∈objs w,0≤(spn o).1
theorem nC {w:D7} (hF:Few w) (h:aao w):abq w:={
 few:=by have:=hF.len;omega
 ids:=h.ids
 lns:=hF.lns
 lnk:=fun o ho=>by
  have hs:=h.snd o ho
  by_cases e:o.2.1=2
  ·exact (hs.inner.con e).2.rise
  ·rw [hs.alone.lnk e];exact List.Pairwise.nil
 dat:=hF.dat }
theorem tK {w:D7} (hF:Few w) (h:aao w):∀ o∈objs w,Va o:=fun o ho=>{
 lns:=(nC hF h).lns o ho
 lnk:=(nC hF h).lnk o ho
 dat:=(nC hF h).dat o ho
 lab:=by have:=(h.snd o ho).lab.len;omega
 fit:=(h.snd o ho).lab.fit
 lab4:=by have:=(h.snd o ho).lab.len;omega }
theorem Vj {l:List D6} {id:Int} {c:List Int} (h:Chain l id c):∀ (k:Nat) (acc:List Int),c.length<k→qC l k id acc=acc++c:=by
 induction h with
 | nil e =>
  intro k acc hk
  obtain ⟨k,rfl⟩:∃ m,k=m+1:=⟨k - 1,by simp at hk;omega⟩
  rw [qC,e];simp
 | cons e h ih =>
  intro k acc hk
  obtain ⟨k,rfl⟩:∃ m,k=m+1:=⟨k - 1,by simp at hk;omega⟩
  rw [qC,e]
  simp only
  rw [ih k _ (by simp at hk;omega)]
  simp
theorem Rx {l:List D6} {id:Int} {c:List Int} (h:Chain l id c):c.length≤l.length:=by
 have:=ru c (l.map (·.1)) (List.nodup_cons.1 h.nodup).2 (fun x hx=>by
  obtain ⟨y,hy,e⟩:=h.mem x hx
  exact List.mem_map.2 ⟨y,hy,e⟩)
 simpa using this
def YT (w:D7):Prop:=∀ t∈objs w,t.2.1=4→∀ o∈objs w,F45 w.2.1 (spn t) o.1≠some true∧(o.2.1=4→o.1≠t.1→F46 (spn t) (spn o)=some true)
theorem YU (w:D7) (hn:(objs w).length≤1000) (hr:Ris w):Def (F27 w) fun r=>r=true↔YT w:=by
 unfold F27
 simp only [ay]
 refine Def.sZ (l:=objs w) (fun pre=>∀ t∈pre,t.2.1=4→∀ o∈objs w,F45 w.2.1 (spn t) o.1≠some true∧(o.2.1=4→o.1≠t.1→F46 (spn t) (spn o)=some true)) (by omega) (by simp) (fun pre t post e hi=>?_) (fun hi=>.done (.ret ⟨fun _=>hi,fun _=>rfl⟩))
 have ht:t∈objs w:=by rw [e];simp
 have hgt:(objs w)[pre.length]? = some t:=by rw [e];simp
 have more:(t.2.1=4→∀ o∈objs w,F45 w.2.1 (spn t) o.1≠some true∧(o.2.1=4→o.1≠t.1→F46 (spn t) (spn o)=some true))→∀ x∈pre++[t],x.2.1=4→∀ o∈objs w,F45 w.2.1 (spn x) o.1≠some true∧(o.2.1=4→o.1≠x.1→F46 (spn x) (spn o)=some true):=by
  intro hp x hx
  rcases List.mem_append.1 hx with hx | hx
  ·exact hi x hx
  ·simp only [List.mem_singleton] at hx;subst hx;exact hp
 refine Def.loop (fun i:Int=>0≤i∧i≤(objs w).length∧(t.2.1=4→∀ o∈(objs w).take i.toNat,F45 w.2.1 (spn t) o.1≠some true∧(o.2.1=4→o.1≠t.1→F46 (spn t) (spn o)=some true))) (fun i:Int=>(objs w).length - i.toNat) ⟨by simp,by omega,by simp⟩ (fun i hi2=>?_)
 obtain ⟨h0,h1,h2⟩:=hi2
 refine Def.ite (fun hc=>?_) (fun hc=>.done (.turn ⟨rfl,more fun hk=>?_⟩))
 ·simp only [Bool.if_false_right,Bool.and_eq_true,decide_eq_true_eq,beq_iff_eq] at hc
  obtain ⟨hlt,hk⟩:=hc
  have hlt:i<(((objs w).length:Nat):Int):=hlt
  refine Def.bind (Def.idx h0 hlt (fun o ho hom=>?_))
  have hne:(i != (pre.length:Int))=true↔o.1≠t.1:=by
   rw [bne_iff_ne]
   constructor
   ·intro hne' e1
    have:=Yd hr hom ht e1
    subst this
    obtain ⟨k1,e1⟩:=List.getElem?_eq_some_iff.1 ho
    obtain ⟨k2,e2⟩:=List.getElem?_eq_some_iff.1 hgt
    by_cases hlt2:i.toNat<pre.length
    ·have:=List.pairwise_iff_getElem.1 hr _ _ k1 k2 hlt2
     rw [e1,e2] at this;omega
    ·have hlt3:pre.length<i.toNat:=by omega
     have:=List.pairwise_iff_getElem.1 hr _ _ k2 k1 hlt3
     rw [e1,e2] at this;omega
   ·intro hne' e1
    rw [e1] at ho
    simp only [Int.toNat_natCast] at ho
    rw [hgt] at ho;cases ho
    exact hne' rfl
  obtain ⟨b,hb,_⟩:=Ri w.2.1 (spn t) o.1
  have hb' : F45 w.2.1 t.2.2.2.2.2.2.2.2.1.2.2.2.2.2.2.2.2.2.1 o.1=some b:=hb
  rw [hb',Option.bind_some]
  refine Def.bC (fun v=>F46 (spn t) (spn o)=some v) (fun _=>⟨_,rfl,rfl⟩) (fun v6 q6 _=>?_)
  refine Def.ite (fun hc=>.done (.done (.ret ⟨fun h=>(by cases h),fun hp=>?_⟩))) (fun hc=>.turn ?_)
  ·obtain ⟨p1,p2⟩:=hp t ht hk o hom
   rw [hb] at p1
   have hbf:b=false:=by cases b with
    | false=>rfl
    | true=>exact absurd rfl p1
   subst hbf
   simp only [Bool.false_eq_true,if_false,Bool.if_false_right,Bool.and_eq_true,decide_eq_true_eq,beq_iff_eq,hne,Bool.not_eq_true'] at hc
   obtain ⟨⟨k4,kn⟩,hv⟩:=hc
   have:=q6 (by simp only [Bool.not_false,Bool.if_false_right,Bool.and_eq_true,decide_eq_true_eq,beq_iff_eq,hne,Bool.and_true,Bool.true_and];exact ⟨k4,kn⟩)
   rw [p2 k4 kn,hv] at this
   cases this
  ·rw [wrap_i64 (by omega) (by omega)]
   refine ⟨⟨by omega,by omega,fun hk' x hx=>?_⟩,by omega⟩
   rw [show (i+1).toNat=i.toNat+1 by omega,List.take_add_one,ho] at hx
   rcases List.mem_append.1 hx with hx | hx
   ·exact h2 hk' x hx
   ·simp at hx;subst hx
    have hbf:b=false:=by cases b with
     | false=>rfl
     | true=>simp at hc
    subst hbf
    refine ⟨by rw [hb];simp,fun k4 kn=>?_⟩
    have:=q6 (by simp only [Bool.not_false,Bool.if_false_right,Bool.and_eq_true,decide_eq_true_eq,beq_iff_eq,hne,Bool.and_true,Bool.true_and];exact ⟨k4,kn⟩)
    cases v6 with
    | true=>exact this
    | false =>
     exfalso
     apply hc
     simp only [Bool.false_eq_true,if_false,Bool.if_false_right,Bool.and_eq_true,decide_eq_true_eq,beq_iff_eq,hne,Bool.not_false]
     exact ⟨⟨k4,kn⟩,trivial⟩
 ·have hend:i=(objs w).length:=by
   by_cases h:i<(((objs w).length:Nat):Int)
   ·exfalso
    apply hc
    have h' : i<((List.length w.2.2.2.1:Nat):Int):=h
    simp [h',hk]
   ·omega
  have:=h2 hk
  rw [hend] at this
  simpa using this
structure Wh (w:D7):Prop where
 fit:aao w
 root:(bM (objs w) w.2.2.1).2=true
 lnk:∀ o∈objs w,F25 w o=some true
 plc:∀ o∈objs w,jy (objs w) w.2.2.1 o=true
 spn:YT w
theorem Ry {w:D7} (hF:Few w):Def (F10 w) fun b=>b=true↔Wh w:=by
 have hn:=hF.len
 unfold F10
 refine Def.bind (Def.of (vO w _ (by omega)) ?_)
 refine Def.bind' (YS w (by unfold big;omega) hF.ok) (fun v2 q2=>?_)
 refine Def.ite (fun hc=>.ret ⟨fun h=>(by cases h),fun hp=>?_⟩) (fun hc=>?_)
 ·have:=q2.2 hp.fit
  subst this
  simp [hp.root] at hc
 simp at hc
 obtain ⟨hc1,hroot⟩:=hc
 have hfit:=q2.1 hc1
 have hN:=nC hF hfit
 have hD:=tK hF hfit
 simp only [ay]
 refine Def.sZ (l:=objs w) (fun pre=>∀ o∈pre,F25 w o=some true∧jy (objs w) w.2.2.1 o=true) (by omega) (by simp) (fun pre v post e hi=>?_) (fun hi=>.done ?_)
 ·have hv:v∈objs w:=by rw [e];simp
  obtain ⟨b,hb,_⟩:=Rf w v (by omega) (fun o ho=>(hfit.snd o ho).lab.len) (hfit.snd v hv).lab.len (hN.lns v hv) (hN.dat v hv)
  rw [hb,Option.bind_some]
  refine Def.bC _ (fun _=>Def.at e) (fun v6 q6 _=>?_)
  refine Def.bC (fun x=>x=jy (objs w) w.2.2.1 v6) (fun _=>Def.of (V3 w v6 (by omega) hN.lns) rfl) (fun v7 q7 _=>?_)
  refine Def.ite (fun hc=>.done (.ret ⟨fun h=>(by cases h),fun hp=>?_⟩)) (fun hc=>.turn ⟨rfl,fun o ho=>?_⟩)
  ·have h1:=hp.lnk v hv
   rw [hb] at h1;cases h1
   have e6:=q6 (by simp)
   subst e6
   have e7:=q7 (by simp)
   rw [hp.plc v6 hv] at e7
   subst e7
   simp at hc
  ·rcases List.mem_append.1 ho with ho | ho
   ·exact hi o ho
   ·simp only [List.mem_singleton] at ho
    subst ho
    simp at hc
    have e6:=q6 (by simp [hc.1])
    subst e6
    have e7:=q7 (by simp [hc.1])
    rw [hc.2] at e7
    rw [hb,hc.1]
    exact ⟨rfl,e7.symm⟩
 ·refine Def.bind' (YU w (by omega) hN.ids) (fun v q=>.ret ⟨fun h=>⟨hfit,hroot,fun o ho=>(hi o ho).1,fun o ho=>(hi o ho).2,q.1 h⟩,fun hp=>q.2 hp.spn⟩)
end Go.Fn
namespace Go.Fn
open Go Go.Ab Go.Tx
theorem Rz {w:D7} (hN:abq w) (hD:∀ o∈objs w,Va o) {d:D6} (hd:Va d):Def (F25 w d) fun b=>b=true↔(∀ x∈lnk d,(bM (objs w) x).2=true∧qM d.2.2.1 (bM (objs w) x).1.2.2.1=true)∧(d.2.1=2→qB (objs w) (pages d) (lnk d)≤quo d):=by
 have hf:=hN.few
 unfold F25
 simp only [ay]
 refine Def.sZ (l:=lnk d) (fun pre=>∀ x∈pre,(bM (objs w) x).2=true∧qM d.2.2.1 (bM (objs w) x).1.2.2.1=true) (by have:=hd.lns;omega) (by simp) (fun pre v post e hi=>?_) (fun hi=>.done ?_)
 ·have hv:v∈lnk d:=by rw [e];simp
  have ho:=Ro hD I4 v
  rw [vO w v hf,Option.bind_some,aai _ _ hd.lab4 ho.lab4 hd.fit ho.fit]
  refine Def.bC (fun b=>b=qM d.2.2.1 (bM (objs w) v).1.2.2.1) (fun _=>.ret rfl) (fun v5 q5 _=>?_)
  refine Def.ite (fun hc=>.done (.ret ⟨fun h=>(by cases h),fun hp=>?_⟩)) (fun hc=>.turn ⟨rfl,fun x hx=>?_⟩)
  ·obtain ⟨h1,h2⟩:=hp.1 v hv
   rw [h1] at q5 hc
   have:=q5 (by simp)
   rw [h2] at this
   subst this
   simp at hc
  ·rcases List.mem_append.1 hx with hx | hx
   ·exact hi x hx
   ·simp only [List.mem_singleton] at hx
    subst hx
    simp at hc
    have:=q5 (by simp [hc.1])
    exact ⟨hc.1,by rw [← this];exact hc.2⟩
 ·rw [Q8 w d hf hd.dat hd.lns]
  refine Def.bC (fun v=>v=qB (objs w) (pages d) (lnk d)) (fun _=>.ret rfl) (fun v2 q2 _=>.ret ?_)
  by_cases e:d.2.1=2
  ·have:=q2 (by simp [e])
   subst this
   simp only [e,bne_self_eq_false,Bool.false_eq_true,if_false,decide_eq_true_eq]
   exact ⟨fun h=>⟨hi,fun _=>h⟩,fun h=>h.2 trivial⟩
  ·have:(d.2.1 != 2)=true:=by simpa using e
   rw [this,if_pos rfl]
   exact ⟨fun _=>⟨hi,fun h=>absurd h e⟩,fun _=>rfl⟩
structure PlP (l:List D6) (root:Int) (o:D6):Prop where
 top:o.1=root→aI l o.1=[]∧o.2.1=2∧quo o≤1024
 held:o.1≠root→aI l o.1≠[]
 one:o.1≠root→1<(aI l o.1).length→o.2.2.2.2.1=true∧o.2.1≠2∧o.2.1≠4
 up:o.1≠root→o.2.1=2→∃ c,Chain l o.1 c∧c.getLast? = some root
theorem YV {l:List D6} {root id:Int} (h:id≠root):upB l root id=true↔∃ c,Chain l id c∧c.getLast? = some root:=by
 unfold upB
 constructor
 ·intro hp
  cases ha:(above l id).getLast? with
  | none=>rw [ha] at hp;simp at hp;exact absurd hp h
  | some x =>
   rw [ha] at hp
   have hx:x=root:=by simpa using hp
   subst hx
   rcases y5 l (l.length+1) id [] with h1 | ⟨c,h1,h2,_⟩
   ·unfold above at ha
    rw [h1] at ha;cases ha
   ·unfold above at ha
    rw [h2] at ha
    exact ⟨c,h1,by simpa using ha⟩
 ·rintro ⟨c,hc,hl⟩
  have hlen:=Rx hc
  have:above l id=c:=by unfold above;rw [Vj hc _ _ (by omega)];rfl
  rw [this,hl]
  simp
theorem Bq {l:List D6} {root:Int} {o:D6}:jy l root o=true↔PlP l root o:=by
 unfold jy
 simp only
 by_cases hr:o.1=root
 ·rw [if_pos hr]
  simp only [Bool.and_eq_true,beq_iff_eq,decide_eq_true_eq]
  constructor
  ·rintro ⟨h1,h2,h3⟩
   exact ⟨fun _=>⟨List.length_eq_zero_iff.1 h1,h2,h3⟩,fun h=>absurd hr h,fun h=>absurd hr h,fun h=>absurd hr h⟩
  ·intro h
   obtain ⟨h1,h2,h3⟩:=h.top hr
   exact ⟨by rw [h1];rfl,h2,h3⟩
 ·rw [if_neg hr]
  by_cases hc:(aI l o.1).length<1∨1<(aI l o.1).length∧(o.2.2.2.2.1=false∨o.2.1=2∨o.2.1=4)
  ·rw [if_pos hc]
   refine ⟨fun h=>(by cases h),fun h=>?_⟩
   exfalso
   rcases hc with hc | ⟨h1,h2⟩
   ·exact h.held hr (List.length_eq_zero_iff.1 (by omega))
   ·obtain ⟨p1,p2,p3⟩:=h.one hr h1
    rcases h2 with h2 | h2 | h2
    ·rw [p1] at h2;cases h2
    ·exact p2 h2
    ·exact p3 h2
  ·rw [if_neg hc]
   simp only [not_or,not_and] at hc
   have base:(o.2.1=2→∃ c,Chain l o.1 c∧c.getLast? = some root)↔PlP l root o:=by
    constructor
    ·intro hu
     refine ⟨fun h=>absurd h hr,fun _ e=>?_,fun _ h1=>?_,fun _=>hu⟩
     ·rw [e] at hc;simp at hc
     ·obtain ⟨p1,p2,p3⟩:=hc.2 h1
      exact ⟨by simpa using p1,p2,p3⟩
    ·intro h;exact h.up hr
   rw [← base]
   by_cases hk:o.2.1=2
   ·rw [if_pos hk,YV hr]
    exact ⟨fun h _=>h,fun h=>h hk⟩
   ·rw [if_neg hk]
    exact ⟨fun _ h=>absurd h hk,fun _=>rfl⟩
structure WP (w:D7):Prop where
 time:0≤w.1∧w.1≤1099511627776
 few:(objs w).length≤100
 ids:Ris w
 snd:∀ o∈objs w,Vg o
 has:∀ d∈objs w,∀ x∈lnk d,∃ y∈objs w,y.1=x∧qM d.2.2.1 y.2.2.1=true
 use:∀ d∈objs w,d.2.1=2→IW (objs w) d≤quo d
 root:∃ r∈objs w,r.1=w.2.2.1
 plc:∀ o∈objs w,PlP (objs w) w.2.2.1 o
 spn:YT w
theorem wO {w:D7} (hr:Ris w) (h:∀ o∈objs w,Vg o) (id:Int):0≤vU (objs w) id∧vU (objs w) id≤4096:=by
 by_cases hx:∃ o∈objs w,o.1=id
 ·obtain ⟨o,ho,rfl⟩:=hx
  rw [vU,cu hr o ho];have:=(h o ho).quo;exact ⟨by simp only;omega,this.2⟩
 ·rw [vU,uQ fun o ho e=>hx ⟨o,ho,e⟩]
  exact ⟨by decide,by decide⟩
theorem uT {l:List D6} (hb:∀ id,0≤vU l id∧vU l id≤4096) {o:D6} (hd:(dat o).length≤1000000) (hk:(lnk o).length≤1000):qB l (pages o) (lnk o)=IW l o∧0≤IW l o∧IW l o≤10000000:=by
 have hp:1≤pages o∧pages o≤62502:=by unfold pages;constructor <;> omega
 have e:qB l (pages o) (lnk o)=IW l o:=Kw hb _ _ (by omega) (by omega)
 have ht:∀ ks:List Int,0≤tot (ks.map (vU l))∧tot (ks.map (vU l))≤ks.length * 4096:=by
  intro ks
  induction ks with
  | nil=>simp [tot]
  | cons a ks ih=>have:=hb a;simp only [List.map_cons,tot,List.length_cons];omega
 have:=ht (lnk o)
 refine ⟨e,?_,?_⟩ <;> unfold IW <;> omega
theorem RD {w:D7} (hF:Few w):Wh w↔WP w:=by
 constructor
 ·intro h
  have hN:=nC hF h.fit
  have hD:=tK hF h.fit
  have hl:∀ d∈objs w,(∀ x∈lnk d,(bM (objs w) x).2=true∧qM d.2.2.1 (bM (objs w) x).1.2.2.1=true)∧(d.2.1=2→qB (objs w) (pages d) (lnk d)≤quo d):=fun d hd=>by
   obtain ⟨b,hb,q⟩:=Rz hN hD (hD d hd)
   rw [h.lnk d hd] at hb;cases hb
   exact q.1 rfl
  exact {
   time:=h.fit.time,few:=hF.len,ids:=h.fit.ids,snd:=h.fit.snd
   has:=fun d hd x hx=>by
    obtain ⟨h1,h2⟩:=(hl d hd).1 x hx
    exact ⟨_,(jg h1).1,(jg h1).2,h2⟩
   use:=fun d hd hk=>by
    rw [← (uT (wO h.fit.ids h.fit.snd) (hF.dat d hd) (hF.lns d hd)).1]
    exact (hl d hd).2 hk
   root:=⟨_,jg h.root⟩
   plc:=fun o ho=>Bq.1 (h.plc o ho)
   spn:=h.spn }
 ·intro h
  have hfit:aao w:=⟨h.time,by have:=h.few;omega,h.ids,h.snd⟩
  have hN:=nC hF hfit
  have hD:=tK hF hfit
  exact {
   fit:=hfit
   root:=by
    obtain ⟨r,hr,e⟩:=h.root
    rw [← e,cu h.ids r hr]
   lnk:=fun d hd=>by
    obtain ⟨b,hb,q⟩:=Rz hN hD (hD d hd)
    rw [hb]
    congr 1
    refine q.2 ⟨fun x hx=>?_,fun hk=>?_⟩
    ·obtain ⟨y,hy,rfl,hp⟩:=h.has d hd x hx
     rw [cu h.ids y hy]
     exact ⟨rfl,hp⟩
    ·rw [(uT (wO h.ids h.snd) (hF.dat d hd) (hF.lns d hd)).1]
     exact h.use d hd hk
   plc:=fun o ho=>Bq.2 (h.plc o ho)
   spn:=h.spn }
end Go.Fn
namespace Go.Fn
open Go Go.Ab Go.Tx
theorem Gn {l:List D6} (h:l.Pairwise (fun a b=>a.1<b.1)) (id:Int):(aI l id).Pairwise (· < ·):=by
 unfold aI
 rw [List.pairwise_map]
 exact h.filter _
theorem Chain.move {l l' : List D6} (S:Int→Prop) (h:∀ id,S id→aI l' id=aI l id) (hS:∀ id d,S id→d∈aI l id→S d) {id:Int} {c:List Int} (hc:Chain l id c) (h0:S id):Chain l' id c:=by
 induction hc with
 | nil e=>exact .nil (by rw [h _ h0];exact e)
 | cons e _ ih=>exact .cons (by rw [h _ h0];exact e) (ih (hS _ _ h0 (by rw [e];simp)))
structure Like (o o' : D6):Prop where
 id:o'.1=o.1
 kind:o'.2.1=o.2.1
 lab:o'.2.2.1=o.2.2.1
 spn:spn o' = Fn.spn o
end Go.Fn
namespace Go.Fn
open Go Go.Ab Go.Tx
theorem zA (f:Int→Int) (p:Int→Bool):∀ l:List Int,tot ((l.filter p).map f)+tot ((l.filter fun x=>!p x).map f)=tot (l.map f)
 | []=>rfl
 | a::l=>by
  have ih:=zA f p l
  cases h:p a <;> simp only [List.filter_cons,h,Bool.not_true,Bool.not_false,if_true,if_false,Bool.false_eq_true,List.map_cons,tot] <;> omega
end Go.Fn
