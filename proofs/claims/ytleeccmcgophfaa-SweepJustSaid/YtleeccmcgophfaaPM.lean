import Derived.Test.YtleeccmcgophfaaPK
import Derived.Test.YtleeccmcgophfaaPI
import Derived.Sort.AssemblyPlain
import Derived.Sort.LotD5
import Derived.Test.YtleeccmcgophfaaPL
set_option linter.all false
namespace Go.Fn
open Go Go.Ab Go.Tx Go.Sort
theorem I5 (a b:Int):F37 a b=some (ltInt a b):=by
 unfold F37 F52
 simp [ltInt]
section
variable {d:Array Int} {a b i j:Nat}
theorem kD (h:i<d.size):aA d.toList (i:Int)=some d[i]!:=by
 rw [jJ,Array.getElem?_toList,Array.getElem?_eq_getElem h,getElem!_pos d i h]
theorem Wi (x:Int) (h:i<d.size):eF d.toList (i:Int) x=some (d.setIfInBounds i x).toList:=by
 rw [eF,if_pos ⟨by omega,by simpa using h⟩];simp
theorem Wj {α:Type} (hi:i<d.size) (hj:j<d.size) {k:List Int→Option α}:(Option.bind (eF d.toList (i:Int) d[j]!) fun v=>Option.bind (aA v (j:Int)) fun _=>Option.bind (eF v (j:Int) d[i]!) k)=k (swp d i j).toList:=by
 rw [Wi _ hi,Option.bind_some,kD (by simpa using hj),Option.bind_some,Wi _ (by simpa using hj),Option.bind_some];rfl
theorem bH {x:Int} {n:Nat} (h:x=n) (hn:n≤1000000):IntKind.wrap .i64 x=n:=by rw [h,wrap_i64 (by omega) (by omega)]
theorem grd {α:Type} {c:Bool} {l:List Int} {x y p q:Int} {K:Bool→Option α} (h:c=true→aA l x=some p∧aA l y=some q) :
  (Option.bind (if (c&&true)=true then aA l x else some (0:Int)) fun _=>Option.bind (if (c&&true)=true then aA l x else some (0:Int)) fun v=>Option.bind (if (c&&true)=true then aA l y else some (0:Int)) fun _ =>
   Option.bind (if (c&&true)=true then aA l y else some (0:Int)) fun u=>Option.bind (if (c&&true)=true then F37 v u else some false) K)=K (c&&ltInt p q):=by
 cases c with
 | false=>rfl
 | true =>
  obtain ⟨h1,h2⟩:=h rfl
  simp only [Bool.and_true,if_true,h1,h2,Option.bind_some,I5,Bool.true_and]
theorem DZ {c t:Bool}:(if c=true then (c&&t) else false)=(c&&t):=by cases c <;> rfl
theorem Ea {c t:Bool}:(if c=true then (!(c&&t)) else false)=(c && !t):=by cases c <;> rfl
theorem oW {α:Type} (hi:i<d.size) (hj:j<d.size) {k:List Int→Option α}:(Option.bind (aA d.toList (j:Int)) fun _=>Option.bind (aA d.toList (j:Int)) fun u=>Option.bind (aA d.toList (i:Int)) fun _=>Option.bind (aA d.toList (i:Int)) fun v=>Option.bind (aA d.toList (i:Int)) fun _ =>
  Option.bind (eF d.toList (i:Int) u) fun w=>Option.bind (aA w (j:Int)) fun _=>Option.bind (eF w (j:Int) v) k)=k (swp d i j).toList:=by
 simp only [kD hi,kD hj,Option.bind_some]
 exact Wj hi hj
theorem I7 {lt:Int→Int→Bool} (h:i<b):insOuter lt a b i d=insOuter lt a b (i+1) (insInner lt a i d):=by rw [insOuter,if_pos h]
theorem I8 {lt:Int→Int→Bool} (h : ¬ i<b):insOuter lt a b i d=d:=by rw [insOuter,if_neg h]
theorem Wn (hb:b≤d.size) (hn:d.size≤1000) (ha:a≤d.size):F72 d.toList a b=some ((insertionSort ltInt d a b).toList,()):=by
 refine Def.eq ?_
 unfold F72
 simp only [ay]
 rw [bH (x:=(a:Int)+1) (n:=a+1) (by omega) (by omega)]
 refine Def.loop (fun s=>∃ (i:Nat) (d' : Array Int),s=((i:Int),d'.toList)∧d'.size=d.size∧a+1≤i∧i≤d.size+1∧insOuter ltInt a b i d' = insertionSort ltInt d a b) (fun s=>(b - s.1).toNat) ⟨a+1,d,rfl,rfl,Nat.le_refl _,by omega,rfl⟩ ?_
 rintro s ⟨i,d',rfl,h1,h2,h2',h3⟩
 refine Def.ite (fun hc=>?_) (fun hc=>?_)
 ·have hlt:i<b:=by simpa using hc
  refine Def.loop (fun s=>∃ (j:Nat) (d2:Array Int),s=((j:Int),d2.toList)∧d2.size=d.size∧j≤i∧insInner ltInt a j d2=insInner ltInt a i d') (fun s=>s.1.toNat) ⟨i,d',rfl,h1,Nat.le_refl _,rfl⟩ ?_
  rintro s ⟨j,d2,rfl,g1,g2,g3⟩
  simp only
  rw [grd (p:=d2[j]!) (q:=d2[j - 1]!) (fun hc=>?_)]
  ·rw [DZ]
   refine Def.ite (fun hl=>?_) (fun hl=>?_)
   ·simp only [Bool.and_eq_true,decide_eq_true_eq] at hl
    obtain ⟨hj,hl⟩:=hl
    obtain ⟨j,rfl⟩:∃ j',j=j' + 1:=⟨j - 1,by omega⟩
    rw [bH (x:=((j+1:Nat):Int) - 1) (n:=j) (by omega) (by omega),oW (by omega) (by omega)]
    refine .turn ⟨⟨j,_,rfl,by rw [size_swp];exact g1,by omega,?_⟩,by simp only;omega⟩
    rw [← g3,insInner,if_pos (by rw [Bool.and_eq_true,decide_eq_true_eq];exact ⟨by omega,hl⟩)]
   ·have hs:insInner ltInt a j d2=d2:=by
     cases j with
     | zero=>rfl
     | succ j =>
      rw [insInner,if_neg fun h=>hl ?_]
      rw [Bool.and_eq_true,decide_eq_true_eq] at h ⊢
      exact ⟨by omega,h.2⟩
    rw [bH (x:=(i:Int)+1) (n:=i+1) (by omega) (by omega)]
    refine .done (.turn ⟨⟨i+1,d2,rfl,g1,by omega,by omega,?_⟩,by simp only;omega⟩)
    rw [← h3,I7 hlt,← g3,hs]
  ·simp only [decide_eq_true_eq] at hc
   rw [bH (x:=(j:Int) - 1) (n:=j - 1) (by omega) (by omega)]
   exact ⟨kD (by omega),kD (by omega)⟩
 ·have hge : ¬ i<b:=by simpa using hc
  refine .done (.ret ?_)
  rw [← h3,I8 hge]
theorem Gp {lt:Int→Int→Bool} {hi f r:Nat} (h:2 * r+1≥hi):siftDown lt hi f r d=d:=by rw [siftDown,dif_pos h]
theorem Gq {lt:Int→Int→Bool} {hi f r:Nat} (h : ¬ 2 * r+1≥hi) (hc:(decide (2 * r+1+1<hi)&&lt d[f+(2 * r+1)]! d[f+(2 * r+1)+1]!)=true) :
  siftDown lt hi f r d=if (!lt d[f+r]! d[f+(2 * r+2)]!)=true then d else siftDown lt hi f (2 * r+2) (swp d (f+r) (f+(2 * r+2))):=by
 rw [siftDown,dif_neg h,if_pos hc]
 have h2:2 * r+2<hi:=by
  rw [Bool.and_eq_true,decide_eq_true_eq] at hc;omega
 split
 ·rfl
 ·rfl
theorem Gs {lt:Int→Int→Bool} {hi f r:Nat} (h : ¬ 2 * r+1≥hi) (hc : ¬ (decide (2 * r+1+1<hi)&&lt d[f+(2 * r+1)]! d[f+(2 * r+1)+1]!)=true) :
  siftDown lt hi f r d=if (!lt d[f+r]! d[f+(2 * r+1)]!)=true then d else siftDown lt hi f (2 * r+1) (swp d (f+r) (f+(2 * r+1))):=by
 rw [siftDown,dif_neg h,if_neg hc]
theorem Wp {hi f r:Nat} (hb:f+hi≤d.size) (hn:d.size≤1000) (hr:r≤1000):F92 d.toList r hi f=some ((siftDown ltInt hi f r d).toList,()):=by
 refine Def.eq ?_
 unfold F92
 rw [ay,ay]
 refine Def.loop (fun s=>∃ (q:Nat) (d' : Array Int),s=((q:Int),d'.toList)∧d'.size=d.size∧q≤1000∧siftDown ltInt hi f q d' = siftDown ltInt hi f r d) (fun s=>(hi - s.1).toNat) ⟨r,d,rfl,rfl,hr,rfl⟩ ?_
 rintro s ⟨q,d',rfl,h1,h2,h3⟩
 simp only
 have w1:=bH (x:=(2:Int) * (q:Int)) (n:=2 * q) (by omega) (by omega)
 have w2:=bH (x:=((2 * q:Nat):Int)+1) (n:=2 * q+1) (by omega) (by omega)
 have w3:=bH (x:=((2 * q+1:Nat):Int)+1) (n:=2 * q+1+1) (by omega) (by omega)
 simp only [w1,w2,w3]
 refine Def.ite (fun hc=>?_) (fun hc=>?_)
 ·have hge:2 * q+1≥hi:=by
   have:=of_decide_eq_true hc
   omega
  exact .done (.ret (by rw [← h3,Gp hge]))
 ·have hlt : ¬ 2 * q+1≥hi:=fun h=>hc (decide_eq_true (by omega))
  have w4:=bH (x:=(f:Int)+((2 * q+1:Nat):Int)) (n:=f+(2 * q+1)) (by omega) (by omega)
  have w5:=bH (x:=((f+(2 * q+1):Nat):Int)+1) (n:=f+(2 * q+1)+1) (by omega) (by omega)
  have w6:=bH (x:=(f:Int)+(q:Int)) (n:=f+q) (by omega) (by omega)
  simp only [w4,w5,w6]
  rw [grd (p:=d'[f+(2 * q+1)]!) (q:=d'[f+(2 * q+1)+1]!) (fun hc=>?_)]
  ·rw [DZ]
   have hdec:decide (((2 * q+1+1:Nat):Int)<(hi:Int))=decide (2 * q+1+1<hi):=by simp only [decide_eq_decide];omega
   rw [hdec]
   refine Def.aO (fun c:Int=>∃ n:Nat,c=n∧n<hi∧q<n∧siftDown ltInt hi f q d' = if (!ltInt d'[f+q]! d'[f+n]!)=true then d' else siftDown ltInt hi f n (swp d' (f+q) (f+n))) ?_ ?_
   ·rintro _ ⟨n,rfl,k1,k2,k3⟩
    have w7:=bH (x:=(f:Int)+(n:Int)) (n:=f+n) (by omega) (by omega)
    simp only [w7]
    rw [kD (by omega),Option.bind_some,Option.bind_some,kD (by omega),Option.bind_some,Option.bind_some,I5,Option.bind_some]
    refine Def.ite (fun hl=>?_) (fun hl=>?_)
    ·exact .done (.ret (by rw [← h3,k3,if_pos hl]))
    ·simp only [Option.bind_some]
     rw [Wj (by omega) (by omega)]
     exact .turn ⟨⟨n,_,rfl,by rw [size_swp];exact h1,by omega,by rw [← h3,k3,if_neg hl]⟩,by simp only;omega⟩
   ·intro jj hjj
    refine Def.ite (fun hl=>hjj _ ⟨2 * q+2,rfl,?_,by omega,Gq hlt hl⟩) (fun hl=>hjj _ ⟨2 * q+1,rfl,by omega,by omega,Gs hlt hl⟩)
    rw [Bool.and_eq_true,decide_eq_true_eq] at hl;omega
  ·have hc:=of_decide_eq_true hc
   exact ⟨kD (by omega),kD (by omega)⟩
theorem size_siftDown {lt:Int→Int→Bool} {hi f r:Nat}:(siftDown lt hi f r d).size=d.size:=by
 fun_induction siftDown lt hi f r d <;> simp_all [size_swp]
theorem Bv {lt:Int→Int→Bool} {hi f:Nat}:∀ (k:Nat) (d:Array Int),(heapBuild lt hi f k d).size=d.size
 | 0,d=>rfl
 | k+1,d=>by rw [heapBuild,Bv k,size_siftDown]
theorem aap (hb:b≤d.size) (hn:d.size≤1000) (ha:a<b):F73 d.toList a b=some ((heapSort ltInt d a b).toList,()):=by
 refine Def.eq ?_
 unfold F73
 have w1:=bH (x:=(b:Int) - (a:Int)) (n:=b - a) (by omega) (by omega)
 have w2:=bH (x:=((b - a:Nat):Int) - 1) (n:=b - a - 1) (by omega) (by omega)
 have w3:Ej .i64 ((b - a - 1:Nat):Int) 2=some (((b - a - 1) / 2:Nat):Int):=by
  rw [Ej,if_pos (by decide)]
  have:(((b - a - 1:Nat):Int)).tdiv 2=(((b - a - 1) / 2:Nat):Int):=by rw [Int.tdiv_eq_ediv_of_nonneg (by omega)];omega
  rw [this,wrap_i64 (by omega) (by omega)]
 simp only [w1,w2,w3,Option.bind_some]
 refine Def.aO (fun l:List Int=>∃ d',l=d'.toList∧d' = heapBuild ltInt (b - a) a ((b - a - 1) / 2+1) d) ?_ ?_
 ·rintro _ ⟨d0,rfl,e0⟩
  have hs0:d0.size=d.size:=by rw [e0,Bv]
  rw [ay]
  refine Def.loop (fun s=>∃ (k:Nat) (d' : Array Int),s=((k:Int) - 1,d'.toList)∧d'.size=d.size∧k≤b - a∧heapPop ltInt a k d' = heapSort ltInt d a b) (fun s=>(s.1+1).toNat) ⟨b - a,d0,by congr 1;omega,hs0,Nat.le_refl _,by rw [heapSort,e0]⟩ ?_
  rintro s ⟨k,d',rfl,h1,h2,h3⟩
  refine Def.ite (fun hc=>?_) (fun hc=>?_)
  ·have hc:=of_decide_eq_true hc
   simp only at hc ⊢
   obtain ⟨k,rfl⟩:∃ k',k=k' + 1:=⟨k - 1,by omega⟩
   rw [show (((k+1:Nat):Int) - 1)=(k:Int) by omega]
   have w4:=bH (x:=(a:Int)+(k:Int)) (n:=a+k) (by omega) (by omega)
   simp only [w4]
   rw [oW (by omega) (by omega)]
   have h0:=Wp (d:=swp d' a (a+k)) (hi:=k) (f:=a) (r:=0) (by rw [size_swp];omega) (by rw [size_swp];omega) (by omega)
   simp only [Int.natCast_zero] at h0
   rw [h0,Option.bind_some]
   have w5:IntKind.wrap .i64 ((k:Int) - 1)=(k:Int) - 1:=wrap_i64 (by omega) (by omega)
   rw [w5]
   exact .turn ⟨⟨k,_,rfl,by rw [size_siftDown,size_swp];exact h1,by omega,by rw [← h3,heapPop]⟩,by simp only;omega⟩
  ·simp only [decide_eq_true_eq] at hc
   have:k=0:=by omega
   subst this
   exact .done (.ret (by rw [← h3];rfl))
 ·intro jj hjj
  refine Def.loop (fun s=>∃ (k:Nat) (d' : Array Int),s=((k:Int) - 1,d'.toList)∧d'.size=d.size∧k≤1000∧heapBuild ltInt (b - a) a k d' = heapBuild ltInt (b - a) a ((b - a - 1) / 2+1) d) (fun s=>(s.1+1).toNat) ⟨(b - a - 1) / 2+1,d,by congr 1;omega,rfl,by omega,rfl⟩ ?_
  rintro s ⟨k,d',rfl,h1,h2,h3⟩
  refine Def.ite (fun hc=>?_) (fun hc=>?_)
  ·have hc:=of_decide_eq_true hc
   simp only at hc ⊢
   obtain ⟨k,rfl⟩:∃ k',k=k' + 1:=⟨k - 1,by omega⟩
   rw [show (((k+1:Nat):Int) - 1)=(k:Int) by omega]
   rw [Wp (d:=d') (hi:=b - a) (f:=a) (r:=k) (by omega) (by omega) (by omega),Option.bind_some]
   have w5:IntKind.wrap .i64 ((k:Int) - 1)=(k:Int) - 1:=wrap_i64 (by omega) (by omega)
   rw [w5]
   exact .turn ⟨⟨k,_,rfl,by rw [size_siftDown];exact h1,by omega,by rw [← h3,heapBuild]⟩,by simp only;omega⟩
  ·simp only [decide_eq_true_eq] at hc
   have:k=0:=by omega
   subst this
   exact .done (hjj _ ⟨d',rfl,by rw [← h3];rfl⟩)
theorem zT (h:i<j):reverseLoop i j d=reverseLoop (i+1) (j - 1) (swp d i j):=by rw [reverseLoop,if_pos h]
theorem zU (h : ¬ i<j):reverseLoop i j d=d:=by rw [reverseLoop,if_neg h]
theorem aaq (hb:b≤d.size) (hn:d.size≤1000) (ha:a<b):F76 d.toList a b=some ((reverseRange d a b).toList,()):=by
 refine Def.eq ?_
 unfold F76
 rw [ay,bH (x:=(b:Int) - 1) (n:=b - 1) (by omega) (by omega)]
 refine Def.loop (fun s=>∃ (i j:Nat) (d' : Array Int),s=((i:Int),(j:Int),d'.toList)∧d'.size=d.size∧i≤b∧j<b∧reverseLoop i j d' = reverseRange d a b) (fun s=>s.2.1.toNat) ⟨a,b - 1,d,rfl,rfl,by omega,by omega,rfl⟩ ?_
 rintro s ⟨i,j,d',rfl,h1,h2,h3,h4⟩
 refine Def.ite (fun hc=>?_) (fun hc=>?_)
 ·have hc:=of_decide_eq_true hc
  simp only at hc ⊢
  rw [oW (by omega) (by omega),bH (x:=(i:Int)+1) (n:=i+1) (by omega) (by omega),bH (x:=(j:Int) - 1) (n:=j - 1) (by omega) (by omega)]
  exact .turn ⟨⟨i+1,j - 1,_,rfl,by rw [size_swp];exact h1,by omega,by omega,(zT (by omega)).symm.trans h4⟩,by simp only;omega⟩
 ·simp only [decide_eq_true_eq] at hc
  exact .done (.ret (by rw [← h4,zU (by omega)]))
def hnum:Go.Sort.Hint→Int
 | .unknown=>0
 | .increasing=>1
 | .decreasing=>2
abbrev tri (r:Nat×Nat×Nat):Int×Int×Int:=((r.1:Int),(r.2.1:Int),(r.2.2:Int))
theorem Eb {α:Type} {K:Int×Int×Int→Option α} {Q:α→Prop} {s:Nat} (hi:i<d.size) (hj:j<d.size) (hs:s≤1000) (h:Def (K (tri (order2 ltInt d i j s))) Q) :
  Def (Option.bind (aA d.toList (j:Int)) fun _=>Option.bind (aA d.toList (j:Int)) fun v=>Option.bind (aA d.toList (i:Int)) fun _=>Option.bind (aA d.toList (i:Int)) fun u=>Option.bind (F37 v u) fun c =>
   if c=true then K ((j:Int),(i:Int),IntKind.wrap .i64 ((s:Int)+1)) else K ((i:Int),(j:Int),(s:Int))) Q:=by
 simp only [kD hi,kD hj,Option.bind_some,I5]
 rw [bH (x:=(s:Int)+1) (n:=s+1) (by omega) (by omega)]
 unfold order2 at h
 split
 ·rename_i hc;rw [if_pos hc] at h;exact h
 ·rename_i hc;rw [if_neg hc] at h;exact h
theorem Ec (lt:Int→Int→Bool) (s:Nat) {n:Nat} (hi:i<n) (hj:j<n):(order2 lt d i j s).1<n∧(order2 lt d i j s).2.1<n∧(order2 lt d i j s).2.2≤s+1:=by
 unfold order2
 split
 ·exact ⟨hj,hi,Nat.le_refl _⟩
 ·exact ⟨hi,hj,Nat.le_succ _⟩
theorem aar (hb:b≤d.size) (hn:d.size≤1000) (ha:a<b) (h50:b - a<50):F75 d.toList a b=some (d.toList,(((choosePivot ltInt d a b).1:Int),hnum (choosePivot ltInt d a b).2)):=by
 refine Def.eq ?_
 unfold F75
 have w1:=bH (x:=(b:Int) - (a:Int)) (n:=b - a) (by omega) (by omega)
 have w3:Ej .i64 ((b - a:Nat):Int) 4=some (((b - a) / 4:Nat):Int):=by
  rw [Ej,if_pos (by decide)]
  have:(((b - a:Nat):Int)).tdiv 4=(((b - a) / 4:Nat):Int):=by rw [Int.tdiv_eq_ediv_of_nonneg (by omega)];omega
  rw [this,wrap_i64 (by omega) (by omega)]
 have m1:IntKind.wrap .i64 ((((b - a) / 4:Nat):Int) * 1)=(((b - a) / 4 * 1:Nat):Int):=bH (by omega) (by omega)
 have m2:IntKind.wrap .i64 ((((b - a) / 4:Nat):Int) * 2)=(((b - a) / 4 * 2:Nat):Int):=bH (by omega) (by omega)
 have m3:IntKind.wrap .i64 ((((b - a) / 4:Nat):Int) * 3)=(((b - a) / 4 * 3:Nat):Int):=bH (by omega) (by omega)
 have a1:IntKind.wrap .i64 ((a:Int)+(((b - a) / 4 * 1:Nat):Int))=((a+(b - a) / 4 * 1:Nat):Int):=bH (by omega) (by omega)
 have a2:IntKind.wrap .i64 ((a:Int)+(((b - a) / 4 * 2:Nat):Int))=((a+(b - a) / 4 * 2:Nat):Int):=bH (by omega) (by omega)
 have a3:IntKind.wrap .i64 ((a:Int)+(((b - a) / 4 * 3:Nat):Int))=((a+(b - a) / 4 * 3:Nat):Int):=bH (by omega) (by omega)
 simp only [w1,w3,Option.bind_some,m1,m2,m3,a1,a2,a3]
 obtain ⟨r,hr⟩:∃ r:Nat×Nat,r=if b - a≥8 then median ltInt d (a+(b - a) / 4 * 1) (a+(b - a) / 4 * 2) (a+(b - a) / 4 * 3) 0 else (a+(b - a) / 4 * 2,0):=⟨_,rfl⟩
 have hcp:choosePivot ltInt d a b=(r.1,if r.2=0 then .increasing else if r.2=12 then .decreasing else .unknown):=by
  rw [hr]
  unfold choosePivot
  simp only [if_neg (show ¬ b - a≥50 by omega)]
 rw [hcp]
 refine Def.aO (fun s:Int×Int=>s=((r.1:Int),(r.2:Int))) ?_ ?_
 ·rintro _ rfl
  simp only [ay]
  by_cases h0:r.2=0
  ·rw [if_pos (by simp [h0])]
   exact .ret (by simp [h0,hnum])
  ·rw [if_neg (by simp [h0])]
   by_cases h12:r.2=12
   ·rw [if_pos (by simp [h12])]
    exact .ret (by simp [h12,hnum])
   ·rw [if_neg (by simp;omega)]
    exact .ret (by simp [h0,h12,hnum])
 ·intro jj hjj
  refine Def.ite (fun hc=>?_) (fun hc=>?_)
  ·have hc:=of_decide_eq_true hc
   have h8:b - a≥8:=by omega
   rw [if_pos h8] at hr
   refine Def.aO (fun s:Int×Int×Int×Int=>s=(((a+(b - a) / 4 * 1:Nat):Int),((a+(b - a) / 4 * 2:Nat):Int),((a+(b - a) / 4 * 3:Nat):Int),((0:Nat):Int))) ?_ ?_
   ·rintro _ rfl
    simp only
    have q1:a+(b - a) / 4 * 1<d.size:=by omega
    have q2:a+(b - a) / 4 * 2<d.size:=by omega
    have q3:a+(b - a) / 4 * 3<d.size:=by omega
    obtain ⟨o1,o2,o3⟩:=Ec (d:=d) ltInt 0 q1 q2
    generalize he1:order2 ltInt d (a+(b - a) / 4 * 1) (a+(b - a) / 4 * 2) 0=e1 at o1 o2 o3
    obtain ⟨o4,o5,o6⟩:=Ec (d:=d) ltInt e1.2.2 o2 q3
    generalize he2:order2 ltInt d e1.2.1 (a+(b - a) / 4 * 3) e1.2.2=e2 at o4 o5 o6
    obtain ⟨o7,o8,o9⟩:=Ec (d:=d) ltInt e2.2.2 o1 o4
    generalize he3:order2 ltInt d e1.1 e2.1 e2.2.2=e3 at o7 o8 o9
    refine Def.aO (fun s:Int×Int×Int=>s=tri e1) ?_ (fun j1 hj1=>Eb (K:=j1) q1 q2 (by omega) (hj1 _ (by rw [he1])))
    rintro _ rfl
    refine Def.aO (fun s:Int×Int×Int=>s=tri e2) ?_ (fun j1 hj1=>Eb (K:=j1) o2 q3 (by omega) (hj1 _ (by rw [he2])))
    rintro _ rfl
    refine Def.aO (fun s:Int×Int×Int=>s=tri e3) ?_ (fun j1 hj1=>Eb (K:=j1) o1 o4 (by omega) (hj1 _ (by rw [he3])))
    rintro _ rfl
    refine hjj _ ?_
    rw [hr]
    simp only [median,he1,he2,he3]
   ·intro j2 hj2
    refine Def.ite (fun hc=>?_) (fun hc=>?_)
    ·have hc:=of_decide_eq_true hc
     omega
    ·exact hj2 _ rfl
  ·simp only [decide_eq_true_eq] at hc
   rw [if_neg (by omega)] at hr
   exact hjj _ (by rw [hr];rfl)
theorem scanSorted_go {lt:Int→Int→Bool} (h:(decide (i<b) && !lt d[i]! d[i - 1]!)=true):scanSorted lt d b i=scanSorted lt d b (i+1):=by rw [scanSorted,if_pos h]
theorem zV {lt:Int→Int→Bool} (h : ¬ (decide (i<b) && !lt d[i]! d[i - 1]!)=true):scanSorted lt d b i=i:=by rw [scanSorted,if_neg h]
theorem aas (hb:b≤d.size) (hn:d.size≤1000) (ha:a<b) (h50:b - a<50):F77 d.toList a b=some ((partialInsertionSort ltInt d a b).1.toList,(partialInsertionSort ltInt d a b).2):=by
 have hp:partialInsertionSort ltInt d a b=(d,decide (scanSorted ltInt d b (a+1)=b)):=by
  unfold partialInsertionSort
  rw [partialIns]
  simp only [if_pos h50]
  split
  ·rename_i h;rw [h];simp
  ·rename_i h;simp [h]
 rw [hp]
 refine Def.eq ?_
 unfold F77
 rw [ay,ay,bH (x:=(a:Int)+1) (n:=a+1) (by omega) (by omega)]
 refine Def.loop (fun s=>s=(((a+1:Nat):Int),(0:Int),d.toList)) (fun s=>0) rfl ?_
 rintro _ rfl
 simp only
 refine Def.ite (fun hc=>?_) (fun hc=>absurd (show decide ((0:Int)<5)=true from rfl) hc)
 rw [ay]
 refine Def.aO (fun s:Int=>s=(scanSorted ltInt d b (a+1):Int)) ?_ ?_
 ·rintro _ rfl
  refine Def.ite (fun hc=>?_) (fun hc=>?_)
  ·have hc:scanSorted ltInt d b (a+1)=b:=by have:=eq_of_beq hc;omega
   exact .done (.ret (by simp [hc]))
  ·have hc : ¬ scanSorted ltInt d b (a+1)=b:=fun h=>hc (by simp [h])
   rw [bH (x:=(b:Int) - (a:Int)) (n:=b - a) (by omega) (by omega)]
   refine Def.ite (fun hl=>?_) (fun hl=>absurd (decide_eq_true (by omega)) hl)
   exact .done (.ret (by simp [hc]))
 ·intro jj hjj
  refine Def.loop (fun s:Int=>∃ i:Nat,s=i∧i≤b∧a+1≤i∧scanSorted ltInt d b i=scanSorted ltInt d b (a+1)) (fun s=>(b - s).toNat) ⟨a+1,rfl,by omega,Nat.le_refl _,rfl⟩ ?_
  rintro _ ⟨i,rfl,h1,h2,h3⟩
  rw [grd (p:=d[i]!) (q:=d[i - 1]!) (fun hc=>?_)]
  ·rw [Ea]
   have hdec:decide ((i:Int)<(b:Int))=decide (i<b):=by simp only [decide_eq_decide];omega
   rw [hdec]
   refine Def.ite (fun hl=>?_) (fun hl=>?_)
   ·have hib:i<b:=by rw [Bool.and_eq_true,decide_eq_true_eq] at hl;exact hl.1
    rw [bH (x:=(i:Int)+1) (n:=i+1) (by omega) (by omega)]
    exact .turn ⟨⟨i+1,rfl,hib,by omega,(scanSorted_go hl).symm.trans h3⟩,by omega⟩
   ·exact .done (hjj _ (by rw [← h3,zV hl]))
  ·have hc:=of_decide_eq_true hc
   rw [bH (x:=(i:Int) - 1) (n:=i - 1) (by omega) (by omega)]
   exact ⟨kD (by omega),kD (by omega)⟩
theorem scanUp_go {p:Int→Bool} (h:(decide (i≤j)&&p d[i]!)=true):scanUp p d j i=scanUp p d j (i+1):=by rw [scanUp,if_pos h]
theorem scanUp_end {p:Int→Bool} (h : ¬ (decide (i≤j)&&p d[i]!)=true):scanUp p d j i=i:=by rw [scanUp,if_neg h]
theorem scanDown_go {p:Int→Bool} (h:(decide (i≤j)&&p d[j]!)=true) (hj:0<j):scanDown p d i j=scanDown p d i (j - 1):=by
 obtain ⟨j,rfl⟩:∃ j',j=j' + 1:=⟨j - 1,by omega⟩
 rw [scanDown,if_pos h];rfl
theorem scanDown_end {p:Int→Bool} (h : ¬ (decide (i≤j)&&p d[j]!)=true):scanDown p d i j=j:=by
 cases j with
 | zero=>rfl
 | succ j=>rw [scanDown,if_neg h]
theorem iZ (p q:Int→Bool) (hq:∀ x,q x = !p x) (hi:0<i) (hij:i≤j+1):i≤scanUp p d j i∧scanUp p d j i≤j+1∧scanDown q d (scanUp p d j i) j≤j∧scanUp p d j i≤scanDown q d (scanUp p d j i) j+1∧(¬ scanUp p d j i>scanDown q d (scanUp p d j i) j→scanUp p d j i<scanDown q d (scanUp p d j i) j):=by
 obtain ⟨h1,h2,h3,h4,_,_,h5⟩:=round_facts p q hq d (i - 1) (j+1) i j (by omega) hij (fun t h1 h2=>by omega) (fun t h1 h2=>by omega)
 exact ⟨h1,h2,h3,h4,fun h=>(h5 h).2.2⟩
section
variable {ρ:Type} {p:Int→Bool} {body:Int→Option (Int ⊕ ρ)} {J:Int→Option ρ} {Q:ρ→Prop}
theorem Gt (hij:i≤j+1) (hbody:∀ n:Nat,i≤n→n≤j+1→body (n:Int)=if (decide (n≤j)&&p d[n]!)=true then turn (((n+1:Nat)):Int) else done (J n)) (h:Def (J (scanUp p d j i:Nat)) Q):Def (aH body (i:Int)) Q:=by
 refine Def.loop (fun s:Int=>∃ n:Nat,s=n∧i≤n∧n≤j+1∧scanUp p d j n=scanUp p d j i) (fun s=>(j+1 - s).toNat) ⟨i,rfl,Nat.le_refl _,hij,rfl⟩ ?_
 rintro _ ⟨n,rfl,h1,h2,h3⟩
 rw [hbody n h1 h2]
 refine Def.ite (fun hc=>?_) (fun hc=>?_)
 ·have hn:n≤j:=by rw [Bool.and_eq_true,decide_eq_true_eq] at hc;exact hc.1
  exact .turn ⟨⟨n+1,rfl,by omega,by omega,(scanUp_go hc).symm.trans h3⟩,by omega⟩
 ·rw [← h3,scanUp_end hc] at h
  exact .done h
theorem zB (hi:0<i) (hij:i≤j+1) (hbody:∀ n:Nat,n≤j→i≤n+1→body (n:Int)=if (decide (i≤n)&&p d[n]!)=true then turn (((n - 1:Nat)):Int) else done (J n)) (h:Def (J (scanDown p d i j:Nat)) Q):Def (aH body (j:Int)) Q:=by
 refine Def.loop (fun s:Int=>∃ n:Nat,s=n∧n≤j∧i≤n+1∧scanDown p d i n=scanDown p d i j) (fun s=>s.toNat) ⟨j,rfl,Nat.le_refl _,hij,rfl⟩ ?_
 rintro _ ⟨n,rfl,h1,h2,h3⟩
 rw [hbody n h1 h2]
 refine Def.ite (fun hc=>?_) (fun hc=>?_)
 ·have hn:i≤n:=by rw [Bool.and_eq_true,decide_eq_true_eq] at hc;exact hc.1
  exact .turn ⟨⟨n - 1,rfl,by omega,by omega,(scanDown_go hc (by omega)).symm.trans h3⟩,by omega⟩
 ·rw [← h3,scanDown_end hc] at h
  exact .done h
end
theorem KG:decide ((i:Int)≤(j:Int))=decide (i≤j):=by simp only [decide_eq_decide];omega
theorem zC {lt:Int→Int→Bool}:∀ (n i j:Nat) (d:Array Int),j+1 - i≤n→0<i→i≤j+1→i≤(partEqLoop lt a i j d).1∧(partEqLoop lt a i j d).1≤j+1∧(partEqLoop lt a i j d).2.size=d.size
 | 0,i,j,d,h,hi,hij=>by
  rw [partEqLoop_eq]
  obtain ⟨h1,h2,h3,h4,h5⟩:=iZ (d:=d) (fun x=>!lt d[a]! x) (fun x=>lt d[a]! x) (fun x=>by simp) hi hij
  rw [if_pos (by omega)]
  exact ⟨h1,h2,rfl⟩
 | n+1,i,j,d,h,hi,hij=>by
  rw [partEqLoop_eq]
  obtain ⟨h1,h2,h3,h4,h5⟩:=iZ (d:=d) (fun x=>!lt d[a]! x) (fun x=>lt d[a]! x) (fun x=>by simp) hi hij
  split
  ·exact ⟨h1,h2,rfl⟩
  ·rename_i hc
   have h5:=h5 hc
   obtain ⟨k1,k2,k3⟩:=zC (lt:=lt) n (scanUp (fun x=>!lt d[a]! x) d j i+1) (scanDown (fun x=>lt d[a]! x) d (scanUp (fun x=>!lt d[a]! x) d j i) j - 1) (swp d (scanUp (fun x=>!lt d[a]! x) d j i) (scanDown (fun x=>lt d[a]! x) d (scanUp (fun x=>!lt d[a]! x) d j i) j)) (by omega) (by omega) (by omega)
   exact ⟨by omega,by omega,by rw [k3,size_swp]⟩
theorem Gu {lt:Int→Int→Bool}:∀ (n i j:Nat) (d:Array Int),j+1 - i≤n→0<i→i≤j+1→i≤(partLoop lt a i j d).1+1∧(partLoop lt a i j d).1≤j∧(partLoop lt a i j d).2.size=d.size
 | 0,i,j,d,h,hi,hij=>by
  rw [partLoop_eq]
  obtain ⟨h1,h2,h3,h4,h5⟩:=iZ (d:=d) (fun x=>lt x d[a]!) (fun x=>!lt x d[a]!) (fun x=>rfl) hi hij
  rw [if_pos (by omega)]
  exact ⟨by simp only;omega,h3,rfl⟩
 | n+1,i,j,d,h,hi,hij=>by
  rw [partLoop_eq]
  obtain ⟨h1,h2,h3,h4,h5⟩:=iZ (d:=d) (fun x=>lt x d[a]!) (fun x=>!lt x d[a]!) (fun x=>rfl) hi hij
  split
  ·exact ⟨by simp only;omega,h3,rfl⟩
  ·rename_i hc
   have h5:=h5 hc
   obtain ⟨k1,k2,k3⟩:=Gu (lt:=lt) n (scanUp (fun x=>lt x d[a]!) d j i+1) (scanDown (fun x=>!lt x d[a]!) d (scanUp (fun x=>lt x d[a]!) d j i) j - 1) (swp d (scanUp (fun x=>lt x d[a]!) d j i) (scanDown (fun x=>!lt x d[a]!) d (scanUp (fun x=>lt x d[a]!) d j i) j)) (by omega) (by omega) (by omega)
   exact ⟨by omega,by omega,by rw [k3,size_swp]⟩
theorem aat {pv:Nat} (hb:b≤d.size) (hn:d.size≤1000) (ha:a≤pv) (hp:pv<b):F78 d.toList a b pv=some ((partitionEqual ltInt d a b pv).2.toList,((partitionEqual ltInt d a b pv).1:Int)):=by
 refine Def.eq ?_
 unfold F78
 rw [oW (by omega) (by omega),ay,bH (x:=(a:Int)+1) (n:=a+1) (by omega) (by omega),bH (x:=(b:Int) - 1) (n:=b - 1) (by omega) (by omega)]
 refine Def.loop (fun s=>∃ (i j:Nat) (d' : Array Int),s=((i:Int),(j:Int),d'.toList)∧d'.size=d.size∧a+1≤i∧i≤j+1∧j<b∧partEqLoop ltInt a i j d' = partitionEqual ltInt d a b pv) (fun s=>(s.2.1+1 - s.1).toNat) ⟨a+1,b - 1,swp d a pv,rfl,size_swp _ _ _,Nat.le_refl _,by omega,by omega,rfl⟩ ?_
 rintro s ⟨i,j,d',rfl,h1,h2,h3,h4,h5⟩
 obtain ⟨r1,r2,r3,r4,r5⟩:=iZ (d:=d') (i:=i) (j:=j) (fun x=>!ltInt d'[a]! x) (fun x=>ltInt d'[a]! x) (fun x=>by simp) (by omega) h3
 refine Def.aO (fun s:Int=>s=(scanUp (fun x=>!ltInt d'[a]! x) d' j i:Int)) ?_ ?_
 ·rintro _ rfl
  generalize hi2:scanUp (fun x=>!ltInt d'[a]! x) d' j i=i2 at r1 r2 r3 r4 r5
  refine Def.aO (fun s:Int=>s=(scanDown (fun x=>ltInt d'[a]! x) d' i2 j:Int)) ?_ ?_
  ·rintro _ rfl
   generalize hj2:scanDown (fun x=>ltInt d'[a]! x) d' i2 j=j2 at r1 r2 r3 r4 r5
   have hstep:=partEqLoop_eq ltInt a i j d'
   rw [hi2,hj2,h5] at hstep
   refine Def.ite (fun hc=>?_) (fun hc=>?_)
   ·have hc:=of_decide_eq_true hc
    refine .done (.ret ?_)
    rw [hstep,if_pos (by omega)]
   ·have hc : ¬ i2>j2:=fun h=>hc (decide_eq_true (by omega))
    have r5:=r5 hc
    simp only
    rw [oW (by omega) (by omega),bH (x:=(i2:Int)+1) (n:=i2+1) (by omega) (by omega),bH (x:=(j2:Int) - 1) (n:=j2 - 1) (by omega) (by omega)]
    rw [if_neg hc] at hstep
    exact .turn ⟨⟨i2+1,j2 - 1,_,rfl,by rw [size_swp];exact h1,by omega,by omega,by omega,hstep.symm⟩,by simp only;omega⟩
  ·intro jj hjj
   refine zB (p:=fun x=>ltInt d'[a]! x) (d:=d') (J:=jj) (by omega) r2 (fun n k1 k2=>?_) (hjj _ rfl)
   rw [grd (p:=d'[a]!) (q:=d'[n]!) (fun hc=>?_)]
   ·rw [DZ,KG]
    by_cases hc:(decide (i2≤n)&&ltInt d'[a]! d'[n]!)=true
    ·have:=hc
     rw [Bool.and_eq_true,decide_eq_true_eq] at this
     rw [if_pos hc,if_pos hc,bH (x:=(n:Int) - 1) (n:=n - 1) (by omega) (by omega)]
    ·rw [if_neg hc,if_neg hc]
   ·have hc:=of_decide_eq_true hc
    exact ⟨kD (d:=d') (by omega),kD (d:=d') (by omega)⟩
 ·intro jj hjj
  refine Gt (p:=fun x=>!ltInt d'[a]! x) (d:=d') (J:=jj) h3 (fun n k1 k2=>?_) (hjj _ rfl)
  rw [grd (p:=d'[a]!) (q:=d'[n]!) (fun hc=>?_)]
  ·rw [Ea,KG,bH (x:=(n:Int)+1) (n:=n+1) (by omega) (by omega)]
  ·have hc:=of_decide_eq_true hc
   simp only at hc
   exact ⟨kD (d:=d') (by omega),kD (d:=d') (by omega)⟩
theorem aau {pv:Nat} (hb:b≤d.size) (hn:d.size≤1000) (ha:a≤pv) (hp:pv<b):F79 d.toList a b pv=some ((partition ltInt d a b pv).2.2.toList,((partition ltInt d a b pv).1:Int),(partition ltInt d a b pv).2.1):=by
 refine Def.eq ?_
 unfold F79
 rw [oW (by omega) (by omega),bH (x:=(a:Int)+1) (n:=a+1) (by omega) (by omega),bH (x:=(b:Int) - 1) (n:=b - 1) (by omega) (by omega)]
 generalize hd1:swp d a pv=d1
 have hs1:d1.size=d.size:=by rw [← hd1,size_swp]
 obtain ⟨r1,r2,r3,r4,r5⟩:=iZ (d:=d1) (i:=a+1) (j:=b - 1) (fun x=>ltInt x d1[a]!) (fun x=>!ltInt x d1[a]!) (fun x=>rfl) (by omega) (by omega)
 have hpt:partition ltInt d a b pv=(if scanUp (fun x=>ltInt x d1[a]!) d1 (b - 1) (a+1)>scanDown (fun x=>!ltInt x d1[a]!) d1 (scanUp (fun x=>ltInt x d1[a]!) d1 (b - 1) (a+1)) (b - 1) then
   (scanDown (fun x=>!ltInt x d1[a]!) d1 (scanUp (fun x=>ltInt x d1[a]!) d1 (b - 1) (a+1)) (b - 1),true,swp d1 (scanDown (fun x=>!ltInt x d1[a]!) d1 (scanUp (fun x=>ltInt x d1[a]!) d1 (b - 1) (a+1)) (b - 1)) a) else
   ((partLoop ltInt a (scanUp (fun x=>ltInt x d1[a]!) d1 (b - 1) (a+1)+1) (scanDown (fun x=>!ltInt x d1[a]!) d1 (scanUp (fun x=>ltInt x d1[a]!) d1 (b - 1) (a+1)) (b - 1) - 1) (swp d1 (scanUp (fun x=>ltInt x d1[a]!) d1 (b - 1) (a+1)) (scanDown (fun x=>!ltInt x d1[a]!) d1 (scanUp (fun x=>ltInt x d1[a]!) d1 (b - 1) (a+1)) (b - 1)))).1,false,
    swp (partLoop ltInt a (scanUp (fun x=>ltInt x d1[a]!) d1 (b - 1) (a+1)+1) (scanDown (fun x=>!ltInt x d1[a]!) d1 (scanUp (fun x=>ltInt x d1[a]!) d1 (b - 1) (a+1)) (b - 1) - 1) (swp d1 (scanUp (fun x=>ltInt x d1[a]!) d1 (b - 1) (a+1)) (scanDown (fun x=>!ltInt x d1[a]!) d1 (scanUp (fun x=>ltInt x d1[a]!) d1 (b - 1) (a+1)) (b - 1)))).2
     (partLoop ltInt a (scanUp (fun x=>ltInt x d1[a]!) d1 (b - 1) (a+1)+1) (scanDown (fun x=>!ltInt x d1[a]!) d1 (scanUp (fun x=>ltInt x d1[a]!) d1 (b - 1) (a+1)) (b - 1) - 1) (swp d1 (scanUp (fun x=>ltInt x d1[a]!) d1 (b - 1) (a+1)) (scanDown (fun x=>!ltInt x d1[a]!) d1 (scanUp (fun x=>ltInt x d1[a]!) d1 (b - 1) (a+1)) (b - 1)))).1 a)):=by
  unfold partition
  rw [hd1]
 have up:∀ {ρ:Type} {J:Int→Option ρ} {Q:ρ→Prop} (d' : Array Int) (i j:Nat),d'.size=d.size→i≤j+1→j<b→a<b→Def (J (scanUp (fun x=>ltInt x d'[a]!) d' j i:Nat)) Q →
   Def (aH (fun s=>Option.bind (if (decide (s≤(j:Int))&&true)=true then aA d'.toList s else some (0:Int)) fun _=>Option.bind (if (decide (s≤(j:Int))&&true)=true then aA d'.toList s else some (0:Int)) fun v=>Option.bind (if (decide (s≤(j:Int))&&true)=true then aA d'.toList (a:Int) else some (0:Int)) fun _ =>
    Option.bind (if (decide (s≤(j:Int))&&true)=true then aA d'.toList (a:Int) else some (0:Int)) fun u=>Option.bind (if (decide (s≤(j:Int))&&true)=true then F37 v u else some false) fun c=>if (if decide (s≤(j:Int))=true then c else false)=true then turn (IntKind.wrap .i64 (s+1)) else done (J s)) (i:Int)) Q:=by
  intro ρ J Q d' i j h1 h2 h3 h4 h
  refine Gt (p:=fun x=>ltInt x d'[a]!) (d:=d') (J:=J) h2 (fun n k1 k2=>?_) h
  rw [grd (p:=d'[n]!) (q:=d'[a]!) (fun hc=>?_)]
  ·rw [DZ,KG,bH (x:=(n:Int)+1) (n:=n+1) (by omega) (by omega)]
  ·have hc:=of_decide_eq_true hc
   exact ⟨kD (d:=d') (by omega),kD (d:=d') (by omega)⟩
 have down:∀ {ρ:Type} {J:Int→Option ρ} {Q:ρ→Prop} (d' : Array Int) (i j:Nat),d'.size=d.size→0<i→i≤j+1→j<b→a<b→Def (J (scanDown (fun x=>!ltInt x d'[a]!) d' i j:Nat)) Q →
   Def (aH (fun s=>Option.bind (if (decide ((i:Int)≤s)&&true)=true then aA d'.toList s else some (0:Int)) fun _=>Option.bind (if (decide ((i:Int)≤s)&&true)=true then aA d'.toList s else some (0:Int)) fun v=>Option.bind (if (decide ((i:Int)≤s)&&true)=true then aA d'.toList (a:Int) else some (0:Int)) fun _ =>
    Option.bind (if (decide ((i:Int)≤s)&&true)=true then aA d'.toList (a:Int) else some (0:Int)) fun u=>Option.bind (if (decide ((i:Int)≤s)&&true)=true then F37 v u else some false) fun c=>if (if decide ((i:Int)≤s)=true then (!c) else false)=true then turn (IntKind.wrap .i64 (s - 1)) else done (J s)) (j:Int)) Q:=by
  intro ρ J Q d' i j h1 h0 h2 h3 h4 h
  refine zB (p:=fun x=>!ltInt x d'[a]!) (d:=d') (J:=J) h0 h2 (fun n k1 k2=>?_) h
  rw [grd (p:=d'[n]!) (q:=d'[a]!) (fun hc=>?_)]
  ·rw [Ea,KG]
   by_cases hc:(decide (i≤n) && !ltInt d'[n]! d'[a]!)=true
   ·have:=hc
    rw [Bool.and_eq_true,decide_eq_true_eq] at this
    rw [if_pos hc,if_pos hc,bH (x:=(n:Int) - 1) (n:=n - 1) (by omega) (by omega)]
   ·rw [if_neg hc,if_neg hc]
  ·have hc:=of_decide_eq_true hc
   exact ⟨kD (d:=d') (by omega),kD (d:=d') (by omega)⟩
 rw [hpt]
 refine Def.aO (fun s:Int=>s=(scanUp (fun x=>ltInt x d1[a]!) d1 (b - 1) (a+1):Int)) ?_ (fun jj hjj=>up (J:=jj) d1 (a+1) (b - 1) hs1 (by omega) (by omega) (by omega) (hjj _ rfl))
 rintro _ rfl
 generalize scanUp (fun x=>ltInt x d1[a]!) d1 (b - 1) (a+1)=i2 at r1 r2 r3 r4 r5 ⊢
 refine Def.aO (fun s:Int=>s=(scanDown (fun x=>!ltInt x d1[a]!) d1 i2 (b - 1):Int)) ?_ (fun jj hjj=>down (J:=jj) d1 i2 (b - 1) hs1 (by omega) (by omega) (by omega) (by omega) (hjj _ rfl))
 rintro _ rfl
 generalize scanDown (fun x=>!ltInt x d1[a]!) d1 i2 (b - 1)=j2 at r1 r2 r3 r4 r5 ⊢
 refine Def.ite (fun hc=>?_) (fun hc=>?_)
 ·have hc:=of_decide_eq_true hc
  rw [oW (by omega) (by omega),if_pos (by omega)]
  exact .ret rfl
 ·have hc : ¬ i2>j2:=fun h=>hc (decide_eq_true (by omega))
  have r5:=r5 hc
  rw [oW (by omega) (by omega),if_neg hc,bH (x:=(i2:Int)+1) (n:=i2+1) (by omega) (by omega),bH (x:=(j2:Int) - 1) (n:=j2 - 1) (by omega) (by omega)]
  obtain ⟨R,hR⟩:∃ R,R=partLoop ltInt a (i2+1) (j2 - 1) (swp d1 i2 j2):=⟨_,rfl⟩
  obtain ⟨z1,z2,z3⟩:=Gu (lt:=ltInt) (a:=a) (j2 - 1+1 - (i2+1)) (i2+1) (j2 - 1) (swp d1 i2 j2) (Nat.le_refl _) (by omega) (by omega)
  rw [← hR] at z1 z2 z3
  rw [size_swp] at z3
  rw [← hR]
  refine Def.aO (fun s:Int×List Int=>s=((R.1:Int),R.2.toList)) ?_ ?_
  ·rintro _ rfl
   simp only
   rw [oW (by omega) (by omega)]
   exact .ret rfl
  ·intro jj hjj
   refine Def.loop (fun s=>∃ (i j:Nat) (d' : Array Int),s=((i:Int),(j:Int),d'.toList)∧d'.size=d.size∧a+1≤i∧i≤j+1∧j<b∧partLoop ltInt a i j d' = R) (fun s=>(s.2.1+1 - s.1).toNat) ⟨i2+1,j2 - 1,swp d1 i2 j2,rfl,by rw [size_swp];exact hs1,by omega,by omega,by omega,hR.symm⟩ ?_
   rintro s ⟨i,j,d',rfl,h1,h2,h3,h4,h5⟩
   obtain ⟨r1,r2,r3,r4,r5⟩:=iZ (d:=d') (i:=i) (j:=j) (fun x=>ltInt x d'[a]!) (fun x=>!ltInt x d'[a]!) (fun x=>rfl) (by omega) h3
   have hstep:=partLoop_eq ltInt a i j d'
   rw [h5] at hstep
   refine Def.aO (fun s:Int=>s=(scanUp (fun x=>ltInt x d'[a]!) d' j i:Int)) ?_ (fun j3 hj3=>up (J:=j3) d' i j h1 h3 h4 (by omega) (hj3 _ rfl))
   rintro _ rfl
   generalize scanUp (fun x=>ltInt x d'[a]!) d' j i=i3 at r1 r2 r3 r4 r5 hstep ⊢
   refine Def.aO (fun s:Int=>s=(scanDown (fun x=>!ltInt x d'[a]!) d' i3 j:Int)) ?_ (fun j3 hj3=>down (J:=j3) d' i3 j h1 (by omega) r2 h4 (by omega) (hj3 _ rfl))
   rintro _ rfl
   generalize scanDown (fun x=>!ltInt x d'[a]!) d' i3 j=j3 at r1 r2 r3 r4 r5 hstep ⊢
   refine Def.ite (fun hc=>?_) (fun hc=>?_)
   ·have hc:=of_decide_eq_true hc
    rw [if_pos (by omega)] at hstep
    exact .done (hjj _ (by rw [hstep]))
   ·have hc : ¬ i3>j3:=fun h=>hc (decide_eq_true (by omega))
    have r5:=r5 hc
    rw [if_neg hc] at hstep
    simp only
    rw [oW (by omega) (by omega),bH (x:=(i3:Int)+1) (n:=i3+1) (by omega) (by omega),bH (x:=(j3:Int) - 1) (n:=j3 - 1) (by omega) (by omega)]
    exact .turn ⟨⟨i3+1,j3 - 1,_,rfl,by rw [size_swp];exact h1,by omega,by omega,by omega,hstep.symm⟩,by simp only;omega⟩
theorem YW:∀ n:Fin 64,F56 ((n.1:Nat):Int)=some ((bitsLen n.1:Nat):Int):=by decide +kernel
theorem YX:∀ n:Fin 64,F93 ((n.1:Nat):Int)=some (((1 <<< bitsLen n.1:Nat)):Int):=by decide +kernel
theorem wrap_u64 {x:Int} {n:Nat} (h:x=n) (hn:n<18446744073709551616):IntKind.wrap .u64 x=n:=by rw [h,wrap_in (by simp [inR];omega)]
theorem I9 {x y:Nat} (hx:x<18446744073709551616) (hy:y<18446744073709551616):tZ .u64 (x:Int) (y:Int)=((x ^^^ y:Nat):Int)∧x ^^^ y<18446744073709551616:=by
 have h:x ^^^ y<2 ^ 64:=Nat.xor_lt_two_pow (by omega) (by omega)
 have h2:(BitVec.ofInt 64 (x:Int) ^^^ BitVec.ofInt 64 (y:Int)).toNat=x ^^^ y:=by
  rw [BitVec.toNat_xor,BitVec.ofInt_natCast,BitVec.ofInt_natCast,BitVec.toNat_ofNat,BitVec.toNat_ofNat,Nat.mod_eq_of_lt (by omega),Nat.mod_eq_of_lt (by omega)]
 refine ⟨?_,by omega⟩
 unfold tZ
 show IntKind.wrap .u64 ((BitVec.ofInt 64 (x:Int) ^^^ BitVec.ofInt 64 (y:Int)).toNat:Int)=_
 rw [h2]
 exact wrap_u64 rfl (by omega)
theorem YZ {x y:Nat} (hx:x<18446744073709551616) (hy:y<18446744073709551616):Nz .u64 (x:Int) (y:Int)=((x &&& y:Nat):Int):=by
 have h:x &&& y≤y:=Nat.and_le_right
 have h2:(BitVec.ofInt 64 (x:Int) &&& BitVec.ofInt 64 (y:Int)).toNat=x &&& y:=by
  rw [BitVec.toNat_and,BitVec.ofInt_natCast,BitVec.ofInt_natCast,BitVec.toNat_ofNat,BitVec.toNat_ofNat,Nat.mod_eq_of_lt (by omega),Nat.mod_eq_of_lt (by omega)]
 unfold Nz
 show IntKind.wrap .u64 ((BitVec.ofInt 64 (x:Int) &&& BitVec.ofInt 64 (y:Int)).toNat:Int)=_
 rw [h2]
 exact wrap_u64 rfl (by omega)
theorem RF {x k:Nat} (hk:k≤63):NJ .u64 (x:Int) (k:Int)=some ((x * 2 ^ k % 18446744073709551616:Nat):Int):=by
 rw [NJ,if_pos (by omega)]
 congr 1
 show IntKind.wrap .u64 ((x:Int) * 2 ^ (min ((k:Int)).toNat 64))=_
 rw [Int.toNat_natCast,Nat.min_eq_left (by omega)]
 show ((x:Int) * 2 ^ k) % 18446744073709551616=_
 rw [Int.natCast_emod,Int.natCast_mul,Int.natCast_pow];rfl
theorem Y0 {x k:Nat} (hk:k≤63):Bc .u64 (x:Int) (k:Int)=some ((x / 2 ^ k:Nat):Int):=by
 rw [Bc,if_pos (by omega)]
 congr 1
 show ((x:Int)).fdiv (2 ^ (min ((k:Int)).toNat 64))=_
 rw [Int.toNat_natCast,Nat.min_eq_left (by omega),Int.fdiv_eq_ediv_of_nonneg _ (Int.le_of_lt (Int.pow_pos (by decide)))]
 rw [Int.natCast_ediv,Int.natCast_pow];rfl
def stp (a len m idx:Nat) (d:Array Int):Nat→UInt64×Array Int
 | 0=>(UInt64.ofNat len,d)
 | t+1=>breakStep a len m (stp a len m idx d t) (idx+t)
theorem KH {len m idx:Nat}:∀ t,(stp a len m idx d t).2.size=d.size
 | 0=>rfl
 | t+1=>by simp only [stp,breakStep,size_swp,KH t]
theorem aav (hb:b≤d.size) (hn:d.size≤1000) (ha:a<b) (h50:b - a<50):F74 d.toList a b=some ((breakPatterns d a b).toList,()):=by
 refine Def.eq ?_
 unfold F74
 rw [ay,bH (x:=(b:Int) - (a:Int)) (n:=b - a) (by omega) (by omega)]
 refine Def.ite (fun hc=>?_) (fun hc=>?_)
 ·have hc:=of_decide_eq_true hc
  have h8:b - a≥8:=by omega
  have hp:=YX ⟨b - a,by omega⟩
  simp only at hp
  obtain ⟨m,hm⟩:∃ m,m=1 <<< bitsLen (b - a):=⟨_,rfl⟩
  have hm2:m≤2 * (b - a):=by rw [hm,Nat.one_shiftLeft];exact two_pow_bitsLen_le (by omega)
  have hm1:0<m:=by rw [hm,Nat.one_shiftLeft];exact Nat.two_pow_pos _
  rw [← hm] at hp
  have w3:Ej .i64 ((b - a:Nat):Int) 4=some (((b - a) / 4:Nat):Int):=by
   rw [Ej,if_pos (by decide)]
   have:(((b - a:Nat):Int)).tdiv 4=(((b - a) / 4:Nat):Int):=by rw [Int.tdiv_eq_ediv_of_nonneg (by omega)];omega
   rw [this,wrap_i64 (by omega) (by omega)]
  have m2:IntKind.wrap .i64 ((((b - a) / 4:Nat):Int) * 2)=(((b - a) / 4 * 2:Nat):Int):=bH (by omega) (by omega)
  have a2:IntKind.wrap .i64 ((a:Int)+(((b - a) / 4 * 2:Nat):Int))=((a+(b - a) / 4 * 2:Nat):Int):=bH (by omega) (by omega)
  have a3:IntKind.wrap .i64 (((a+(b - a) / 4 * 2:Nat):Int) - 1)=((a+(b - a) / 4 * 2 - 1:Nat):Int):=bH (by omega) (by omega)
  have a4:IntKind.wrap .i64 (((a+(b - a) / 4 * 2:Nat):Int)+1)=((a+(b - a) / 4 * 2+1:Nat):Int):=bH (by omega) (by omega)
  have u1:IntKind.wrap .u64 ((b - a:Nat):Int)=((b - a:Nat):Int):=wrap_u64 rfl (by omega)
  have u2:IntKind.wrap .u64 ((m:Int) - 1)=((m - 1:Nat):Int):=wrap_u64 (by omega) (by omega)
  simp only [hp,w3,Option.bind_some,m2,a2,a3,a4,u1,u2]
  rw [ay]
  generalize hidx:a+(b - a) / 4 * 2 - 1=idx
  refine Def.loop (fun s=>∃ t,t≤3∧s=(((idx+t:Nat):Int),((stp a (b - a) m idx d t).1.toNat:Int),(stp a (b - a) m idx d t).2.toList)) (fun s=>(idx+3 - s.1).toNat) ⟨0,by omega,by simp [stp,UInt64.toNat_ofNat];omega⟩ ?_
  rintro s ⟨t,ht,rfl⟩
  refine Def.ite (fun hc=>?_) (fun hc=>?_)
  ·have hc:=of_decide_eq_true hc
   simp only at hc ⊢
   have ht:t<3:=by omega
   have hsz:=KH (a:=a) (d:=d) (len:=b - a) (m:=m) (idx:=idx) t
   generalize hst:stp a (b - a) m idx d t=st at hsz ⊢
   obtain ⟨r,d'⟩:=st
   simp only at hsz ⊢
   have hr:=r.toNat_lt
   have s1:=RF (x:=r.toNat) (k:=13) (by omega)
   rw [show ((13:Nat):Int)=13 from rfl] at s1
   rw [s1,Option.bind_some]
   have x1:=I9 (x:=r.toNat) (y:=r.toNat * 2 ^ 13 % 18446744073709551616) (by omega) (Nat.mod_lt _ (by decide))
   rw [x1.1]
   have s2:=Y0 (x:=r.toNat ^^^ r.toNat * 2 ^ 13 % 18446744073709551616) (k:=7) (by omega)
   rw [show ((7:Nat):Int)=7 from rfl] at s2
   rw [s2,Option.bind_some]
   have x2:=I9 x1.2 (y:=(r.toNat ^^^ r.toNat * 2 ^ 13 % 18446744073709551616) / 2 ^ 7) (by have:=x1.2;omega)
   rw [x2.1]
   have s3:=RF (x:=(r.toNat ^^^ r.toNat * 2 ^ 13 % 18446744073709551616) ^^^ (r.toNat ^^^ r.toNat * 2 ^ 13 % 18446744073709551616) / 2 ^ 7) (k:=17) (by omega)
   rw [show ((17:Nat):Int)=17 from rfl] at s3
   rw [s3,Option.bind_some]
   have x3:=I9 x2.2 (y:=((r.toNat ^^^ r.toNat * 2 ^ 13 % 18446744073709551616) ^^^ (r.toNat ^^^ r.toNat * 2 ^ 13 % 18446744073709551616) / 2 ^ 7) * 2 ^ 17 % 18446744073709551616) (Nat.mod_lt _ (by decide))
   rw [x3.1]
   have hx:((r.toNat ^^^ r.toNat * 2 ^ 13 % 18446744073709551616) ^^^ (r.toNat ^^^ r.toNat * 2 ^ 13 % 18446744073709551616) / 2 ^ 7) ^^^ ((r.toNat ^^^ r.toNat * 2 ^ 13 % 18446744073709551616) ^^^ (r.toNat ^^^ r.toNat * 2 ^ 13 % 18446744073709551616) / 2 ^ 7) * 2 ^ 17 % 18446744073709551616=(xorNext r).toNat:=by
    rw [xorNext_toNat];rfl
   rw [hx]
   have hr':=(xorNext r).toNat_lt
   rw [YZ (by omega) (by omega)]
   have hle:(xorNext r).toNat &&& (m - 1)≤m - 1:=Nat.and_le_right
   obtain ⟨q,hq⟩:∃ q,q=(xorNext r).toNat &&& (m - 1):=⟨_,rfl⟩
   rw [← hq] at hle ⊢
   have hnext:stp a (b - a) m idx d (t+1)=(xorNext r,swp d' (idx+t) (a+(if q≥b - a then q - (b - a) else q))):=by
    simp only [stp,breakStep,hst,hq]
   rw [bH (x:=(q:Int)) (n:=q) rfl (by omega)]
   refine Def.aO (fun s:Int=>s=((if q≥b - a then q - (b - a) else q:Nat):Int)) ?_ ?_
   ·rintro _ rfl
    have hlt:(if q≥b - a then q - (b - a) else q)<b - a:=by split <;> omega
    generalize (if q≥b - a then q - (b - a) else q)=o at hlt hnext ⊢
    rw [bH (x:=(a:Int)+(o:Int)) (n:=a+o) (by omega) (by omega),oW (by omega) (by omega),bH (x:=((idx+t:Nat):Int)+1) (n:=idx+(t+1)) (by omega) (by omega)]
    exact .turn ⟨⟨t+1,by omega,by rw [hnext]⟩,by simp only;omega⟩
   ·intro jj hjj
    refine Def.ite (fun hc=>?_) (fun hc=>?_)
    ·have hc:=of_decide_eq_true hc
     rw [bH (x:=(q:Int) - ((b - a:Nat):Int)) (n:=q - (b - a)) (by omega) (by omega)]
     exact hjj _ (by rw [if_pos (by omega)])
    ·have hc : ¬ q≥b - a:=fun h=>hc (decide_eq_true (by omega))
     exact hjj _ (by rw [if_neg hc])
  ·have hc : ¬ idx+t≤a+(b - a) / 4 * 2+1:=fun h=>hc (decide_eq_true (by simp only;omega))
   have:t=3:=by omega
   subst this
   refine .done (.ret ?_)
   simp only [breakPatterns,if_pos h8,← hm,hidx,stp,Nat.add_zero]
 ·simp only [decide_eq_true_eq] at hc
  refine .ret ?_
  rw [breakPatterns,if_neg (by omega)]
theorem RG (h50:b - a<50):partialInsertionSort ltInt d a b=(d,decide (scanSorted ltInt d b (a+1)=b)):=by
 unfold partialInsertionSort
 rw [partialIns]
 simp only [if_pos h50]
 split
 ·rename_i h;rw [h];simp
 ·rename_i h;simp [h]
theorem pdq_small {lt:Int→Int→Bool} {l:Nat} {wb wp:Bool} (h:b - a≤12):pdq lt d a b l wb wp=insertionSort lt d a b:=by rw [pdq,if_pos h]
theorem RH {l:Nat} (hab:a≤b) (hb:b≤d.size) (hn:d.size≤1000) (h:b - a≤12):ZY d.toList a b l=some ((pdq ltInt d a b l true true).toList,()):=by
 rw [pdq_small h]
 refine Def.eq ?_
 unfold ZY
 rw [ay]
 refine Def.loop (fun s=>s=((a:Int),(b:Int),(l:Int),true,true,d.toList)) (fun s=>0) rfl ?_
 rintro _ rfl
 rw [ay,ay,bH (x:=(b:Int) - (a:Int)) (n:=b - a) (by omega) (by omega)]
 refine Def.ite (fun hc=>?_) (fun hc=>absurd (decide_eq_true (by omega)) hc)
 simp only
 rw [Wn hb hn (by omega),Option.bind_some]
 exact .done (.ret rfl)
theorem Vk {h:Go.Sort.Hint}:(hnum h==2)=decide (h = .decreasing):=by cases h <;> rfl
theorem Vl {h:Go.Sort.Hint}:(hnum h==1)=decide (h = .increasing):=by cases h <;> rfl
theorem RI {pv:Nat} (ha:a≤pv) (hp:pv<b):a<(partitionEqual ltInt d a b pv).1∧(partitionEqual ltInt d a b pv).1≤b∧(partitionEqual ltInt d a b pv).2.size=d.size:=by
 obtain ⟨h1,h2,h3⟩:=zC (lt:=ltInt) (a:=a) (b - 1+1 - (a+1)) (a+1) (b - 1) (swp d a pv) (Nat.le_refl _) (by omega) (by omega)
 exact ⟨h1,by unfold partitionEqual;omega,by unfold partitionEqual;rw [h3,size_swp]⟩
theorem Def.abu {σ ρ:Type} {Q:ρ→Prop} (R:σ→Prop) {k:σ→Option ρ} {body:(σ→Option ρ)→Option ρ} (hb:∀ j:σ→Option ρ,(∀ s,R s→Def (j s) Q)→Def (body j) Q) (hk:∀ s,R s→Def (k s) Q):Def (aO k body) Q:=Def.aO R hk hb
theorem aaw {l:Nat} (hab:a≤b) (hb:b≤d.size) (hn:d.size≤1000) (hl:l≤1000) (h:b - a≤25):F55 d.toList a b l=some ((pdq ltInt d a b l true true).toList,()):=by
 refine Def.eq ?_
 unfold F55
 rw [ay]
 refine Def.loop (fun s=>∃ (a' b' l' : Nat) (wb wp:Bool) (d' : Array Int),s=((a' : Int),(b' : Int),(l' : Int),wb,wp,d'.toList)∧a' ≤ b' ∧ b' ≤ d.size∧d'.size=d.size∧l' ≤ 1000∧b' - a' ≤ 25∧pdq ltInt d' a' b' l' wb wp=pdq ltInt d a b l true true) (fun s=>(s.2.1 - s.1).toNat) ⟨a,b,l,true,true,d,rfl,hab,hb,rfl,hl,h,rfl⟩ ?_
 rintro s ⟨x,y,l',wb,wp,d',rfl,h1,h2,h3,h4,h5,h6⟩
 generalize pdq ltInt d a b l true true=R at h6 ⊢
 rw [pdq] at h6
 rw [ay,ay]
 simp only
 rw [bH (x:=(y:Int) - (x:Int)) (n:=y - x) (by omega) (by omega)]
 refine Def.ite (fun hc=>?_) (fun hc=>?_)
 ·have hc:=of_decide_eq_true hc
  rw [if_pos (by omega)] at h6
  rw [Wn (by omega) (by omega) (by omega),Option.bind_some]
  exact .done (.ret (by rw [h6]))
 have hc : ¬ y - x≤12:=fun h=>hc (decide_eq_true (by omega))
 rw [if_neg hc] at h6
 refine Def.ite (fun hc0=>?_) (fun hc0=>?_)
 ·have hc0:=eq_of_beq hc0
  rw [if_pos (by omega)] at h6
  rw [aap (by omega) (by omega) (by omega),Option.bind_some]
  exact .done (.ret (by rw [h6]))
 have hc0 : ¬ l' = 0:=fun h=>hc0 (by rw [h];rfl)
 rw [if_neg hc0] at h6
 obtain ⟨d1,hd1⟩:∃ d1,d1=if (!wb)=true then breakPatterns d' x y else d':=⟨_,rfl⟩
 obtain ⟨l1,hl1⟩:∃ l1,l1=if (!wb)=true then l' - 1 else l':=⟨_,rfl⟩
 have s1:d1.size=d.size:=by
  rw [hd1];split
  ·rw [(breakPatterns_holds d' x y h1 (by omega)).1,h3]
  ·exact h3
 have hl1' : l1≤1000:=by rw [hl1];split <;> omega
 simp only [← hd1,← hl1] at h6
 refine Def.abu (fun s:Int×List Int=>s=((l1:Int),d1.toList)) ?_ ?_
 ·intro jj hjj
  refine Def.ite (fun hw=>?_) (fun hw=>?_)
  ·rw [aav (by omega) (by omega) (by omega) (by omega),Option.bind_some,bH (x:=(l' : Int) - 1) (n:=l' - 1) (by omega) (by omega)]
   exact hjj _ (by rw [hd1,hl1,if_pos hw,if_pos hw])
  ·exact hjj _ (by rw [hd1,hl1,if_neg hw,if_neg hw])
 rintro _ rfl
 simp only
 rw [aar (by omega) (by omega) (by omega) (by omega),Option.bind_some]
 obtain ⟨c1,c2⟩:=choosePivot_holds ltInt d1 x y (by omega)
 generalize choosePivot ltInt d1 x y=c at c1 c2 h6 ⊢
 obtain ⟨cp,ch⟩:=c
 simp only at c1 c2 h6 ⊢
 obtain ⟨d2,hd2⟩:∃ d2,d2=if ch = .decreasing then reverseRange d1 x y else d1:=⟨_,rfl⟩
 obtain ⟨pv,hpv⟩:∃ pv,pv=if ch = .decreasing then (y - 1) - (cp - x) else cp:=⟨_,rfl⟩
 obtain ⟨hh,hhh⟩:∃ hh,hh=if ch = .decreasing then Go.Sort.Hint.increasing else ch:=⟨_,rfl⟩
 have s2:d2.size=d.size:=by
  rw [hd2];split
  ·rw [(reverseRange_holds d1 x y h1 (by omega)).1,s1]
  ·exact s1
 have p1:x≤pv∧pv<y:=by rw [hpv];split <;> omega
 simp only [← hd2,← hpv,← hhh] at h6
 refine Def.abu (fun s:Int×Int×List Int=>s=((pv:Int),hnum hh,d2.toList)) ?_ ?_
 ·intro jj hjj
  rw [Vk]
  refine Def.ite (fun hw=>?_) (fun hw=>?_)
  ·have hw:=of_decide_eq_true hw
   rw [aaq (by omega) (by omega) (by omega),Option.bind_some,bH (x:=(y:Int) - 1) (n:=y - 1) (by omega) (by omega),bH (x:=(cp:Int) - (x:Int)) (n:=cp - x) (by omega) (by omega),bH (x:=((y - 1:Nat):Int) - ((cp - x:Nat):Int)) (n:=y - 1 - (cp - x)) (by omega) (by omega)]
   exact hjj _ (by rw [hd2,hpv,hhh,if_pos hw,if_pos hw,if_pos hw];rfl)
  ·have hw : ¬ ch = .decreasing:=fun h=>hw (decide_eq_true h)
   exact hjj _ (by rw [hd2,hpv,hhh,if_neg hw,if_neg hw,if_neg hw])
 rintro _ rfl
 simp only
 obtain ⟨pi,hpi⟩:∃ pi,pi=if (wb&&wp&&decide (hh = .increasing))=true then partialInsertionSort ltInt d2 x y else (d2,false):=⟨_,rfl⟩
 have hpi1:pi.1=d2:=by
  rw [hpi];split
  ·rw [RG (by omega)]
  ·rfl
 have hcond:(if (if wb=true then wp else false)=true then (hnum hh==1) else false)=(wb&&wp&&decide (hh = .increasing)):=by
  rw [Vl];cases wb <;> cases wp <;> rfl
 rw [hcond]
 have h6' : (if pi.2=true then pi.1 else
   if (decide (x>0) && !ltInt pi.1[x - 1]! pi.1[pv]!)=true then
    match partitionEqual ltInt pi.1 x y pv with
    | (mid,d4)=>if _h:x<mid∧mid≤y then pdq ltInt d4 mid y l1 wb wp else d4
   else
    match partition ltInt pi.1 x y pv with
    | (mid,alreadyPartitioned,d4) =>
     if _h:x≤mid∧mid<y then
      if mid - x<y - mid then
       pdq ltInt (pdq ltInt d4 x mid l1 true true) (mid+1) y l1 (decide (mid - x≥(y - x) / 8)) alreadyPartitioned
      else
       pdq ltInt (pdq ltInt d4 (mid+1) y l1 true true) x mid l1 (decide (y - mid≥(y - x) / 8)) alreadyPartitioned
     else d4)=R:=by
  rw [← h6,hpi]
 clear h6
 refine Def.abu (fun s:List Int=>s=d2.toList∧pi.2=false) ?_ ?_
 ·intro jj hjj
  refine Def.ite (fun hw=>?_) (fun hw=>?_)
  ·rw [if_pos hw] at hpi
   rw [aas (by omega) (by omega) (by omega) (by omega),Option.bind_some]
   simp only [← hpi]
   refine Def.ite (fun hq=>?_) (fun hq=>?_)
   ·rw [if_pos hq] at h6'
    exact .done (.ret (by rw [h6']))
   ·exact hjj _ ⟨by rw [hpi1],by simpa using hq⟩
  ·rw [if_neg hw] at hpi
   exact hjj _ ⟨rfl,by rw [hpi]⟩
 rintro _ ⟨rfl,hq⟩
 rw [if_neg (by rw [hq];simp),hpi1] at h6'
 have hg:decide ((x:Int)>0)=true→aA d2.toList (IntKind.wrap .i64 ((x:Int) - 1))=some d2[x - 1]! ∧ aA d2.toList (pv:Int)=some d2[pv]!:=fun hc=>by
  have hc:=of_decide_eq_true hc
  rw [bH (x:=(x:Int) - 1) (n:=x - 1) (by omega) (by omega)]
  exact ⟨kD (by omega),kD (by omega)⟩
 rw [grd hg]
 rw [Ea,show decide ((x:Int)>0)=decide (x>0) by simp only [decide_eq_decide];omega]
 refine Def.ite (fun hw=>?_) (fun hw=>?_)
 ·rw [if_pos hw] at h6'
  rw [aat (by omega) (by omega) p1.1 p1.2,Option.bind_some]
  obtain ⟨e1,e2,e3⟩:=RI (d:=d2) p1.1 p1.2
  generalize partitionEqual ltInt d2 x y pv=r at e1 e2 e3 h6' ⊢
  obtain ⟨mid,d4⟩:=r
  simp only at e1 e2 e3 h6' ⊢
  rw [dif_pos ⟨e1,e2⟩] at h6'
  exact .turn ⟨⟨mid,y,l1,wb,wp,d4,rfl,e2,h2,by omega,hl1',by omega,h6'⟩,by simp only;omega⟩
 ·rw [if_neg hw] at h6'
  rw [aau (by omega) (by omega) p1.1 p1.2,Option.bind_some]
  obtain ⟨e1,e2,e3,_⟩:=partition_holds ltInt swo_ltInt d2 x y pv p1.1 p1.2 (by omega)
  have e3:=e3.1
  generalize partition ltInt d2 x y pv=r at e1 e2 e3 h6' ⊢
  obtain ⟨mid,ap,d4⟩:=r
  simp only at e1 e2 e3 h6' ⊢
  rw [dif_pos ⟨e1,e2⟩] at h6'
  have w3:Ej .i64 ((y - x:Nat):Int) 8=some (((y - x) / 8:Nat):Int):=by
   rw [Ej,if_pos (by decide)]
   have:(((y - x:Nat):Int)).tdiv 8=(((y - x) / 8:Nat):Int):=by rw [Int.tdiv_eq_ediv_of_nonneg (by omega)];omega
   rw [this,wrap_i64 (by omega) (by omega)]
  rw [w3,Option.bind_some,ay,bH (x:=(mid:Int) - (x:Int)) (n:=mid - x) (by omega) (by omega),bH (x:=(y:Int) - (mid:Int)) (n:=y - mid) (by omega) (by omega),bH (x:=(mid:Int)+1) (n:=mid+1) (by omega) (by omega)]
  have dg:∀ u:Nat,decide ((u:Int)≥(((y - x) / 8:Nat):Int))=decide (u≥(y - x) / 8):=fun u=>by simp only [decide_eq_decide];omega
  refine Def.ite (fun hm=>?_) (fun hm=>?_)
  ·have hm:=of_decide_eq_true hm
   rw [if_pos (by omega)] at h6'
   rw [RH e1 (by omega) (by omega) (by omega),Option.bind_some,dg]
   have s5:(pdq ltInt d4 x mid l1 true true).size=d4.size:=by rw [pdq_small (by omega)];exact (insertionSort_holds swo_ltInt d4 x mid e1 (by omega)).1.1
   exact .turn ⟨⟨mid+1,y,l1,_,ap,pdq ltInt d4 x mid l1 true true,rfl,e2,h2,by omega,hl1',by omega,h6'⟩,by simp only;omega⟩
  ·have hm : ¬ mid - x<y - mid:=fun h=>hm (decide_eq_true (by omega))
   rw [if_neg hm] at h6'
   rw [RH e2 (by omega) (by omega) (by omega),Option.bind_some,dg]
   have s5:(pdq ltInt d4 (mid+1) y l1 true true).size=d4.size:=by rw [pdq_small (by omega)];exact (insertionSort_holds swo_ltInt d4 (mid+1) y e2 (by omega)).1.1
   exact .turn ⟨⟨x,mid,l1,_,ap,pdq ltInt d4 (mid+1) y l1 true true,rfl,e1,by omega,by omega,hl1',by omega,h6'⟩,by simp only;omega⟩
end
theorem aax (l:List Int) (h:l.length≤25):F40 l=some (l.mergeSort (fun a b=>decide (a≤b)),()):=by
 unfold F40
 have h1:=YW ⟨l.length,by omega⟩
 simp only at h1
 rw [wrap_u64 (n:=l.length) rfl (by omega),h1,Option.bind_some]
 have hbl:bitsLen l.length≤1000:=by
  have:=(bitsLen_le_iff l.length 10).2 (by omega)
  omega
 have h2:=aaw (d:=l.toArray) (a:=0) (b:=l.length) (l:=bitsLen l.length) (by omega) (by simp) (by simp;omega) hbl (by omega)
 simp only [Int.natCast_zero] at h2
 rw [h2,Option.bind_some]
 have h3:=sortInt l
 unfold Go.Sort.sort at h3
 simp only [List.size_toArray] at h3
 rw [h3]
end Go.Fn
namespace Go.Fn
open Go Go.Ab Go.Tx
def tN (l:List D6) (root:Int):Option Int:=(l.find? fun o=>o.1 != root&&(aI l o.1).isEmpty).map (·.1)
end Go.Fn
namespace Go.Fn
open Go Go.Ab Go.Tx
def Ord (l:List D6) (A:List Int):Prop:=∀ pre x post,A=pre++x::post→∀ o∈l,x∈lnk o→o.1∈pre
def Clo (l:List D6) (root:Int) (B:List Int):Prop:=∀ o∈l,o.1≠root→o.1 ∉ B→∃ d∈l,d.1 ∉ B∧o.1∈lnk d
def Things (l:List D6) (root:Int) (A:List Int):Prop:=∀ x∈A,(∃ o∈l,o.1=x)∧x≠root
theorem RJ {l:List D6} {root:Int} {A B:List Int} (hA:Things l root A) (oA:Ord l A) (cB:Clo l root B):∀ x∈A,x∈B:=by
 have key:∀ k,∀ x∈A.take k,x∈B:=by
  intro k
  induction k with
  | zero=>intro x hx;simp at hx
  | succ k ih =>
   intro x hx
   by_cases hk:k<A.length
   ·rw [List.take_add_one,List.getElem?_eq_getElem hk] at hx
    rcases List.mem_append.1 hx with hx | hx
    ·exact ih x hx
    ·simp only [Option.toList_some,List.mem_singleton] at hx
     have hxA:x∈A:=by rw [hx];exact List.getElem_mem hk
     obtain ⟨⟨o,ho,rfl⟩,hr⟩:=hA x hxA
     refine Classical.byContradiction fun hn=>?_
     obtain ⟨d,hd,h1,h2⟩:=cB o ho hr hn
     have hs:A=A.take k++o.1::A.drop (k+1):=by
      rw [hx];exact wM hk
     exact h1 (ih _ (oA _ _ _ hs d hd h2))
   ·rw [List.take_of_length_le (by omega)] at hx
    exact ih x (by rw [List.take_of_length_le (by omega)];exact hx)
 intro x hx
 exact key A.length x (by rw [List.take_length];exact hx)
theorem KI {l:List D6} {A:List Int} {x:Int} (h:Ord l A) (hx:∀ o∈l,x∈lnk o→o.1∈A):Ord l (A++[x]):=by
 intro pre y post e o ho hy
 by_cases hp:post=[]
 ·subst hp
  have e2:=List.append_inj' e (by simp)
  obtain ⟨e3,e4⟩:=e2
  cases e4
  rw [← e3];exact hx o ho hy
 ·obtain ⟨q,z,rfl⟩:∃ q z,post=q++[z]:=⟨post.dropLast,post.getLast hp,(List.dropLast_concat_getLast hp).symm⟩
  have e2:A++[x]=(pre++y::q)++[z]:=by rw [e];simp
  obtain ⟨e3,_⟩:=List.append_inj' e2 (by simp)
  exact h pre y q e3 o ho hy
def rounds (root:Int):Nat→List D6→List Int→List D6×List Int
 | 0,l,L=>(l,L)
 | n+1,l,L=>match tN l root with
  | none=>(l,L)
  | some x=>rounds root n (l.filter (·.1 != x)) (insL L x)
theorem Bz {l:List D6} {root x:Int} (h:tN l root=some x):(∃ o∈l,o.1=x)∧x≠root∧∀ o∈l,x ∉ lnk o:=by
 unfold tN at h
 obtain ⟨o,h1,rfl⟩:=Option.map_eq_some_iff.1 h
 have h2:=List.find?_some h1
 simp only [Bool.and_eq_true,bne_iff_ne,ne_eq,List.isEmpty_iff] at h2
 refine ⟨⟨o,List.mem_of_find?_eq_some h1,rfl⟩,h2.1,fun d hd hx=>?_⟩
 have:d.1∈aI l o.1:=bZ.2 ⟨d,hd,hx,rfl⟩
 rw [h2.2] at this;cases this
theorem Nu {l:List D6} {root:Int} (h:tN l root=none):∀ o∈l,o.1≠root→∃ d∈l,o.1∈lnk d:=by
 intro o ho hr
 unfold tN at h
 have h1:=List.find?_eq_none.1 (Option.map_eq_none_iff.1 h) o ho
 simp only [Bool.and_eq_true,bne_iff_ne,ne_eq,List.isEmpty_iff,not_and] at h1
 have h2:=h1 hr
 cases hh:aI l o.1 with
 | nil=>exact absurd hh h2
 | cons d ds =>
  have:d∈aI l o.1:=by rw [hh];exact List.mem_cons_self
  obtain ⟨e,he,h3,_⟩:=bZ.1 this
  exact ⟨e,he,h3⟩
structure Goes (l:List D6) (root:Int) (L:List Int) (l' : List D6):Prop where
 left:l' = l.filter fun o=>!L.contains o.1
 rise:L.Pairwise (· < ·)
 ord:∃ A:List Int,(∀ x,x∈A↔x∈L)∧Things l root A∧Ord l A
theorem RN {l:List D6} {root:Int} {L:List Int} {l' : List D6} {x:Int} (h:Goes l root L l') (hx:tN l' root=some x):Goes l root (insL L x) (l'.filter (·.1 != x))∧x ∉ L:=by
 obtain ⟨⟨o,ho,rfl⟩,hr,hno⟩:=Bz hx
 have ho':=ho
 rw [h.left] at ho'
 simp only [List.mem_filter,Bool.not_eq_true',List.contains_eq_mem,decide_eq_false_iff_not] at ho'
 refine ⟨⟨?_,Rl h.rise ho'.2,?_⟩,ho'.2⟩
 ·rw [h.left,List.filter_filter]
  refine List.filter_congr fun d hd=>?_
  by_cases e:d.1=o.1
  ·simp [e,DV]
  ·by_cases e2:d.1∈L <;> simp [e,e2,DV]
 ·obtain ⟨A,h1,h2,h3⟩:=h.ord
  refine ⟨A++[o.1],fun y=>?_,fun y hy=>?_,KI h3 fun d hd hl=>?_⟩
  ·simp only [List.mem_append,List.mem_singleton,DV,h1 y];exact Or.comm
  ·rcases List.mem_append.1 hy with hy | hy
   ·exact h2 y hy
   ·simp only [List.mem_singleton] at hy
    subst hy;exact ⟨⟨o,ho'.1,rfl⟩,hr⟩
  ·refine Classical.byContradiction fun hn=>hno d ?_ hl
   rw [h.left]
   simp only [List.mem_filter,Bool.not_eq_true',List.contains_eq_mem,decide_eq_false_iff_not]
   exact ⟨hd,fun hc=>hn ((h1 _).2 hc)⟩
end Go.Fn
namespace Go.Fn
open Go Go.Ab Go.Tx
theorem zD {l:List D6} {root:Int}:∀ (n:Nat) (l' : List D6) (L:List Int),Goes l root L l' → l'.length≤n→Goes l root (rounds root n l' L).2 (rounds root n l' L).1∧tN (rounds root n l' L).1 root=none
 | 0,l',L,h,hn=>by
  have:l' = []:=List.eq_nil_of_length_eq_zero (by omega)
  subst this
  exact ⟨h,rfl⟩
 | n+1,l',L,h,hn=>by
  simp only [rounds]
  cases hx:tN l' root with
  | none=>exact ⟨h,hx⟩
  | some x =>
   obtain ⟨h1,_⟩:=RN h hx
   obtain ⟨⟨o,ho,e⟩,_⟩:=Bz hx
   refine zD n _ _ h1 ?_
   have:(l'.filter (·.1 != x)).length<l'.length:=by
    rcases Nat.lt_or_ge (l'.filter (·.1 != x)).length l'.length with h | h
    ·exact h
    ·have h2:=List.length_filter_eq_length_iff.1 (Nat.le_antisymm (List.length_filter_le _ _) h) o ho
     simp [e] at h2
   omega
theorem KJ {l:List D6} {root:Int} {L:List Int} {l' : List D6} (h:Goes l root L l') (ha:tN l' root=none):Clo l root L:=by
 intro o ho hr hn
 have hm:∀ d,d∈l' ↔ d∈l∧d.1 ∉ L:=fun d=>by rw [h.left];simp
 obtain ⟨d,hd,h1⟩:=Nu ha o ((hm o).2 ⟨ho,hn⟩) hr
 exact ⟨d,((hm d).1 hd).1,((hm d).1 hd).2,h1⟩
theorem KL (l:List D6) (root:Int):Goes l root [] l :=
 ⟨(List.filter_eq_self.2 fun o _=>by simp).symm,List.Pairwise.nil,[],by simp,by simp [Things],fun pre x post e=>by simp at e⟩
def Za (w:D7) (a b:Int):D7×List Int×Int :=
 if (bM (objs w) a).2=false∨b ∉ lnk (bM (objs w) a).1 then (w,[],1) else
  let v:=U4 w (dH (bM (objs w) a).1 ((lnk (bM (objs w) a).1).filter (· != b)))
  let R:=rounds v.2.2.1 (objs v).length (objs v) []
  (bn v R.1,R.2,0)
end Go.Fn
namespace Go.Fn
open Go Go.Ab Go.Tx
theorem qx (z:Int) (a c b:Int):∀ l:List (Int×Int),bK z (jV l a c) b=if b=a then c else bK z l b
 | []=>by simp only [jV,bK]
 | (k,e)::l=>by
  have ih:=qx z a c b l
  simp only [jV]
  by_cases h:a=k
  ·subst h
   simp only [if_true,bK]
   split <;> rfl
  ·rw [if_neg h]
   simp only [bK,ih]
   by_cases h2:b=k
   ·subst h2
    rw [if_pos rfl,if_neg (fun e=>h e.symm)];simp
   ·rw [if_neg h2,if_neg h2]
def cnt (l:List D6) (x:Int):Nat:=(l.flatMap lnk).count x
theorem oZ (a b:List D6) (x:Int):cnt (a++b) x=cnt a x+cnt b x:=by simp [cnt,List.count_append]
theorem Ed (o:D6) (x:Int):cnt [o] x=(lnk o).count x:=by simp [cnt]
theorem Ee {l:List D6} {x:Int}:cnt l x=0↔∀ d∈l,x ∉ lnk d:=by
 unfold cnt
 rw [List.count_eq_zero,List.mem_flatMap]
 exact ⟨fun h d hd hx=>h ⟨d,hd,hx⟩,fun h ⟨d,hd,hx⟩=>h d hd hx⟩
theorem cnt_le {l:List D6} {x:Int}:cnt l x≤(l.flatMap lnk).length:=List.count_le_length
theorem Ja {l:List D6} (h:∀ o∈l,(lnk o).length≤70):(l.flatMap lnk).length≤l.length * 70:=by
 induction l with
 | nil=>simp
 | cons o l ih =>
  have h1:=h o List.mem_cons_self
  have h2:=ih fun d hd=>h d (List.mem_cons_of_mem _ hd)
  rw [List.flatMap_cons,List.length_append,List.length_cons];omega
theorem Jb {l:List D6} (hp:l.Pairwise (fun a b=>a.1<b.1)) {G:List Int} {o:D6} (ho:o∈l) (hn:o.1 ∉ G) (y:Int) :
  cnt (l.filter fun d=>!(G++[o.1]).contains d.1) y+(lnk o).count y=cnt (l.filter fun d=>!G.contains d.1) y:=by
 obtain ⟨A,B,rfl⟩:=List.append_of_mem ho
 rw [List.pairwise_append,List.pairwise_cons] at hp
 have hA:A.filter (fun d=>!(G++[o.1]).contains d.1)=A.filter fun d=>!G.contains d.1:=List.filter_congr fun d hd=>by
  have:d.1≠o.1:=by have:=hp.2.2 d hd o List.mem_cons_self;omega
  simp [this]
 have hB:B.filter (fun d=>!(G++[o.1]).contains d.1)=B.filter fun d=>!G.contains d.1:=List.filter_congr fun d hd=>by
  have:d.1≠o.1:=by have:=hp.2.1.1 d hd;omega
  simp [this]
 rw [List.filter_append,List.filter_append,List.filter_cons,List.filter_cons,hA,hB]
 have h1:(!(G++[o.1]).contains o.1)=false:=by simp
 have h2:(!G.contains o.1)=true:=by simpa using hn
 rw [if_neg (by rw [h1];simp),if_pos h2,oZ,oZ,show o::B.filter (fun d=>!G.contains d.1)=[o]++B.filter (fun d=>!G.contains d.1) from rfl,oZ,Ed]
 omega
structure SW (l:List D6) (root:Int):Prop where
 few:l.length≤20
 ris:l.Pairwise (fun a b=>a.1<b.1)
 lns:∀ o∈l,(lnk o).length≤70
 lnk:∀ o∈l,(Fn.lnk o).Pairwise (· < ·)
 has:∀ o∈l,∀ x∈Fn.lnk o,∃ y∈l,y.1=x
 top:∀ o∈l,root ∉ Fn.lnk o
structure Mid (l:List D6) (root:Int) (todo:List Int) (m:List (Int×Int)) (gone:List Int):Prop where
 nod:(gone++todo).Nodup
 thg:Things l root (gone++todo)
 map:∀ y,bK 0 m y=(cnt (l.filter fun d=>!gone.contains d.1) y:Nat)
 all:∀ o∈l,o.1≠root→(o.1∈gone++todo↔cnt (l.filter fun d=>!gone.contains d.1) o.1=0)
 ord:Ord l gone
theorem Gv {l:List D6} {A:List Int} (hA:A.Nodup) (h:∀ x∈A,∃ o∈l,o.1=x):A.length≤l.length:=by
 have:=ru A (l.map (·.1)) hA (fun x hx=>by obtain ⟨o,ho,e⟩:=h x hx;exact List.mem_map.2 ⟨o,ho,e⟩)
 simpa using this
theorem RP {l:List D6} (hp:l.Pairwise (fun a b=>a.1<b.1)) {x:Int} (h:∃ o∈l,o.1=x):∃ o∈l,o.1=x∧bM l x=(o,true):=by
 obtain ⟨o,ho,rfl⟩:=h
 exact ⟨o,ho,rfl,cu hp o ho⟩
theorem uU:∀ {l:List Int},l.Pairwise (· < ·)→∀ x:Int,l.count x=if x∈l then 1 else 0
 | [],_,x=>by simp
 | a::l,hp,x=>by
  have h1:=uU (List.pairwise_cons.1 hp).2 x
  have h2:=(List.pairwise_cons.1 hp).1
  rw [List.count_cons,h1]
  by_cases e:a=x
  ·subst e
   have:a ∉ l:=fun h=>by have:=h2 a h;omega
   simp [this]
  ·have e' : ¬ x=a:=fun h=>e h.symm
   simp [e,e']
theorem del_eq:∀ {l:List Int},l.Pairwise (· < ·)→∀ {b:Int},b∈l→gI l b<l.length∧l.take (gI l b)++l.drop (gI l b+1)=l.filter (· != b)
 | [],_,b,hb=>by cases hb
 | c::l,hp,b,hb=>by
  have h1:=(List.pairwise_cons.1 hp).1
  have h2:=(List.pairwise_cons.1 hp).2
  rw [Gl]
  by_cases hc:c<b
  ·have hbl:b∈l:=by
    rcases List.mem_cons.1 hb with e | e
    ·omega
    ·exact e
   obtain ⟨g1,g2⟩:=del_eq h2 hbl
   rw [if_pos hc]
   refine ⟨by simp;omega,?_⟩
   have hcb:(c != b)=true:=by simp;omega
   rw [List.filter_cons,if_pos hcb,← g2]
   simp
  ·have e:c=b:=by
    rcases List.mem_cons.1 hb with e | e
    ·exact e.symm
    ·have:=h1 b e;omega
   subst e
   rw [if_neg hc]
   have h0:gI l c=0:=by
    unfold gI
    rw [List.length_eq_zero_iff,List.filter_eq_nil_iff]
    intro x hx;have:=h1 x hx;simp;omega
   have hf:(c::l).filter (· != c)=l:=by
    rw [List.filter_cons,if_neg (by simp)]
    exact List.filter_eq_self.2 fun x hx=>by have:=h1 x hx;simp;omega
   rw [h0,hf]
   exact ⟨by simp,by simp⟩
structure Jc (l:List D6) (root:Int) (gone:List Int) (x:Int) (q todo:List Int) (m:List (Int×Int)):Prop where
 nod:(gone++[x]++todo).Nodup
 thg:Things l root (gone++[x]++todo)
 map:∀ y,bK 0 m y=((cnt (l.filter fun d=>!gone.contains d.1) y:Nat):Int) - (q.count y:Nat)
 all:∀ o∈l,o.1≠root→(o.1∈gone++[x]++todo↔((cnt (l.filter fun d=>!gone.contains d.1) o.1:Nat):Int) - (q.count o.1:Nat)=0)
theorem Mid.start {l:List D6} {root x:Int} {rest gone:List Int} {m:List (Int×Int)} (h:Mid l root (x::rest) m gone):Jc l root gone x [] rest m:=by
 have e:gone++[x]++rest=gone++x::rest:=by simp
 refine ⟨by rw [e];exact h.nod,by rw [e];exact h.thg,fun y=>by rw [h.map y];simp,fun o ho hr=>?_⟩
 rw [e,h.all o ho hr];simp
theorem Jc.fin {l:List D6} {root:Int} {rest gone todo:List Int} {m m' : List (Int×Int)} {o:D6} (hw:SW l root) (h:Mid l root (o.1::rest) m gone) (ho:o∈l) (h' : Jc l root gone o.1 (lnk o) todo m'):Mid l root todo m' (gone++[o.1]):=by
 have hog:o.1 ∉ gone:=fun hc=>by
  have:=(List.nodup_append.1 h.nod).2.2 o.1 hc o.1 List.mem_cons_self
  exact this rfl
 have hor:o.1≠root:=(h.thg o.1 (by simp)).2
 refine ⟨h'.nod,h'.thg,fun y=>?_,fun d hd hr=>?_,KI h.ord fun d hd hx=>?_⟩
 ·rw [h'.map y]
  have:=Jb hw.ris ho hog y
  omega
 ·rw [h'.all d hd hr]
  have:=Jb hw.ris ho hog d.1
  omega
 ·have h0:=(h.all o ho hor).1 (by simp)
  refine Classical.byContradiction fun hn=>?_
  exact Ee.1 h0 d (List.mem_filter.2 ⟨hd,by simpa using hn⟩) hx
theorem Jc.step {l:List D6} {root:Int} {rest gone todo q post:List Int} {m m' : List (Int×Int)} {o:D6} {z:Int} (hw:SW l root) (h:Mid l root (o.1::rest) m gone) (ho:o∈l) (e:lnk o=q++z::post) (h' : Jc l root gone o.1 q todo m') :
  1≤bK 0 m' z∧Jc l root gone o.1 (q++[z]) (if bK 0 m' z - 1=0 then todo++[z] else todo) (jV m' z (bK 0 m' z - 1)):=by
 have hog:o.1 ∉ gone:=fun hc=>by
  have:=(List.nodup_append.1 h.nod).2.2 o.1 hc o.1 List.mem_cons_self
  exact this rfl
 have hzo:z∈lnk o:=by rw [e];simp
 obtain ⟨y,hy,rfl⟩:=hw.has o ho z hzo
 have hyr:y.1≠root:=fun hc=>hw.top o ho (by rw [← hc];exact hzo)
 have hge:(lnk o).count y.1≤cnt (l.filter fun d=>!gone.contains d.1) y.1:=by
  have:=Jb hw.ris ho hog y.1
  omega
 have hq:q.count y.1+1≤(lnk o).count y.1:=by rw [e,List.count_append,List.count_cons];simp
 have h1:1≤bK 0 m' y.1:=by rw [h'.map y.1];omega
 have hno:y.1 ∉ gone++[o.1]++todo:=fun hc=>by
  have:=(h'.all y hy hyr).1 hc
  rw [← h'.map y.1] at this;omega
 have hcnt:∀ u:Int,(q++[y.1]).count u=q.count u+if u=y.1 then 1 else 0:=fun u=>by
  rw [List.count_append]
  by_cases hu:u=y.1
  ·subst hu;simp
  ·rw [if_neg hu]
   have hu' : ¬ y.1=u:=fun h=>hu h.symm
   simp [List.count_cons,hu']
 have hmap:∀ u,bK 0 (jV m' y.1 (bK 0 m' y.1 - 1)) u=((cnt (l.filter fun d=>!gone.contains d.1) u:Nat):Int) - ((q++[y.1]).count u:Nat):=fun u=>by
  rw [qx,hcnt u]
  by_cases hu:u=y.1
  ·subst hu
   rw [if_pos rfl,if_pos rfl,h'.map];omega
  ·rw [if_neg hu,if_neg hu,h'.map];omega
 refine ⟨h1,?_⟩
 by_cases hz:bK 0 m' y.1 - 1=0
 ·rw [if_pos hz]
  have ea:gone++[o.1]++(todo++[y.1])=(gone++[o.1]++todo)++[y.1]:=by simp
  refine ⟨?_,?_,hmap,fun d hd hr=>?_⟩
  ·rw [ea,List.nodup_append]
   refine ⟨h'.nod,by simp,fun a ha b hb=>?_⟩
   simp only [List.mem_singleton] at hb
   subst hb
   rintro rfl;exact hno ha
  ·rw [ea]
   intro u hu
   rcases List.mem_append.1 hu with hu | hu
   ·exact h'.thg u hu
   ·simp only [List.mem_singleton] at hu
    subst hu;exact ⟨⟨y,hy,rfl⟩,hyr⟩
  ·rw [ea,List.mem_append,List.mem_singleton,h'.all d hd hr,hcnt d.1]
   by_cases hu:d.1=y.1
   ·rw [if_pos hu,hu]
    have:=h'.map y.1
    constructor
    ·intro _;omega
    ·intro _;exact .inr rfl
   ·rw [if_neg hu]
    constructor
    ·rintro (h9 | h9)
     ·omega
     ·exact absurd h9 hu
    ·intro h9;exact .inl (by omega)
 ·rw [if_neg hz]
  refine ⟨h'.nod,h'.thg,hmap,fun d hd hr=>?_⟩
  rw [h'.all d hd hr,hcnt d.1]
  by_cases hu:d.1=y.1
  ·rw [if_pos hu,hu]
   have:=h'.map y.1
   omega
  ·rw [if_neg hu];omega
theorem Gw {l:List D6} (hp:l.Pairwise (fun a b=>a.1<b.1)) {o o' : D6} (ho:o∈l) (e:o'.1=o.1):∃ A B,l=A++o::B∧tY l o' = A++o' :: B:=by
 obtain ⟨A,B,rfl⟩:=List.append_of_mem ho
 rw [List.pairwise_append,List.pairwise_cons] at hp
 refine ⟨A,B,rfl,?_⟩
 have a1:A.filter (fun x=>decide (x.1<o'.1))=A:=List.filter_eq_self.2 fun d hd=>by have:=hp.2.2 d hd o List.mem_cons_self;rw [e];simpa using this
 have a2:A.filter (fun x=>decide (o'.1<x.1))=[]:=List.filter_eq_nil_iff.2 fun d hd=>by have:=hp.2.2 d hd o List.mem_cons_self;rw [e];simp;omega
 have b1:B.filter (fun x=>decide (x.1<o'.1))=[]:=List.filter_eq_nil_iff.2 fun d hd=>by have:=hp.2.1.1 d hd;rw [e];simp;omega
 have b2:B.filter (fun x=>decide (o'.1<x.1))=B:=List.filter_eq_self.2 fun d hd=>by have:=hp.2.1.1 d hd;rw [e];simpa using this
 have c1 : ¬ o.1<o'.1:=by omega
 have c2 : ¬ o'.1<o.1:=by omega
 simp only [tY,List.filter_append,List.filter_cons,a1,a2,b1,b2,c1,c2,decide_false,Bool.false_eq_true,if_false,List.nil_append,List.append_nil]
theorem RQ {l:List D6} {root b:Int} {o o' : D6} (hw:SW l root) (held:∀ o∈l,o.1≠root→∃ d∈l,o.1∈lnk d) (ho:o∈l) (hb:b∈lnk o) (e1:o'.1=o.1) (e2:lnk o' = (lnk o).filter (· != b)) {m:List (Int×Int)} (hm:∀ x,bK 0 m x=(cnt l x:Nat)) :
  SW (tY l o') root∧1≤bK 0 m b∧Mid (tY l o') root (if bK 0 m b - 1=0 then [b] else []) (jV m b (bK 0 m b - 1)) []:=by
 obtain ⟨A,B,hA,hP⟩:=Gw hw.ris ho e1
 have sub:∀ d∈tY l o',∃ c∈l,c.1=d.1∧(lnk d).length≤(lnk c).length∧((lnk c).Pairwise (· < ·)→(lnk d).Pairwise (· < ·))∧∀ x∈lnk d,x∈lnk c:=fun d hd=>by
  rcases DW.1 hd with h | ⟨h,_⟩
  ·subst h
   exact ⟨o,ho,e1.symm,by rw [e2];exact List.length_filter_le _ _,fun hp=>by rw [e2];exact hp.filter _,fun x hx=>by rw [e2] at hx;exact (List.mem_filter.1 hx).1⟩
  ·exact ⟨d,h,rfl,Nat.le_refl _,id,fun _ h=>h⟩
 have ids:∀ c∈l,∃ d∈tY l o',d.1=c.1:=fun c hc=>by
  by_cases h:c.1=o'.1
  ·exact ⟨o',DW.2 (.inl rfl),h.symm⟩
  ·exact ⟨c,DW.2 (.inr ⟨hc,h⟩),rfl⟩
 have hlen:(tY l o').length=l.length:=by rw [hP,hA];simp
 have hSW:SW (tY l o') root:=⟨by rw [hlen];exact hw.few,Rn hw.ris o',fun d hd=>by
   obtain ⟨c,hc,_,h2,_⟩:=sub d hd
   have:=hw.lns c hc;omega,fun d hd=>by
   obtain ⟨c,hc,_,_,h3,_⟩:=sub d hd
   exact h3 (hw.lnk c hc),fun d hd x hx=>by
   obtain ⟨c,hc,_,_,_,h4⟩:=sub d hd
   obtain ⟨y,hy,e⟩:=hw.has c hc x (h4 x hx)
   obtain ⟨z,hz,ez⟩:=ids y hy
   exact ⟨z,hz,ez.trans e⟩,fun d hd hx=>by
   obtain ⟨c,hc,_,_,_,h4⟩:=sub d hd
   exact hw.top c hc (h4 _ hx)⟩
 have hone:(lnk o).count b=1:=by rw [uU (hw.lnk o ho) b,if_pos hb]
 have hcnt:∀ x,cnt (tY l o') x+(if x=b then 1 else 0)=cnt l x:=fun x=>by
  have hf:(lnk o').count x+(if x=b then 1 else 0)=(lnk o).count x:=by
   rw [e2]
   by_cases h:x=b
   ·subst h
    rw [hone,if_pos rfl,List.count_eq_zero.2 (fun hc=>by simpa using (List.mem_filter.1 hc).2)]
   ·rw [if_neg h,List.count_filter (by simpa using h)];rfl
  have h1:cnt (tY l o') x=cnt A x+((lnk o').count x+cnt B x):=by
   rw [hP,oZ,show o' :: B=[o']++B from rfl,oZ,Ed]
  have h2:cnt l x=cnt A x+((lnk o).count x+cnt B x):=by
   conv=>lhs;rw [hA]
   rw [oZ,show o::B=[o]++B from rfl,oZ,Ed]
  omega
 have hb1:1≤bK 0 m b:=by
  rw [hm b]
  have:=hcnt b
  rw [if_pos rfl] at this;omega
 have hmap:∀ y,bK 0 (jV m b (bK 0 m b - 1)) y=(cnt (tY l o') y:Nat):=fun y=>by
  have:=hcnt y
  rw [qx]
  by_cases h:y=b
  ·subst h;rw [if_pos rfl,hm];rw [if_pos rfl] at this;omega
  ·rw [if_neg h,hm];rw [if_neg h] at this;omega
 have hfil:(tY l o').filter (fun d=>!([]:List Int).contains d.1)=tY l o':=List.filter_eq_self.2 fun d _=>by simp
 obtain ⟨y,hy,ey⟩:=hw.has o ho b hb
 obtain ⟨y',hy',ey'⟩:=ids y hy
 have hbr:b≠root:=fun h=>hw.top o ho (h ▸ hb)
 refine ⟨hSW,hb1,?_,?_,fun y=>by rw [hfil];exact hmap y,fun d hd hr=>?_,fun pre x post e=>by simp at e⟩
 ·split <;> simp
 ·intro x hx
  split at hx
  ·simp only [List.nil_append,List.mem_singleton] at hx
   subst hx;exact ⟨⟨y',hy',ey'.trans ey⟩,hbr⟩
  ·simp at hx
 ·rw [hfil,List.nil_append]
  obtain ⟨c,hc,hce,_⟩:=sub d hd
  obtain ⟨e,he,hx⟩:=held c hc (by rw [hce];exact hr)
  have hpos:cnt l d.1≠0:=fun h0=>Ee.1 h0 e he (by rw [← hce];exact hx)
  have h3:=hcnt d.1
  have h4:=hcnt b
  rw [if_pos rfl] at h4
  by_cases h:d.1=b
  ·rw [h]
   have h5:=hm b
   by_cases hz:bK 0 m b - 1=0
   ·rw [if_pos hz];simp;omega
   ·rw [if_neg hz];simp;omega
  ·rw [if_neg h] at h3
   have:d.1 ∉ (if bK 0 m b - 1=0 then [b] else []):=by split <;> simp [h]
   constructor
   ·intro h9;exact absurd h9 this
   ·intro h9;omega
end Go.Fn
namespace Go.Fn
open Go Go.Ab Go.Tx
theorem Gx {l:List D6} {a:Int} {p:List Int→Prop} (h0:p []) (h:∀ o∈l,p (lnk o)):p (lnk (bM l a).1):=by
 unfold bM
 split
 ·rename_i o ho;exact h o (List.mem_of_find?_eq_some ho)
 ·exact h0
theorem Gy:∀ {A B:List Int},A.Pairwise (· < ·)→B.Pairwise (· < ·)→(∀ x,x∈A↔x∈B)→A=B
 | [],[],_,_,_=>rfl
 | [],b::B,_,_,h=>by have:=(h b).2 List.mem_cons_self;cases this
 | a::A,[],_,_,h=>by have:=(h a).1 List.mem_cons_self;cases this
 | a::A,b::B,hA,hB,h=>by
  have a1:=(List.pairwise_cons.1 hA).1
  have b1:=(List.pairwise_cons.1 hB).1
  have e:a=b:=by
   rcases List.mem_cons.1 ((h a).1 List.mem_cons_self) with e | e
   ·exact e
   ·rcases List.mem_cons.1 ((h b).2 List.mem_cons_self) with e2 | e2
    ·exact e2.symm
    ·have:=a1 b e2;have:=b1 a e;omega
  subst e
  rw [Gy (List.pairwise_cons.1 hA).2 (List.pairwise_cons.1 hB).2 fun x=>?_]
  have:=h x
  simp only [List.mem_cons] at this
  constructor
  ·intro hx
   rcases this.1 (.inr hx) with e | e
   ·have:=a1 x hx;omega
   ·exact e
  ·intro hx
   rcases this.2 (.inr hx) with e | e
   ·have:=b1 x hx;omega
   ·exact e
theorem Gz {l:List Int} (h:l.Nodup):(l.mergeSort (fun a b=>decide (a≤b))).Pairwise (· < ·):=by
 have h1:(l.mergeSort (fun a b=>decide (a≤b))).Pairwise (fun a b=>decide (a≤b)=true):=List.pairwise_mergeSort (fun a b c h1 h2=>by simp at *; omega) (fun a b=>by simp;omega) l
 have h2:(l.mergeSort (fun a b=>decide (a≤b))).Nodup:=(List.mergeSort_perm l _).nodup_iff.2 h
 exact (h1.and h2).imp fun ⟨h3,h4⟩=>by simp at h3;omega
theorem Jd {l:List D6} {root:Int} {m:List (Int×Int)} {gone:List Int} (h:Mid l root [] m gone) :
  gone.mergeSort (fun a b=>decide (a≤b))=(rounds root l.length l []).2∧l.filter (fun o=>!(gone.mergeSort (fun a b=>decide (a≤b))).contains o.1)=(rounds root l.length l []).1:=by
 obtain ⟨g1,g2⟩:=zD l.length l [] (KL l root) (Nat.le_refl _)
 have hclo:=KJ g1 g2
 have hnd:gone.Nodup:=by simpa using h.nod
 have hth:Things l root gone:=by simpa using h.thg
 have hcg:Clo l root gone:=fun o ho hr hn=>by
  have h1:=h.all o ho hr
  simp only [List.append_nil] at h1
  have h2:cnt (l.filter fun d=>!gone.contains d.1) o.1≠0:=fun h3=>hn (h1.2 h3)
  refine Classical.byContradiction fun hno=>h2 (Ee.2 fun d hd hx=>hno ?_)
  rw [List.mem_filter] at hd
  exact ⟨d,hd.1,by simpa using hd.2,hx⟩
 obtain ⟨A,a1,a2,a3⟩:=g1.ord
 have e:gone.mergeSort (fun a b=>decide (a≤b))=(rounds root l.length l []).2:=by
  refine Gy (Gz hnd) g1.rise fun x=>?_
  rw [(List.mergeSort_perm gone _).mem_iff]
  exact ⟨RJ hth h.ord hclo x,fun hx=>RJ a2 a3 hcg x ((a1 x).2 hx)⟩
 exact ⟨e,by rw [e];exact g1.left.symm⟩
theorem abv (w:D7) (a b:Int) (hw:SW (objs w) w.2.2.1) (held:∀ o∈objs w,o.1≠w.2.2.1→∃ d∈objs w,o.1∈lnk d):F8 w a b=some (Za w a b):=by
 have hfew:=hw.few
 refine Def.eq ?_
 unfold F8
 refine Def.bind (Def.of (V5 w a (by omega) hw.ris) ?_)
 obtain ⟨oa,hoa⟩:∃ oa,oa=(bM (objs w) a).1:=⟨_,rfl⟩
 have hk70:(lnk oa).length≤70:=by rw [hoa];exact Gx (p:=fun l=>l.length≤70) (by simp) hw.lns
 have hkr:(lnk oa).Pairwise (· < ·):=by rw [hoa];exact Gx (p:=fun l=>l.Pairwise (· < ·)) List.Pairwise.nil hw.lnk
 rw [← hoa]
 refine Def.bind (Def.of (V4 (lnk oa) b (by omega) hkr) ?_)
 have hc:((if (!(bM (objs w) a).2)=true then true else (!decide (b∈lnk oa)))=true)↔((bM (objs w) a).2=false∨b ∉ lnk (bM (objs w) a).1):=by
  rw [← hoa]
  cases (bM (objs w) a).2 <;> simp
 refine Def.ite (fun h=>.ret ?_) (fun h=>?_)
 ·unfold Za;rw [if_pos (hc.1 h)]
 have hn : ¬ ((bM (objs w) a).2=false∨b ∉ lnk (bM (objs w) a).1):=fun h'=>h (hc.2 h')
 unfold Za
 rw [if_neg hn]
 rw [← hoa] at hn ⊢
 have hfound:(bM (objs w) a).2=true:=by cases h9:(bM (objs w) a).2 with | true=>rfl | false=>exact absurd (.inl h9) hn
 have hb:b∈lnk oa:=Classical.byContradiction fun h9=>hn (.inr h9)
 obtain ⟨hoam,hoae⟩:=jg hfound
 rw [← hoa] at hoam hoae
 have hflat:=Ja hw.lns
 refine Def.aO (fun m:List (Int×Int)=>∀ x,bK 0 m x=(cnt (objs w) x:Nat)) (fun m hi=>?_) (fun j5 hj5=>?_)
 ·refine Def.bind (Def.app (by simp only [List.length_nil];show (0+(lnk oa).length) * 8≤_;omega) ?_)
  obtain ⟨d1,d2⟩:=del_eq hkr hb
  refine Def.bind (Def.of (a:=(lnk oa).filter (· != b)) ?_ ?_)
  ·rw [wrap_i64 (by omega) (by omega),abM,if_pos ⟨by omega,by omega,by simp only [List.nil_append];show (gI (lnk oa) b:Int)+1≤((lnk oa).length:Nat);omega⟩]
   have t1:((gI (lnk oa) b:Nat):Int).toNat=gI (lnk oa) b:=Int.toNat_natCast _
   have t2:(((gI (lnk oa) b:Nat):Int)+1).toNat=gI (lnk oa) b+1:=by omega
   simp only [List.nil_append]
   show some (List.take ((gI (lnk oa) b:Nat):Int).toNat (lnk oa)++List.drop (((gI (lnk oa) b:Nat):Int)+1).toNat (lnk oa))=_
   rw [t1,t2,d2]
  ·refine Def.bind (Def.of (aac w _ (by omega) hw.ris) ?_)
   obtain ⟨o',ho'⟩:∃ o',o' = dH oa ((lnk oa).filter (· != b)):=⟨_,rfl⟩
   rw [← ho']
   have e1:o'.1=oa.1:=by rw [ho']
   have e2:lnk o' = (lnk oa).filter (· != b):=by rw [ho']
   obtain ⟨hSW,hb1,hmid⟩:=RQ hw held hoam hb e1 e2 hi
   have hv:U4 w o' = bn w (tY (objs w) o'):=by unfold U4;rw [if_pos (by have:=hSW.few;omega)]
   obtain ⟨v,hvd⟩:∃ v,v=U4 w o':=⟨_,rfl⟩
   rw [← hvd]
   have hvo:objs v=tY (objs w) o':=by rw [hvd,hv]
   have hvr:v.2.2.1=w.2.2.1:=by rw [hvd,hv]
   rw [← hvo,← hvr] at hSW hmid
   have hcb:=cnt_le (l:=objs w) (x:=b)
   have hib:=hi b
   have hw1:IntKind.wrap .i64 (bK 0 m b - 1)=bK 0 m b - 1:=wrap_i64 (by omega) (by omega)
   rw [hw1]
   refine Def.aO (fun todo:List Int=>todo=if bK 0 m b - 1=0 then [b] else []) (fun todo ht=>?_) (fun j9 hj9=>?_)
   ·rw [← ht] at hmid
    have hlen:∀ {todo:List Int} {m:List (Int×Int)} {gone:List Int},Mid (objs v) v.2.2.1 todo m gone→(gone++todo).length≤(objs v).length:=fun h=>Gv h.nod fun x hx=>(h.thg x hx).1
    have hfv:=hSW.few
    refine Def.aO (fun s10:(D7×(Unit×((List Int)×((List Int)×Unit))))×(List Int×(List (Int×Int)×List Int))=>s10.1.1=v∧Mid (objs v) v.2.2.1 [] s10.2.2.1 s10.2.2.2) (fun s10 hs=>?_) (fun j10 hj10=>?_)
    ·obtain ⟨hx,hM⟩:=hs
     have hgl:=hlen hM
     rw [List.append_nil] at hgl
     obtain ⟨q1,q2⟩:=Jd hM
     have hnd:s10.2.2.2.Nodup:=by have:=hM.nod;rwa [List.append_nil] at this
     have hsr:=Gz hnd
     have hsl:(s10.2.2.2.mergeSort (fun a b=>decide (a≤b))).length=s10.2.2.2.length:=List.length_mergeSort _
     refine Def.bind (Def.of (aax _ (by omega)) ?_)
     obtain ⟨srt,hsrt⟩:∃ srt,srt=s10.2.2.2.mergeSort (fun a b=>decide (a≤b)):=⟨_,rfl⟩
     rw [← hsrt] at q1 q2 hsr hsl ⊢
     refine Def.aO (fun s15:D7×List D6=>s15=(v,(rounds v.2.2.1 (objs v).length (objs v) []).1)) (fun s15 h15=>?_) (fun j15 hj15=>?_)
     ·subst h15
      exact .ret (by simp only;rw [q1])
     ·simp only [ay]
      rw [hx]
      refine Def.Y9 (l:=objs v) (fun s:Int×D7×List D6=>s.1) (fun pre s=>s.2.1=v∧s.2.2=pre.filter (fun o=>!srt.contains o.1)) (by omega) rfl ⟨rfl,rfl⟩ (fun pre u post s e hs hi=>?_) (fun s hs hi=>.done (hj15 _ ?_))
      ·refine Def.bind' (by rw [hs];exact Def.at e) (fun u' hu=>?_)
       subst hu
       obtain ⟨i1,i2⟩:=hi
       refine Def.bind (Def.of (V4 srt u'.1 (by omega) hsr) ?_)
       have hpl:pre.length≤20:=by rw [e] at hfv;simp at hfv;omega
       have hfl:(pre.filter (fun o=>!srt.contains o.1)).length≤pre.length:=List.length_filter_le _ _
       refine Def.ite (fun h9=>?_) (fun h9=>?_)
       ·have h9:u'.1 ∉ srt:=by simpa using h9
        refine Def.bind (.ret ?_)
        refine Def.bind (Def.app (by rw [i2];simp only [List.length_cons,List.length_nil];omega) (.turn ⟨by rw [hs],i1,?_⟩))
        rw [i2,List.filter_append];simp [h9]
       ·have h9:u'.1∈srt:=by simpa using h9
        refine .turn ⟨by rw [hs],i1,?_⟩
        rw [i2,List.filter_append];simp [h9]
      ·rw [hi.1,hi.2,q2]
    ·simp only [ay]
     refine Def.loop (fun s:(D7×(Unit×((List Int)×((List Int)×Unit))))×(List Int×(List (Int×Int)×List Int))=>s.1.1=v∧Mid (objs v) v.2.2.1 s.2.1 s.2.2.1 s.2.2.2) (fun s=>(objs v).length - s.2.2.2.length) ⟨rfl,hmid⟩ (fun s hi=>?_)
     obtain ⟨X,td,mm,gone⟩:=s
     obtain ⟨hx,hM⟩:=hi
     simp only at hx hM
     refine Def.ite (fun h9=>.done (hj10 _ ⟨hx,?_⟩)) (fun h9=>?_)
     ·have h9:td=[]:=by
       simp only [beq_iff_eq] at h9
       exact List.eq_nil_of_length_eq_zero (by omega)
      subst h9;exact hM
     ·cases td with
      | nil=>simp at h9
      | cons x rest =>
       have hgl:=hlen hM
       simp only [List.length_append,List.length_cons] at hgl
       obtain ⟨o,ho,ex,hf⟩:=RP hSW.ris (hM.thg x (by simp)).1
       subst ex
       refine Def.bind (Def.of (a:=o.1) rfl ?_)
       rw [hx]
       refine Def.bind (Def.of ((V5 v o.1 (by omega) hSW.ris).trans (congrArg some hf)) ?_)
       refine Def.bind (Def.of (a:=rest) ?_ ?_)
       ·simp only
        rw [abL,if_pos ⟨by omega,by simp only [List.length_cons];omega,by omega⟩]
        simp
       ·refine Def.bind (.ret ?_)
        refine Def.bind (Def.app (by simp only [List.length_cons,List.length_nil];omega) ?_)
        refine Def.Y9 (l:=lnk o) (fun s:Int×(D7×(Unit×((List Int)×((List Int)×Unit))))×(List Int×List (Int×Int))=>s.1) (fun q s=>s.2.1.1=v∧Jc (objs v) v.2.2.1 gone o.1 q s.2.2.1 s.2.2.2) (by have:=hSW.lns o ho;omega) rfl ⟨hx,hM.start⟩ (fun q z post s e hs hi=>?_) (fun s hs hi=>.done (.turn ⟨⟨hi.1,hi.2.fin hSW hM ho⟩,?_⟩))
        ·refine Def.bind' (by rw [hs];exact Def.at e) (fun z' hz=>?_)
         subst hz
         obtain ⟨i1,i2⟩:=hi
         obtain ⟨k1,k2⟩:=i2.step hSW hM ho e
         have hc1:=cnt_le (l:=(objs v).filter fun d=>!gone.contains d.1) (x:=z')
         have hc2:=Ja (l:=(objs v).filter fun d=>!gone.contains d.1) (fun d hd=>hSW.lns d (List.mem_filter.1 hd).1)
         have hc3:((objs v).filter fun d=>!gone.contains d.1).length≤(objs v).length:=List.length_filter_le _ _
         have hc4:=i2.map z'
         have hw2:IntKind.wrap .i64 (bK 0 s.2.2.2 z' - 1)=bK 0 s.2.2.2 z' - 1:=wrap_i64 (by omega) (by omega)
         rw [hw2]
         have hg:bK 0 (jV s.2.2.2 z' (bK 0 s.2.2.2 z' - 1)) z' = bK 0 s.2.2.2 z' - 1:=by rw [qx,if_pos rfl]
         rw [hg]
         have htl:=Gv i2.nod fun x hx=>(i2.thg x hx).1
         simp only [List.length_append] at htl
         refine Def.ite (fun h8=>?_) (fun h8=>?_)
         ·have h8:bK 0 s.2.2.2 z' - 1=0:=by simpa using h8
          rw [if_pos h8] at k2
          refine Def.bind (.ret ?_)
          exact Def.bind (Def.app (by simp only [List.length_cons,List.length_nil];omega) (.turn ⟨by rw [hs],i1,k2⟩))
         ·have h8 : ¬ bK 0 s.2.2.2 z' - 1=0:=by simpa using h8
          rw [if_neg h8] at k2
          exact .turn ⟨by rw [hs],i1,k2⟩
        ·simp only [List.length_append,List.length_cons,List.length_nil];omega
   ·have hg:bK 0 (jV m b (bK 0 m b - 1)) b=bK 0 m b - 1:=by rw [qx,if_pos rfl]
    rw [hg]
    refine Def.ite (fun h9=>?_) (fun h9=>?_)
    ·refine Def.bind (.ret ?_)
     refine Def.bind (Def.app (by simp) (hj9 _ ?_))
     have h9:bK 0 m b - 1=0:=by simpa using h9
     rw [if_pos h9];rfl
    ·have h9 : ¬ bK 0 m b - 1=0:=by simpa using h9
     exact hj9 _ (by rw [if_neg h9])
 ·simp only [ay]
  refine Def.Y9 (l:=objs w) (fun s:Int×List (Int×Int)=>s.1) (fun pre s=>∀ x,bK 0 s.2 x=(cnt pre x:Nat)) (by omega) rfl (by simp [cnt,bK]) (fun pre u post s e hs hi=>?_) (fun s hs hi=>.done (hj5 s.2 hi))
  refine Def.bind' (by rw [hs];exact Def.at e) (fun u' hu=>?_)
  subst hu
  have hum:u' ∈ objs w:=by rw [e];simp
  have hpre:pre.length≤20:=by rw [e] at hfew;simp at hfew;omega
  have hfp:=Ja (l:=pre) (fun o ho=>hw.lns o (by rw [e];exact List.mem_append_left _ ho))
  have h70:=hw.lns u' hum
  refine Def.Y9 (l:=lnk u') (fun s:Int×List (Int×Int)=>s.1) (fun q s=>∀ x,bK 0 s.2 x=((cnt pre x+q.count x:Nat):Int)) (by omega) rfl (by simpa using hi) (fun q z post' s' e' hs' hi'=>?_) (fun s' hs' hi'=>.done (.turn ⟨by rw [hs],fun x=>?_⟩))
  ·refine Def.bind' (by rw [hs'];exact Def.at e') (fun z' hz=>?_)
   subst hz
   have hq:q.count z' ≤ q.length:=List.count_le_length
   have hql:q.length≤70:=by rw [e'] at h70;simp at h70;omega
   have hcl:=cnt_le (l:=pre) (x:=z')
   refine .turn ⟨by rw [hs'],fun x=>?_⟩
   rw [qx,hi',wrap_i64 (by omega) (by omega)]
   by_cases hx:x=z'
   ·subst hx;rw [if_pos rfl];simp [List.count_append];omega
   ·rw [if_neg hx,hi',List.count_append]
    simp [List.count_cons,Ne.symm hx,fun h:z' = x=>hx h.symm]
  ·rw [hi' x,oZ,Ed]
end Go.Fn
namespace Go.Fn
open Go Go.Ab Go.Tx
theorem abw {l:List D6} {root:Int} (h:Whole l root):SW l root∧∀ o∈l,o.1≠root→∃ d∈l,o.1∈lnk d:=by
 refine ⟨⟨h.few,h.ids,h.lns,h.lnk,h.has,fun o ho hx=>?_⟩,fun o ho hr=>?_⟩
 ·obtain ⟨r,hr,e⟩:=h.top
  have h0:=(Gh h hr e).1
  have:o.1∈aI l r.1:=bZ.2 ⟨o,ho,by rw [e];exact hx,rfl⟩
  rw [h0] at this;cases this
 ·have h0:=held h ho hr
  cases hh:aI l o.1 with
  | nil=>exact absurd hh h0
  | cons d ds =>
   have:d∈aI l o.1:=by rw [hh];exact List.mem_cons_self
   obtain ⟨e,he,h3,_⟩:=bZ.1 this
   exact ⟨e,he,h3⟩
theorem Nv {o:D6} {l:List Int} (h:OkO o) (hl:l.length≤big):OkO (dH o l):=⟨h.lab,hl,h.dat,h.mps,h.clr,h.alr,h.lbs,h.gra,h.gcl,h.inn,h.out⟩
end Go.Fn
namespace Go.Fn
open Go Go.Ab Go.Tx
def unO (a b:Int) (o:D6):D6:=if o.1=a then dH o ((lnk o).filter (· != b)) else o
def unl (l:List D6) (a b:Int):List D6:=l.map (unO a b)
theorem lq (a b:Int) (o:D6):(unO a b o).1=o.1:=by unfold unO;split <;> rfl
theorem rD {a b:Int} {o:D6} {x:Int}:x∈lnk (unO a b o)↔x∈lnk o∧¬ (o.1=a∧x=b):=by
 unfold unO
 by_cases h:o.1=a
 ·rw [if_pos h]
  show x∈List.filter _ _↔_
  simp [h]
 ·rw [if_neg h];simp [h]
theorem RS (a b:Int) (o:D6):(lnk (unO a b o)).length≤(lnk o).length:=by
 unfold unO
 split
 ·exact List.length_filter_le _ _
 ·exact Nat.le_refl _
theorem KN {a b:Int} {o:D6} (h:(lnk o).Pairwise (· < ·)):(lnk (unO a b o)).Pairwise (· < ·):=by
 unfold unO
 split
 ·exact h.filter _
 ·exact h
theorem nD {l:List D6} {a b:Int} {x:D6}:x∈unl l a b↔∃ o∈l,unO a b o=x:=by simp [unl]
theorem zF {l:List D6} {a b x:Int}:(∃ o∈unl l a b,o.1=x)↔∃ o∈l,o.1=x:=by
 constructor
 ·rintro ⟨o,ho,rfl⟩
  obtain ⟨d,hd,rfl⟩:=nD.1 ho
  exact ⟨d,hd,(lq ..).symm⟩
 ·rintro ⟨o,ho,rfl⟩
  exact ⟨_,nD.2 ⟨o,ho,rfl⟩,lq ..⟩
theorem SW.unl {l:List D6} {root:Int} (h:SW l root) (a b:Int):SW (unl l a b) root:=by
 refine ⟨by simpa [Fn.unl] using h.few,?_,fun o ho=>?_,fun o ho=>?_,fun o ho x hx=>?_,fun o ho hx=>?_⟩
 ·unfold Fn.unl
  rw [List.pairwise_map]
  exact h.ris.imp fun hab=>by rw [lq,lq];exact hab
 ·obtain ⟨d,hd,rfl⟩:=nD.1 ho
  have:=h.lns d hd;have:=RS a b d;omega
 ·obtain ⟨d,hd,rfl⟩:=nD.1 ho
  exact KN (h.lnk d hd)
 ·obtain ⟨d,hd,rfl⟩:=nD.1 ho
  exact zF.2 (h.has d hd x (rD.1 hx).1)
 ·obtain ⟨d,hd,rfl⟩:=nD.1 ho
  exact h.top d hd (rD.1 hx).1
theorem Vm {l:List D6} {root:Int} (h:SW l root) {o:D6} (ho:o∈l) (b:Int):tY l (dH o ((lnk o).filter (· != b)))=unl l o.1 b:=by
 obtain ⟨A,B,hA,hP⟩:=Gw (o':=dH o ((lnk o).filter (· != b))) h.ris ho rfl
 have hr:=h.ris
 rw [hP]
 rw [hA,List.pairwise_append,List.pairwise_cons] at hr
 have hid:∀ {C:List D6},(∀ d∈C,d.1≠o.1)→C.map (unO o.1 b)=C:=fun {C} hC=>by
  conv=>rhs;rw [← List.map_id C]
  exact List.map_congr_left fun d hd=>by unfold unO;rw [if_neg (hC d hd)];rfl
 conv=>rhs;rw [hA]
 unfold unl
 rw [List.map_append,List.map_cons,hid fun d hd=>by have:=hr.2.2 d hd o List.mem_cons_self;omega,hid fun d hd=>by have:=hr.2.1.1 d hd;omega]
 unfold unO
 rw [if_pos rfl]
def Held (l:List D6) (root:Int):Prop:=∀ o∈l,o.1≠root→∃ d∈l,o.1∈lnk d
structure uV (l:List D6) (root a b:Int) (L:List Int) (l' : List D6):Prop where
 one:∃ o∈l,o.1=a∧b∈lnk o
 goes:Goes (unl l a b) root L l'
 clo:Clo (unl l a b) root L
theorem Nw {w:D7} {a b:Int} (hw:SW (objs w) w.2.2.1):(Za w a b=(w,[],1)∧¬ ∃ o∈objs w,o.1=a∧b∈lnk o)∨∃ L l',Za w a b=(bn w l',L,0)∧uV (objs w) w.2.2.1 a b L l':=by
 unfold Za
 by_cases hc:(bM (objs w) a).2=false∨b ∉ lnk (bM (objs w) a).1
 ·rw [if_pos hc]
  refine .inl ⟨rfl,?_⟩
  rintro ⟨o,ho,rfl,hb⟩
  rw [cu hw.ris o ho] at hc
  rcases hc with hc | hc
  ·cases hc
  ·exact hc hb
 ·rw [if_neg hc]
  have hf:(bM (objs w) a).2=true:=by
   cases h9:(bM (objs w) a).2 with
   | true=>rfl
   | false=>exact absurd (.inl h9) hc
  have hb:b∈lnk (bM (objs w) a).1:=Classical.byContradiction fun h9=>hc (.inr h9)
  obtain ⟨ho,e⟩:=jg hf
  have hp:=Vm hw ho b
  rw [e] at hp
  have hlen:(tY (objs w) (dH (bM (objs w) a).1 ((lnk (bM (objs w) a).1).filter (· != b)))).length≤1024:=by
   rw [hp];have:=hw.few;simp [unl];omega
  have hv:U4 w (dH (bM (objs w) a).1 ((lnk (bM (objs w) a).1).filter (· != b)))=bn w (unl (objs w) a b):=by
   unfold U4;rw [if_pos hlen,hp]
  simp only [hv]
  obtain ⟨g1,g2⟩:=zD (root:=w.2.2.1) (unl (objs w) a b).length (unl (objs w) a b) [] (KL _ _) (Nat.le_refl _)
  exact .inr ⟨_,_,rfl,⟨_,ho,e,hb⟩,g1,KJ g1 g2⟩
namespace uV
variable {l:List D6} {root a b:Int} {L:List Int} {l' : List D6}
theorem mem (h:uV l root a b L l') {x:D6}:x∈l' ↔ x∈unl l a b∧x.1 ∉ L:=by rw [h.goes.left];simp
theorem gone (h:uV l root a b L l') {x:Int} (hx:x∈L) {o:D6} (ho:o∈unl l a b) (hl:x∈lnk o):o.1∈L:=by
 obtain ⟨A,h1,_,h3⟩:=h.goes.ord
 obtain ⟨pre,post,e⟩:=List.append_of_mem ((h1 x).2 hx)
 have:=h3 pre x post e o ho hl
 exact (h1 _).1 (by rw [e];simp [this])
theorem thing (h:uV l root a b L l') {x:Int} (hx:x∈L):(∃ o∈l,o.1=x)∧x≠root:=by
 obtain ⟨A,h1,h2,_⟩:=h.goes.ord
 obtain ⟨h3,h4⟩:=h2 x ((h1 x).2 hx)
 exact ⟨zF.1 h3,h4⟩
theorem none (h:uV l root a b L l') {x:Int} (hx:x∈L):∀ o∈l',x ∉ lnk o:=fun o ho hl=>by
 obtain ⟨h1,h2⟩:=h.mem.1 ho
 exact h2 (h.gone hx h1 hl)
theorem sw (h:uV l root a b L l') (hw:SW l root):SW l' root:=by
 have hu:=hw.unl a b
 refine ⟨?_,?_,fun o ho=>hu.lns o (h.mem.1 ho).1,fun o ho=>hu.lnk o (h.mem.1 ho).1,fun o ho x hx=>?_,fun o ho=>hu.top o (h.mem.1 ho).1⟩
 ·rw [h.goes.left]
  exact Nat.le_trans (List.length_filter_le _ _) hu.few
 ·rw [h.goes.left];exact hu.ris.filter _
 ·obtain ⟨y,hy,rfl⟩:=hu.has o (h.mem.1 ho).1 x hx
  exact ⟨y,h.mem.2 ⟨hy,fun hc=>h.none hc o ho hx⟩,rfl⟩
theorem held (h:uV l root a b L l'):Held l' root:=fun o ho hr=>by
 obtain ⟨h1,h2⟩:=h.mem.1 ho
 obtain ⟨d,hd,h3,h4⟩:=h.clo o h1 hr h2
 exact ⟨d,h.mem.2 ⟨hd,h3⟩,h4⟩
theorem head (h:uV l root a b L l') (hh:Held l root) (hL:L≠[]):∀ o∈unl l a b,b ∉ lnk o:=by
 obtain ⟨A,h1,h2,h3⟩:=h.goes.ord
 cases A with
 | nil =>
  cases L with
  | nil=>exact absurd rfl hL
  | cons x L=>have:=(h1 x).2 (by simp);cases this
 | cons y A =>
  obtain ⟨h4,h5⟩:=h2 y (by simp)
  obtain ⟨o,ho,rfl⟩:=zF.1 h4
  obtain ⟨d,hd,hl⟩:=hh o ho h5
  have hno:∀ c∈unl l a b,o.1 ∉ lnk c:=fun c hc hx=>by
   have:=h3 [] o.1 A rfl c hc hx
   cases this
  have hb:d.1=a∧o.1=b:=Classical.byContradiction fun hn=>hno _ (nD.2 ⟨d,hd,rfl⟩) (rD.2 ⟨hl,hn⟩)
  intro c hc
  have:=hno c hc
  rwa [hb.2] at this
theorem bR (h:uV l root a b L l') (hw:SW l root):b≠root∧∃ y∈l,y.1=b:=by
 obtain ⟨o,ho,_,hb⟩:=h.one
 exact ⟨fun e=>hw.top o ho (e ▸ hb),hw.has o ho b hb⟩
theorem below (h:uV l root a b L l') (hw:SW l root) (hh:Held l root) {o:D6} (ho:o∈l) (e:o.1=b) {x:Int} (hx:x∈lnk o):(∃ y∈l',y.1=x)↔(∃ y∈l',y.1=b)∨aI l' x≠[]:=by
 have hs:=h.sw hw
 obtain ⟨hbr,hby⟩:=h.bR hw
 have hxr:x≠root:=fun hc=>hw.top o ho (hc ▸ hx)
 constructor
 ·rintro ⟨y,hy,rfl⟩
  obtain ⟨d,hd,hl⟩:=h.held y hy hxr
  refine .inr fun hc=>?_
  have:d.1∈aI l' y.1:=bZ.2 ⟨d,hd,hl,rfl⟩
  rw [hc] at this;cases this
 ·rintro (⟨y,hy,hyb⟩ | hn)
  ·have hL:L=[]:=Classical.byContradiction fun hL=>by
    obtain ⟨h1,h2⟩:=h.mem.1 hy
    obtain ⟨d,hd,_,h4⟩:=h.clo y h1 (hyb ▸ hbr) h2
    exact h.head hh hL d hd (hyb ▸ h4)
   obtain ⟨y,hy,rfl⟩:=zF (a:=a) (b:=b) |>.2 (hw.has o ho x hx)
   exact ⟨y,h.mem.2 ⟨hy,by rw [hL];simp⟩,rfl⟩
  ·cases hc:aI l' x with
   | nil=>exact absurd hc hn
   | cons d ds =>
    have:d∈aI l' x:=by rw [hc];simp
    obtain ⟨c,hc,hl,_⟩:=bZ.1 this
    exact hs.has c hc x hl
end uV
end Go.Fn
namespace Go.Fn
open Go Go.Ab Go.Tx
theorem abW:yP 100 L7.tr 7 (l7 [] ()) .bool=some true:=by kernel_rfl
theorem aay:F7=some true:=UO (n:=100) (g:=7) («as»:=[]) (rty:=.bool) (l:=L7.tr) (F:=L8.cf) (f:=fun _=>F7) L7.le () abW
theorem aaz {a b:Int} {o:D6} (h:OkO o):OkO (unO a b o):=by
 unfold unO
 split
 ·exact Nv h (Nat.le_trans (List.length_filter_le _ _) h.lnk)
 ·exact h
theorem Y1 {o:D6} (h:wfT t6 o):OkO o:=by
 obtain ⟨_,_,h1,_,_,h2,h3,h4,h5,h6,h7,h8,_⟩:=h
 obtain ⟨_,_,c1,_,_,_,_,_,c2,_,c3,_⟩:=h5
 obtain ⟨g1,g2,_⟩:=h6
 exact ⟨h1.1,h2.1,h3.1,h4.1,c1.1,c2.1,fun i=>(c3 i).1,g1.1,g2.1,h7.1,h8.1⟩
end Go.Fn
namespace Go.Fn
open Go Go.Ab Go.Tx
theorem aaA (w:D7) (hok:∀ o∈objs w,OkO o):Def (F6 w) fun b=>b=true→(objs w).length≤20∧(∀ o∈objs w,abp o)∧F10 w=some true:=by
 unfold F6
 refine Def.ite (fun h=>.ret (fun h=>by cases h)) (fun h=>?_)
 have hn:(objs w).length≤20:=by simp at h;exact_mod_cast h
 simp only [ay,eG]
 refine Def.loop (fun i:Int=>0≤i∧i≤(objs w).length∧∀ o∈(objs w).take i.toNat,abp o) (fun i:Int=>(objs w).length - i.toNat) ⟨by omega,by omega,by simp⟩ (fun i hi=>?_)
 refine Def.ite (fun h1=>?_) (fun h1=>?_)
 ·have h1:i<(objs w).length:=by simpa [objs] using h1
  refine Def.bind (Def.idx hi.1 h1 (fun o ho hm=>?_))
  refine Def.ite (fun h2=>.done (.ret (fun h=>by cases h))) (fun h2=>.turn ?_)
  have hw:IntKind.wrap .i64 (i+1)=i+1:=wrap_i64 (by omega) (by omega)
  have e:(i+1).toNat=i.toNat+1:=by omega
  rw [hw]
  refine ⟨⟨by omega,by omega,?_⟩,by omega⟩
  rw [e,List.take_add_one,ho]
  intro x hx
  rcases List.mem_append.1 hx with hx | hx
  ·exact hi.2.2 x hx
  ·simp at hx;subst hx
   simp at h2
   exact ⟨by omega,by omega,by omega,by omega⟩
 ·have h1 : ¬ i<(objs w).length:=by simpa [objs] using h1
  have e:i.toNat=(objs w).length:=by omega
  have hf:=hi.2.2
  rw [e,List.take_length] at hf
  obtain ⟨c,hc,_⟩:=Rk w hn hf hok
  have hd:Def (F10 w) fun b=>F10 w=some b:=⟨c,hc,hc⟩
  exact .done (Def.bind' hd fun b hb=>.ret fun h=>⟨hn,hf,h ▸ hb⟩)
theorem fH (a b:Int) (o:D6):unO a b o=dH o (lnk (unO a b o)):=by unfold unO;split <;> rfl
theorem Y2 {a b:Int} {o:D6} (h:Vg o):Vg (unO a b o):=by
 have hsub:∀ x∈lnk (unO a b o),x∈lnk o:=fun x hx=>(rD.1 hx).1
 have hlen:=RS a b o
 have hr:(lnk o).Pairwise (· < ·)→(lnk (unO a b o)).Pairwise (· < ·):=KN
 rw [fH]
 generalize lnk (unO a b o)=k at hsub hlen hr
 exact ⟨h.id,h.kind,h.lab,h.quo,h.own,⟨fun hk=>List.eq_nil_iff_forall_not_mem.2 fun x hx=>(by have:=hsub x hx;rw [h.alone.lnk hk] at this;simp at this),h.alone.dat,h.alone.mps,h.alone.thr,h.alone.gat,h.alone.inn,h.alone.out⟩,
  ⟨h.inner.seg,fun hk=>⟨Nat.le_trans hlen (h.inner.con hk).1,hr (h.inner.con hk).2.rise,fun x hx=>(h.inner.con hk).2.id x (hsub x hx)⟩,h.inner.spa,h.inner.thr,h.inner.gat,h.inner.dev⟩⟩
theorem BA {f:Int→Int} (h:∀ x,0≤f x):∀ l:List Int,0≤tot (l.map f)
 | []=>by simp [tot]
 | a::l=>by have:=BA h l;have:=h a;simp only [List.map_cons,tot];omega
theorem GH {f g:Int→Int}:∀ {l:List Int},(∀ x∈l,f x=g x)→tot (l.map f)=tot (l.map g)
 | [],_=>rfl
 | a::l,h=>by
  have:=GH (l:=l) fun x hx=>h x (by simp [hx])
  simp only [List.map_cons,tot,h a (by simp),this]
section
variable {w:D7} {a b:Int} {L:List Int} {l' : List D6}
structure Swp (w:D7) (a b:Int) (L:List Int) (l' : List D6):Prop where
 wp:WP w
 few:Few w
 sw:SW (objs w) w.2.2.1
 held:Held (objs w) w.2.2.1
 swept:uV (objs w) w.2.2.1 a b L l'
namespace Swp
theorem old (h:Swp w a b L l') {d:D6} (hd:d∈l'):∃ o∈objs w,d=unO a b o:=by
 obtain ⟨o,ho,e⟩:=nD.1 (h.swept.mem.1 hd).1
 exact ⟨o,ho,e.symm⟩
theorem sw' (h:Swp w a b L l'):SW l' w.2.2.1:=h.swept.sw h.sw
theorem abX (h:Swp w a b L l') {x:Int} (hx:∃ d∈l',d.1=x):vU l' x=vU (objs w) x:=by
 obtain ⟨d,hd,rfl⟩:=hx
 obtain ⟨o,ho,rfl⟩:=h.old hd
 rw [vU,vU,cu h.sw'.ris _ hd,lq,cu h.sw.ris o ho]
 simp only
 rw [fH]
theorem use (h:Swp w a b L l') {o:D6} (ho:o∈objs w) (hd:unO a b o∈l'):IW l' (unO a b o)≤IW (objs w) o:=by
 have h1:tot ((lnk (unO a b o)).map (vU l'))=tot ((lnk (unO a b o)).map (vU (objs w))):=GH fun x hx=>h.abX (h.sw'.has _ hd x hx)
 have h2:tot ((lnk (unO a b o)).map (vU (objs w)))≤tot ((lnk o).map (vU (objs w))):=by
  have hn:=fun x=>(wO h.wp.ids h.wp.snd x).1
  unfold unO
  split
  ·have:=zA (vU (objs w)) (· != b) (lnk o)
   have:=BA hn ((lnk o).filter fun x=>!(x != b))
   show tot (((lnk o).filter (· != b)).map _)≤_
   omega
  ·exact Int.le_refl _
 have h3:pages (unO a b o)=pages o:=by rw [fH];rfl
 unfold IW
 rw [h1,h3];omega
theorem hsub (h:Swp w a b L l') {x d:Int} (hd:d∈aI l' x):d∈aI (objs w) x:=by
 obtain ⟨c,hc,hx,rfl⟩:=bZ.1 hd
 obtain ⟨o,ho,rfl⟩:=h.old hc
 exact bZ.2 ⟨o,ho,(rD.1 hx).1,(lq ..).symm⟩
theorem hlen (h:Swp w a b L l') (x:Int):(aI l' x).length≤(aI (objs w) x).length :=
 ru _ _ ((Gn h.sw'.ris x).imp (fun h=>by omega)) fun _ hd=>h.hsub hd
theorem Ny (h:Swp w a b L l') {d:D6} (hd:d∈l') (hr:d.1≠w.2.2.1):aI l' d.1≠[]:=fun hc=>by
 obtain ⟨e,he,hl⟩:=h.swept.held d hd hr
 have:e.1∈aI l' d.1:=bZ.2 ⟨e,he,hl,rfl⟩
 rw [hc] at this;cases this
theorem chain (h:Swp w a b L l') {x:Int} {c:List Int} (hc:Chain (objs w) x c):(∃ d∈l',d.1=x∧d.2.1=2)→Chain l' x c:=by
 induction hc with
 | nil h0 =>
  intro _
  refine .nil (List.eq_nil_iff_forall_not_mem.2 fun d hd=>?_)
  have:=h.hsub hd
  rw [h0] at this;cases this
 | @cons x y r c h0 _ ih =>
  rintro ⟨d,hd,rfl,hk⟩
  obtain ⟨o,ho,rfl⟩:=h.old hd
  have hi:=lq a b o
  have hk' : o.2.1=2:=by rw [fH] at hk;exact hk
  have hp:=h.wp.plc o ho
  have hr:o.1≠w.2.2.1:=fun e=>by
   have:=(hp.top e).1
   rw [hi,this] at h0;cases h0
  have hlen1:(aI (objs w) o.1).length≤1:=Nat.le_of_not_lt fun hl=>(hp.one hr hl).2.1 hk'
  rw [hi] at h0 ⊢
  rw [h0] at hlen1
  have hr0:r=[]:=by simpa using hlen1
  subst hr0
  have hne:=h.Ny hd (by rw [hi];exact hr)
  rw [hi] at hne
  have hl2:=h.hlen o.1
  rw [h0] at hl2
  cases hq:aI l' o.1 with
  | nil=>exact absurd hq hne
  | cons z s =>
   rw [hq] at hl2
   have hs:s=[]:=List.eq_nil_of_length_eq_zero (by simp only [List.length_cons,List.length_nil] at hl2;omega)
   subst hs
   have hz:z=y:=by
    have:=h.hsub (x:=o.1) (d:=z) (by rw [hq];simp)
    rw [h0] at this;simpa using this
   subst hz
   refine .cons hq (ih ?_)
   obtain ⟨e,he,hl,rfl⟩:=bZ.1 (show z∈aI l' o.1 by rw [hq];simp)
   refine ⟨e,he,rfl,?_⟩
   obtain ⟨q,hq1,rfl⟩:=h.old he
   refine Classical.byContradiction fun hn=>?_
   have hn' : q.2.1≠2:=fun e=>hn (by rw [fH];exact e)
   have:=(rD.1 hl).1
   rw [(h.wp.snd q hq1).alone.lnk hn'] at this;cases this
theorem whole (h:Swp w a b L l'):WP (bn w l') where
 time:=h.wp.time
 few:=by show l'.length≤100;have:=h.sw'.few;omega
 ids:=h.sw'.ris
 snd:=fun d hd=>by
  obtain ⟨o,ho,rfl⟩:=h.old hd
  exact Y2 (h.wp.snd o ho)
 has:=fun d hd x hx=>by
  obtain ⟨y,hy,e⟩:=h.sw'.has d hd x hx
  obtain ⟨o,ho,rfl⟩:=h.old hd
  obtain ⟨z,hz,e2,hp⟩:=h.wp.has o ho x (rD.1 hx).1
  obtain ⟨q,hq,rfl⟩:=h.old hy
  refine ⟨_,hy,e,?_⟩
  have:q=z:=by
   have e1:=cu h.sw.ris q hq
   have e3:=cu h.sw.ris z hz
   rw [lq] at e
   rw [e,← e2,e3] at e1
   exact (congrArg Prod.fst e1).symm
  subst this
  rw [fH,fH a b q]
  exact hp
 use:=fun d hd hk=>by
  obtain ⟨o,ho,rfl⟩:=h.old hd
  have h1:=h.use ho hd
  have h2:=h.wp.use o ho (by rw [fH] at hk;exact hk)
  have h3:quo (unO a b o)=quo o:=by rw [fH]
  rw [h3]
  show IW l' _≤_
  omega
 root:=by
  obtain ⟨r,hr,e⟩:=h.wp.root
  refine ⟨unO a b r,h.swept.mem.2 ⟨nD.2 ⟨r,hr,rfl⟩,fun hc=>?_⟩,by rw [lq];exact e⟩
  exact (h.swept.thing hc).2 (by rw [lq];exact e)
 plc:=fun d hd=>by
  obtain ⟨o,ho,rfl⟩:=h.old hd
  have hp:=h.wp.plc o ho
  have hk:(unO a b o).2.1=o.2.1:=by rw [fH]
  have hq:quo (unO a b o)=quo o:=by rw [fH]
  have hf:(unO a b o).2.2.2.2.1=o.2.2.2.2.1:=by rw [fH]
  have hi:=lq a b o
  have hr0:(bn w l').2.2.1=w.2.2.1:=rfl
  refine ⟨fun e=>?_,fun e=>?_,fun e h1=>?_,fun e h1=>?_⟩
  ·rw [hi] at e ⊢
   obtain ⟨p1,p2,p3⟩:=hp.top e
   refine ⟨List.eq_nil_iff_forall_not_mem.2 fun x hx=>?_,hk.trans p2,by rw [hq];exact p3⟩
   have:=h.hsub hx
   rw [p1] at this;cases this
  ·exact h.Ny hd e
  ·rw [hi] at e h1
   obtain ⟨p1,p2,p3⟩:=hp.one e (Nat.lt_of_lt_of_le h1 (h.hlen o.1))
   rw [hk,hf]
   exact ⟨p1,p2,p3⟩
  ·rw [hk] at h1
   have e':=e
   rw [hi] at e
   obtain ⟨c,hc,hl⟩:=hp.up e h1
   refine ⟨c,?_,hl⟩
   rw [hi]
   exact h.chain hc ⟨_,hd,hi,hk.trans h1⟩
 spn:=fun t ht hk o ho=>by
  obtain ⟨t',ht',rfl⟩:=h.old ht
  obtain ⟨o',ho',rfl⟩:=h.old ho
  have e1:∀ o:D6,spn (unO a b o)=spn o:=fun o=>by rw [fH]
  have e2:∀ o:D6,(unO a b o).2.1=o.2.1:=fun o=>by rw [fH]
  have:=h.wp.spn t' ht' ((e2 t').symm.trans hk) o' ho'
  show F45 w.2.1 (spn (unO a b t')) (unO a b o').1≠some true∧((unO a b o').2.1=4→(unO a b o').1≠(unO a b t').1→F46 (spn (unO a b t')) (spn (unO a b o'))=some true)
  rw [e1 t',e1 o',e2 o',lq,lq]
  exact this
theorem abx (h:Swp w a b L l'):Few (bn w l'):=by
 refine ⟨by show l'.length≤100;have:=h.sw'.few;omega,fun o ho=>by have:=h.sw'.lns o ho;omega,fun d hd=>?_,fun d hd=>?_,fun d hd=>?_⟩
 ·obtain ⟨o,ho,rfl⟩:=h.old hd
  have:=h.few.dat o ho
  rw [fH];exact this
 ·obtain ⟨o,ho,rfl⟩:=h.old hd
  exact aaz (h.few.ok o ho)
 ·obtain ⟨o,ho,rfl⟩:=h.old hd
  have:=h.few.spn o ho
  rw [fH];exact this
theorem fit (h:Swp w a b L l'):F10 (bn w l')=some true:=by
 obtain ⟨c,hc,hq⟩:=Ry h.abx
 rw [hc,hq.2 ((RD h.abx).2 h.whole)]
theorem count (h:Swp w a b L l'):l'.length+L.length=(objs w).length:=by
 have h1:L.length≤((unl (objs w) a b).filter fun o=>L.contains o.1).length:=by
  have:=ru L (((unl (objs w) a b).filter fun o=>L.contains o.1).map (·.1)) (h.swept.goes.rise.imp (fun h=>by omega)) (fun x hx=>by
   obtain ⟨⟨o,ho,e⟩,_⟩:=h.swept.thing hx
   obtain ⟨d,hd,e2⟩:=zF (a:=a) (b:=b) |>.2 ⟨o,ho,e⟩
   exact List.mem_map.2 ⟨d,List.mem_filter.2 ⟨hd,by simpa [e2] using hx⟩,e2⟩)
  simpa using this
 have h2:((unl (objs w) a b).filter fun o=>L.contains o.1).length≤L.length:=by
  have hp:=h.sw.unl a b
  have hr:((((unl (objs w) a b).filter fun o=>L.contains o.1)).map (·.1)).Nodup:=by
   have:(((unl (objs w) a b).filter fun o=>L.contains o.1).map (·.1)).Pairwise (· < ·):=by
    rw [List.pairwise_map];exact hp.ris.filter _
   exact this.imp (fun h=>by omega)
  have:=ru _ L hr (fun x hx=>by
   obtain ⟨o,ho,rfl⟩:=List.mem_map.1 hx
   simpa using (List.mem_filter.1 ho).2)
  simpa using this
 have h3:∀ (l:List D6) (p:D6→Bool),(l.filter fun o=>!p o).length+(l.filter p).length=l.length:=fun l p=>by
  induction l with
  | nil=>rfl
  | cons x l ih=>cases hx:p x <;> simp [List.filter_cons,hx] <;> omega
 have h4:=h3 (unl (objs w) a b) fun o=>L.contains o.1
 have h5:(unl (objs w) a b).length=(objs w).length:=by simp [unl]
 rw [h.swept.goes.left];omega
theorem room (h:Swp w a b L l') {o:D6} (ho:o∈objs w) (hd:unO a b o∈l'):F13 w o=some (quo o - IW (objs w) o)∧F13 (bn w l') (unO a b o)=some (quo o - IW l' (unO a b o)):=by
 have one:∀ {v:D7} {d:D6},WP v→Few v→d∈objs v→F13 v d=some (quo d - IW (objs v) d):=fun {v d} hv hF hd=>by
  have hN:=((RD hF).2 hv).fit
  have hn:=nC hF hN
  have hD:=tK hF hN d hd
  rw [aaj v d hn ⟨hD.lns,hD.lnk,hD.dat,Nat.le_trans hD.lab (by decide),hD.fit⟩,aad]
  obtain ⟨u1,u2,u3⟩:=uT (wO hv.ids hv.snd) (hF.dat d hd) (hF.lns d hd)
  have:=(hv.snd d hd).quo
  rw [u1,wrap_i64 (by omega) (by omega)]
 have hq:quo (unO a b o)=quo o:=by rw [fH]
 refine ⟨one h.wp h.few ho,?_⟩
 have:=one h.whole h.abx (d:=unO a b o) hd
 rw [hq] at this
 exact this
end Swp
end
end Go.Fn
namespace Go.Fn
open Go Go.Ab Go.Tx
theorem aaB {o:D6} (h:wfT t6 o):0≤(spn o).1:=by
 obtain ⟨_,_,_,_,_,_,_,_,h5,_⟩:=h
 obtain ⟨_,_,_,_,_,_,_,_,_,c,_⟩:=h5
 have h1:inR .u64 (spn o).1=true:=c.1
 simp [inR] at h1
 omega
theorem aby (w:D7) (a b:Int) (hok:∀ o∈objs w,OkO o) (hsp:∀ o∈objs w,0≤(spn o).1):F3 w a b=some true:=by
 obtain ⟨f,h1,h2⟩:=aaA w hok
 unfold F3
 rw [h1,Option.bind_some,aay]
 cases f with
 | false=>simp only [Bool.not_false,if_true,Option.bind_some]
 | true =>
  obtain ⟨hn,hfew,h10⟩:=h2 rfl
  have hF:Few w:=⟨by omega,fun o ho=>Nat.le_trans (hfew o ho).2.1 (by decide),fun o ho=>Nat.le_trans (hfew o ho).2.2.1 (by decide),hok,hsp⟩
  obtain ⟨c,hc,hq⟩:=Rk w hn hfew hok
  rw [h10] at hc;cases hc
  obtain ⟨hSW,Ny⟩:=abw (hq rfl).1
  obtain ⟨c,hc,hq⟩:=Ry hF
  rw [h10] at hc;cases hc
  have hW:=(RD hF).1 (hq.1 rfl)
  have hb:(1000:Nat)≤big:=by decide
  simp only [Bool.not_true,Bool.false_eq_true,if_false,abv w a b hSW Ny,Option.bind_some]
  rcases Nw (a:=a) (b:=b) hSW with ⟨e,_⟩ | ⟨K,l',e,hs⟩
  ·rw [e]
   have k1:=YA w (by omega) hok
   simp only [k1,Option.bind_some]
   rfl
  ·have h:Swp w a b K l':=⟨hW,hF,hSW,Ny,hs⟩
   have hs':=h.sw'
   have hcnt:=h.count
   have hl:(objs w).length≤1000:=by omega
   have hk:∀ o∈objs w,(lnk o).length≤1000:=fun o ho=>by have:=hSW.lns o ho;omega
   have hl' : (objs (bn w l')).length≤1000:=by show l'.length≤1000;have:=hs'.few;omega
   have hk' : ∀ o∈objs (bn w l'),(lnk o).length≤1000:=fun o ho=>by have:=hs'.lns o ho;omega
   have e0:objs (bn w l')=l':=rfl
   have hlen:IntKind.wrap .i64 (((List.length (objs (bn w l')):Nat):Int)+((List.length K:Nat):Int))=((objs w).length:Int):=by
    rw [e0,wrap_i64 (by omega) (by omega)];omega
   rw [e]
   simp only [bne_self_eq_false,Bool.false_eq_true,if_false]
   rw [h.fit,Option.bind_some]
   have hlen' : IntKind.wrap .i64 (((List.length (bn w l').2.2.2.1:Nat):Int)+((List.length K:Nat):Int))=((List.length w.2.2.2.1:Nat):Int):=hlen
   have hroot:(bn w l').2.2.1=w.2.2.1:=rfl
   have htime:(bn w l').1=w.1:=rfl
   simp only [eG,ay,hlen',hroot,htime,bne_self_eq_false,Bool.not_true,Bool.false_eq_true,if_false]
   refine Def.eq ?_
   refine Def.sZ (l:=K) (fun _=>True) (by omega) trivial (fun pre v post e _=>?_) (fun _=>.done ?_)
   ·have hv:v∈K:=by rw [e];simp
    obtain ⟨⟨y,hy,hyv⟩,hvr⟩:=hs.thing hv
    have hf:bM (objs w) v=(y,true):=by rw [← hyv];exact cu hSW.ris y hy
    have hg:(bM l' v).2=false:=by
     cases hq:(bM l' v).2 with
     | false=>rfl
     | true =>
      obtain ⟨h3,h4⟩:=jg hq
      exact absurd (show (bM l' v).1.1∈K by rw [h4];exact hv) (hs.mem.1 h3).2
    have hh:aI l' v=[]:=List.eq_nil_iff_forall_not_mem.2 fun d hd=>by
     obtain ⟨o,ho,hx,_⟩:=bZ.1 hd
     exact hs.none hv o ho hx
    rw [vO w v hl,Option.bind_some,hf,vO _ v hl',Option.bind_some,e0,hg,Kv _ v hl' hk',e0,hh]
    simp only [Bool.not_true,Bool.false_eq_true,if_false,Bool.not_false,Bool.true_and,Bool.and_true]
    have hlt:∀ z,(if decide ((pre.length:Int)>0)=true then aA K (IntKind.wrap .i64 ((pre.length:Int) - 1)) else some (0:Int))=some z→decide ((pre.length:Int)>0)=true→decide (z≥v)=false:=by
     intro z hz hp
     rw [if_pos hp] at hz
     have hpl:pre.length≤K.length:=by rw [e];simp
     have hp' : 0<pre.length:=by simpa using hp
     rw [wrap_i64 (by omega) (by omega),show ((pre.length:Int) - 1)=((pre.length - 1:Nat):Int) by omega,jJ] at hz
     have hzp:z∈pre:=by
      rw [e,List.getElem?_append_left (by omega)] at hz
      exact List.mem_of_getElem? hz
     have hr:=hs.goes.rise
     rw [e,List.pairwise_append] at hr
     have:=hr.2.2 z hzp v (by simp)
     simp;omega
    have hex:∃ z,(if decide ((pre.length:Int)>0)=true then aA K (IntKind.wrap .i64 ((pre.length:Int) - 1)) else some (0:Int))=some z:=by
     by_cases hp:decide ((pre.length:Int)>0)=true
     ·rw [if_pos hp]
      have hpl:pre.length<K.length:=by rw [e];simp
      have hp' : 0<pre.length:=by simpa using hp
      rw [wrap_i64 (by omega) (by omega),show ((pre.length:Int) - 1)=((pre.length - 1:Nat):Int) by omega,jJ,List.getElem?_eq_getElem (by omega)]
      exact ⟨_,rfl⟩
     ·exact ⟨0,by rw [if_neg hp]⟩
    obtain ⟨z,hz⟩:=hex
    rw [hz,Option.bind_some]
    have hfin:(if decide ((pre.length:Int)>0)=true then decide (z≥v) else false)=false:=by
     by_cases hp:decide ((pre.length:Int)>0)=true
     ·rw [if_pos hp];exact hlt z hz hp
     ·rw [if_neg hp]
    simp only [hfin,Bool.not_false,if_true,Option.bind_some,Bool.false_eq_true,if_false,List.length_nil]
    exact .turn ⟨rfl,trivial⟩
   ·refine Def.sZ (l:=l') (fun _=>True) (by have:=hs'.few;omega) trivial (fun pre v post e _=>?_) (fun _=>.done (.ret rfl))
    have hv:v∈l':=by rw [e];simp
    obtain ⟨o,ho,rfl⟩:=h.old hv
    have hi:=lq a b o
    have hf:bM (objs w) o.1=(o,true):=cu hSW.ris o ho
    obtain ⟨r1,r2⟩:=h.room ho hv
    have hu:=h.use ho hv
    simp only [hi]
    rw [vO w o.1 hl,Option.bind_some,hf]
    simp only [Bool.not_true,Bool.not_false,Bool.true_and,if_true]
    rw [r2,Option.bind_some,r1,Option.bind_some]
    have hd1:decide (quo o - IW l' (unO a b o)<quo o - IW (objs w) o)=false:=by simp;omega
    simp only [hd1,Bool.false_eq_true,if_false]
    have hrefl:=KC o (hok o ho)
    have hh12:=Kv (bn w l') o.1 hl' hk'
    have hne:o.1≠w.2.2.1→(((List.length (aI l' o.1):Nat):Int)==(0:Int))=false:=fun hr=>by
     have:=h.Ny hv (by rw [hi];exact hr)
     rw [hi] at this
     have:0<(aI l' o.1).length:=List.length_pos_iff.2 this
     simp;omega
    by_cases ha:o.1=a
    ·have hae:(o.1==a)=true:=by simpa using ha
     have hu1:unO a b o=dH o ((lnk o).filter (· != b)):=by unfold unO;rw [if_pos ha]
     have hone:b∈lnk o:=by
      obtain ⟨q,hq,e1,e2⟩:=hs.one
      have:=cu hSW.ris q hq
      rw [e1,← ha,hf] at this
      have:o=q:=congrArg Prod.fst this
      rw [this];exact e2
     have hcn:IntKind.wrap .i64 (((List.length (unO a b o).2.2.2.2.2.1:Nat):Int)+1)=((List.length o.2.2.2.2.2.1:Nat):Int):=by
      have h70:=hSW.lns o ho
      have h7:=uU (hSW.lnk o ho) b
      rw [if_pos hone] at h7
      have h8:((lnk o).filter (· != b)).length+(lnk o).count b=(lnk o).length:=by
       have:∀ l:List Int,(l.filter (· != b)).length+l.count b=l.length:=fun l=>by
        induction l with
        | nil=>rfl
        | cons x l ih =>
         by_cases hx:x=b
         ·subst hx;simp [List.filter_cons,List.count_cons];omega
         ·simp [List.filter_cons,List.count_cons,hx];omega
       exact this _
      rw [hu1]
      show IntKind.wrap .i64 ((((lnk o).filter (· != b)).length:Int)+1)=((lnk o).length:Int)
      rw [wrap_i64 (by omega) (by omega)];omega
     have hback:dH (unO a b o) o.2.2.2.2.2.1=o:=by rw [hu1]
     simp only [hae,if_true,hcn,bne_self_eq_false,Bool.false_eq_true,if_false,hback]
     rw [hrefl,Option.bind_some]
     by_cases hr:o.1=w.2.2.1
     ·simp only [hr,bne_self_eq_false,Bool.not_true,Bool.not_false,Bool.false_and,Bool.and_false,Bool.false_eq_true,if_false,Option.bind_some]
      exact .turn ⟨rfl,trivial⟩
     ·have hr' : (o.1 != w.2.2.1)=true:=by simpa using hr
      simp only [hr',Bool.not_true,Bool.not_false,Bool.true_and,Bool.and_true,if_true,hh12,Option.bind_some,Bool.false_eq_true,if_false]
      rw [e0,hne hr]
      simp only [Bool.false_eq_true,if_false]
      exact .turn ⟨rfl,trivial⟩
    ·have hae:(o.1==a)=false:=by simpa using ha
     have hu1:unO a b o=o:=by unfold unO;rw [if_neg ha]
     simp only [hae,Bool.false_eq_true,if_false,hu1]
     rw [hrefl,Option.bind_some]
     by_cases hr:o.1=w.2.2.1
     ·simp only [hr,bne_self_eq_false,Bool.not_true,Bool.not_false,Bool.false_and,Bool.and_false,Bool.false_eq_true,if_false,Option.bind_some]
      exact .turn ⟨rfl,trivial⟩
     ·have hr' : (o.1 != w.2.2.1)=true:=by simpa using hr
      simp only [hr',Bool.not_true,Bool.not_false,Bool.true_and,Bool.and_true,if_true,hh12,Option.bind_some,Bool.false_eq_true,if_false]
      rw [e0,hne hr]
      simp only [Bool.false_eq_true,if_false]
      exact .turn ⟨rfl,trivial⟩
theorem Y3 (w:D7) (a b:Int) (h:wfT t7 w):F3 w a b=some true:=by
 obtain ⟨_,_,_,h,_⟩:=h
 exact aby w a b (fun o ho=>Y1 (h.2 o ho)) fun o ho=>aaB (h.2 o ho)
end Go.Fn
namespace Go.Fn
set_option maxRecDepth 100000
open Go Go.Ab Go.Tx
theorem law3 {st:tX [t7,(.int .u64),(.int .u64)]} (h:bW (l7 [t7,(.int .u64),(.int .u64)] st)→F3 st.1 st.2.1 st.2.2=some true):kR Go.Proofs.Try.prog 3 ((l7 [t7,(.int .u64),(.int .u64)] st).map Val.d) [.b true] :=
 ZW L13 pm 3 [t7,(.int .u64),(.int .u64)] .bool (fun st=>F3 st.1 st.2.1 st.2.2) [(3,20,[.calm (.range 11)])] [(1,[76],[],[],[],[]),(2,[122],[],[],[],[])] [] au (fun st=>by kernel_rfl) (by kernel_rfl) h
end Go.Fn
