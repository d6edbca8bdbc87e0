import Derived.Test.YtleeccmcgophfaaPI
import Derived.Shelf.Spec.SlicesInsertGrow
import Derived.Test.YtleeccmcgophfaaPC
import Derived.Shelf.SlicesE.Delete
import Derived.Test.YtleeccmcgophfaaProg
set_option linter.all false
namespace Go.InsK
open Go Go.Proofs Go.RowKit Go.Lib
variable {P:Program}
theorem tu (w:World) (dT sT ty elem:TypeId) (b o dLen dCap:Nat) (a:Addr) (sLen sCap sz:Nat) (cs:List Value)
  (hu:P.underlying dT=some (.slice elem)) (hs:(P.info? elem).map (·.size)=some sz) (hn:cs.length=Nat.min sLen dLen * sz)
  (hsrc:∀ j v,cs[j]? = some v→w.cell? (a.add j)=some v) (hc:∀ j,j<cs.length→(w.cell? ⟨b,o+j,none⟩).isSome=true) (hf:∀ j,j<cs.length→w.frozen? ⟨b,o+j,none⟩=false) (h1:∀ v∈cs,v.oneCell' = true) :
  (Builtin.copy_ #[dT,sT] ty #[.slice (some ⟨b,o,none⟩) dLen dCap,.slice (some a) sLen sCap]).run P w = .ok (goInt (Nat.min sLen dLen)) (w.setCells b o cs):=by
 have hl:=run_loadCells_list (P:=P) w a cs hsrc
 have hst:=run_storeCells_cells (P:=P) b o cs 0 w (by simpa using hc) (by simpa using hf) h1
 cases hq:P.info? elem with
 | none=>simp [hq] at hs
 | some i =>
  have hi:i.size=sz:=by simpa [hq] using hs
  simp [Builtin.copy_,run_underlying hu,Builtin.lenOf,Builtin.firstCells,sizeOf,typeInfo,hq,hi,← hn,hl,hst]
theorem Gf (w:World) (tS tR e:TypeId) (ht:P.underlying tS=some (.slice e)) (size:Nat) (hz:∀ w,(Go.sizeOf e).run P w = .ok size w)
  (a b:Addr) (la ca lb cb:Nat) (hne:a.block≠b.block) (tA tB:TypeId) (kA kB:Nat)
  (hsa:w.shape? a.block=some (tA,kA)) (hsb:w.shape? b.block=some (tB,kB)) (hkA:kA≠0)
  (hfb:w.frozen? b=false) (hfe:w.frozen? { block:=b.block,off:=kB }=false) :
  (Extern.SlicesOverlaps.overlaps #[tS,tS] #[tR] #[.slice (some a) la ca,.slice (some b) lb cb]).run P w = .ok (.bool false) w:=by
 have hnb:(a.block != b.block)=true:=by simpa using hne
 have hnb' : (a.block==b.block)=false:=by simpa using hne
 change Sem.run P (α:=Value) (do
  let some t:=(#[tS,tS]:Array TypeId)[0]? | stuck "slices.overlaps: no parameter types"
  let .slice elem ← underlying t | stuck "slices.overlaps: slice type expected"
  let size ← sizeOf elem
  match (some a:Option Addr),(some b:Option Addr) with
  | some a,some b =>
   if la=0∨lb=0∨size=0 then pure (Value.bool false)
   else if a.block != b.block&&(← frozen a)&&(← frozen b) then unsupported .addressObserved
   else do
    if a.block != b.block then do
     noView a;noView b
     if ← mayBeOne a b then return Value.bool ((← choose (.extern "sameAddr.stringBytes" 2))==1)
    pure (Value.bool (a.block==b.block&&a.off<b.off+lb * size&&b.off<a.off+la * size))
  | _,_=>pure (Value.bool false)) w=_
 by_cases h0:la=0∨lb=0∨size=0
 ·simp [run_underlying ht,hz,h0]
 ·cases kA with
  | zero=>exact absurd rfl hkA
  | succ kA =>
   cases h1:w.frozen? a
   ·cases h2:w.frozen? { block:=a.block,off:=kA+1 } <;> simp [run_underlying ht,hz,h0,hnb,hnb',frozen,noView,viewAt,mayBeOne,stringish,shape,Sem.run,hsa,hsb,hfb,hfe,h1,h2]
   ·simp [run_underlying ht,hz,h0,hnb,hnb',frozen,noView,viewAt,mayBeOne,stringish,shape,Sem.run,hsa,hsb,hfb,hfe,h1]
end Go.InsK
namespace Go.Ab
open Go Go.RowKit
variable {P:Program}
theorem IQ {α:Type} [Inhabited α] (enc:α→Value) (w:World) (b off:Nat) (d:Array α) :
  (∀ k,k≠b→(Sort.putRow enc w b off d).heap[k]? = w.heap[k]?)∧∀ cs T,w.heap[b]? = some (.cells cs T (0,0))→(Sort.putRow enc w b off d).heap[b]? = some (.cells (Sort.putCells enc off d cs) T (0,0)):=by
 constructor
 ·intro k hk
  simp only [Sort.putRow,Sort.mapBlock,Array.getElem?_modify,if_neg (fun h=>hk (Eq.symm h))]
 ·intro cs T h
  simp [Sort.putRow,Sort.mapBlock,Array.getElem?_modify,h,Sort.onCells]
abbrev MX:={ v:Value // v.oneCell' = true }
theorem Lu.of {ρ:Go.Shelf.Ren} (L:Go.Proofs.SlLaysE.n45 P ρ) {zv:Value} (hz:zv.oneCell' = true) (v23:∀ w,(zeroValue (ρ.t 23)).run P w = .ok zv w) {i0:TypeInfo} (hi0:P.info? (ρ.t 23)=some i0) (hz1:i0.size=1):Lu P (ρ.f 45) (ρ.t 23):=by
 refine ⟨by simp [tsz,hi0,hz1],fun b off c i j vs w hcell h1 hcap hm hij hj=>?_⟩
 have _:Inhabited MX:=⟨⟨zv,hz⟩⟩
 obtain ⟨enc,henc⟩:∃ enc:MX→Value,enc=Subtype.val:=⟨_,rfl⟩
 obtain ⟨d,hd⟩:∃ d:List MX,d=vs.attachWith (fun v:Value=>v.oneCell' = true) h1:=⟨_,rfl⟩
 have hdl:d.length=vs.length:=by rw [hd];simp
 have hdm:d.map enc=vs:=by rw [hd,henc];exact List.attachWith_map_subtype_val (p:=fun v:Value=>v.oneCell' = true) h1
 have hget:∀ (l:List MX) (k:Nat) (hk:k<l.length),some (enc l.toArray[k]!)=(l.map enc)[k]?:=fun l k hk=>by
  rw [getElem!_pos l.toArray k (by simpa using hk),List.getElem?_map,List.getElem?_eq_getElem hk]
  simp
 have hH:Sort.Holds enc w b off d.toArray:=fun k hk=>by
  have hk' : k<vs.length:=by simpa [hdl] using hk
  obtain ⟨g1,g2⟩:=hcell k hk'
  refine ⟨?_,g2⟩
  rw [g1,hget d k (by omega),hdm,List.getElem?_eq_getElem hk']
 have hC:=Go.Proofs.AnyE.slices_Delete L enc (fun x=>by rw [henc];exact x.2) (⟨zv,hz⟩:MX) (by rw [henc];exact v23) i0 hi0 hz1 b off c i j d.toArray w hH (by simpa [hdl] using hcap) hm hij (by simpa [hdl] using hj)
 simp only [List.size_toArray,hdl] at hC
 refine hC.mono ?_
 rintro e w' ⟨rfl,q,rfl⟩
 obtain ⟨D,hD⟩:∃ D:List MX,D=d.take i++d.drop j++List.replicate (j - i) ⟨zv,hz⟩:=⟨_,rfl⟩
 have hDl:D.length=vs.length:=by rw [hD];simp;omega
 rw [← hD]
 obtain ⟨k1,k2⟩:=IQ enc (Sort.ahead w q) b off D.toArray
 refine ⟨rfl,⟨rfl,rfl,rfl,by simp⟩,fun k hk=>k1 k hk,fun cs T hb=>⟨_,k2 cs T hb,by simp [Sort.putCells],fun o ho=>?_,fun k hk=>?_⟩⟩
 ·simp only [Sort.putCells,Array.getElem?_mapIdx,List.size_toArray,hDl]
  cases cs[o]? with
  | none=>rfl
  | some x=>rw [Option.map_some,if_neg (by omega)]
 ·have hkD:k<D.length:=by omega
  obtain ⟨g1,_⟩:=hcell k (by omega)
  rw [cell_of_block hb] at g1
  simp only [Sort.putCells,Array.getElem?_mapIdx,List.size_toArray,hDl,g1,Option.map_some]
  rw [if_pos ⟨by omega,by omega⟩,show off+k - off=k from by omega,hget D k hkD,hD,List.map_append,List.map_append,List.map_take,List.map_drop,hdm,List.getElem?_append_left (by simp;omega)]
end Go.Ab
namespace Go.InsK
open Go Go.Ab Go.Proofs Go.Shelf
def dlR:Ren:=⟨fun x=>if x=45 then 18 else x,fun x=>if x=22 then 28 else if x=23 then 22 else x,fun x=>x⟩
theorem abU:SlLaysE.n45 Try.prog dlR :=
 ⟨by kernel_rfl,⟨Try.f18.name,by kernel_rfl,by kernel_rfl⟩,Try.underlying0,Try.isAgg0,Try.sizeOf0,Try.zeroValue0,Try.underlying3,Try.isAgg3,Try.sizeOf3,Try.zeroValue3,
  Try.underlying4,Try.isAgg4,Try.sizeOf4,Try.zeroValue4,Try.underlying28,Try.isAgg28,Try.sizeOf28,Try.zeroValue28,Try.isAgg22,Try.sizeOf22⟩
noncomputable def Yc:TypeInfo:=(Try.prog.info? 22).get (by kernel_rfl)
theorem UY:Lu Try.prog 18 22:=Lu.of abU (zv:=.int .u64 0) rfl Try.zeroValue22 (i0:=Yc) (by kernel_rfl) (by kernel_rfl)
end Go.InsK
namespace Go.InsK
open Go Go.Proofs Go.RowKit Go.Lib
structure QW (P:Program):Prop where
 mixed:P.follows .mixedOrders=true
 f:P.funcs[54]? = some Go.Proofs.Try.f54
 fo:P.funcs[70]? = some Go.Proofs.Try.f70
 t0:P.underlying 0=some (TypeDesc.tuple #[])
 a0:∀ w,(isAgg 0).run P w = .ok false w
 z0:∀ w,(Go.sizeOf 0).run P w = .ok 1 w
 v0:∀ w,(zeroValue 0).run P w = .ok (Value.tuple #[]) w
 t3:P.underlying 3=some (TypeDesc.int IntKind.i64)
 a3:∀ w,(isAgg 3).run P w = .ok false w
 z3:∀ w,(Go.sizeOf 3).run P w = .ok 1 w
 t4:P.underlying 4=some (TypeDesc.bool)
 a4:∀ w,(isAgg 4).run P w = .ok false w
 z4:∀ w,(Go.sizeOf 4).run P w = .ok 1 w
 t24:P.underlying 23=some (.slice 49)
 a24:∀ w,(isAgg 23).run P w = .ok false w
 z24:∀ w,(Go.sizeOf 23).run P w = .ok 1 w
 z9:∀ w,(Go.sizeOf 49).run P w = .ok 51 w
 hsz:(P.info? 49).map (·.size)=some 51
variable {P:Program}
set_option maxHeartbeats 4000000 in
set_option maxRecDepth 100000 in
theorem IU (L:QW P) (b off n c i vb voff m vc:Nat) (cs vs:List Value) (w:World) (hi:i<n) (hm:0<m) (hroom:n+m≤c) (hc63:n+m≤9223372036854775807) (hvb:vb≠b)
  (hcl:cs.length=n * 51) (hvl:vs.length=m * 51)
  (hcs:∀ j v,cs[j]? = some v→w.cell? ⟨b,off+j,none⟩=some v) (hsp:∀ j,j<(n+m) * 51→(w.cell? ⟨b,off+j,none⟩).isSome=true) (hfz:∀ j,j<(n+m) * 51→w.frozen? ⟨b,off+j,none⟩=false)
  (hvs:∀ j v,vs[j]? = some v→w.cell? ⟨vb,voff+j,none⟩=some v) (h1c:∀ v∈cs,v.oneCell' = true) (h1v:∀ v∈vs,v.oneCell' = true)
  (tA tB:TypeId) (kA kB:Nat) (hsa:w.shape? vb=some (tA,kA)) (hsb:w.shape? b=some (tB,kB)) (hkA:kA≠0) (hfe:w.frozen? ⟨b,kB,none⟩=false) :
  Calls P 54 #[.slice (some ⟨b,off,none⟩) n c,.int .i64 i,.slice (some ⟨vb,voff,none⟩) m vc] w fun e w' =>
   e = .returned (.slice (some ⟨b,off,none⟩) (n+m) c)∧w' = (w.drew.setCells b (off+(i+m) * 51) (cs.drop (i * 51))).setCells b (off+i * 51) vs:=by
 have t0:=L.t0;have a0:=L.a0;have z0:=L.z0;have v0:=L.v0;have t3:=L.t3;have a3:=L.a3;have z3:=L.z3;have t4:=L.t4;have a4:=L.a4;have z4:=L.z4;have z9:=L.z9;have t24:=L.t24;have a24:=L.a24;have z24:=L.z24;have hsz:=L.hsz
 have u0:=run_underlying L.t0;have u3:=run_underlying L.t3;have u4:=run_underlying L.t4;have u24:=run_underlying L.t24
 have mixed:=L.mixed
 have hz1 : ¬ ((m:Int)=0):=by omega
 have hz2 : ¬ ((i:Int)=(n:Int)):=by omega
 have hov:∀ lb cb,(callFunc 70 #[.slice (some ⟨vb,voff,none⟩) m vc,.slice (some ⟨b,off+(i+m) * 51,none⟩) lb cb]).run P w = .ok (.value (.bool false)) w:=fun lb cb=>by
  rw [run_callFunc_extern L.fo (by kernel_rfl) (by kernel_rfl) (by kernel_rfl) (e:=Extern.SlicesOverlaps.overlaps #[23,23] #[4]) (by kernel_rfl),
   Gf w 23 4 49 t24 51 z9 ⟨vb,voff,none⟩ ⟨b,off+(i+m) * 51,none⟩ m vc lb cb hvb tA tB kA kB hsa hsb hkA (hfz _ (by omega)) hfe]
  rfl
 have hdl:(cs.drop (i * 51)).length=(n - i) * 51:=by rw [List.length_drop,hcl];try omega
 have hw1:IntKind.i64.wrap ((i:Int)+(m:Int))=(i:Int)+(m:Int):=by rw [IntKind.wrap_i64];omega
 have hb1:(0:Int)≤(i:Int)+(m:Int):=by omega
 have hin:i≤n:=by omega
 have htn:((i:Int)+(m:Int)).toNat=i+m:=by omega
 have hb2 : ¬ (c=i+m):=by omega
 have hb3:(i:Int)≤(n:Int)+(m:Int):=by omega
 have hb4 : ¬ (c=i):=by omega
 have hmn:Nat.min (n+m - i) (n+m - (i+m))=n - i:=by simp only [Nat.min_def];split <;> omega
 have hmv:Nat.min m (n+m - i)=m:=by simp only [Nat.min_def];split <;> omega
 have hcp1:∀ ty dc sc,(Builtin.copy_ #[23,23] ty #[.slice (some ⟨b,off+(i+m) * 51,none⟩) (n+m - (i+m)) dc,.slice (some ⟨b,off+i * 51,none⟩) (n+m - i) sc]).run P w.drew = .ok (goInt (Nat.min (n+m - i) (n+m - (i+m)))) (w.drew.setCells b (off+(i+m) * 51) (cs.drop (i * 51))):=fun ty dc sc =>
  tu w.drew _ _ ty 49 b (off+(i+m) * 51) (n+m - (i+m)) dc ⟨b,off+i * 51,none⟩ (n+m - i) sc 51 (cs.drop (i * 51)) t24 hsz (by rw [hdl,hmn];try omega)
   (fun j v hj=>by rw [Addr.add_lit,Nat.add_assoc];exact hcs (i * 51+j) v (by rwa [List.getElem?_drop] at hj))
   (fun j hj=>by rw [Nat.add_assoc];exact hsp _ (by omega)) (fun j hj=>by rw [Nat.add_assoc];exact hfz _ (by omega)) (fun v hv=>h1c v (List.mem_of_mem_drop hv))
 obtain ⟨W1,hW1⟩:∃ W1,W1=w.drew.setCells b (off+(i+m) * 51) (cs.drop (i * 51)):=⟨_,rfl⟩
 have hsp1:∀ k,k<(n+m) * 51→(W1.cell? ⟨b,off+k,none⟩).isSome=true:=fun k hk=>by
  rw [hW1]
  exact isSome_setCells b _ _ _ (fun j hj=>by rw [Nat.add_assoc];exact hsp _ (by omega)) _ (hsp k hk)
 have hcp2:∀ (W:World),(∀ x,W.cell? x=W1.cell? x)→(∀ x,W.frozen? x=W1.frozen? x)→∀ ty dc,(Builtin.copy_ #[23,23] ty #[.slice (some ⟨b,off+i * 51,none⟩) (n+m - i) dc,.slice (some ⟨vb,voff,none⟩) m vc]).run P W = .ok (goInt (Nat.min m (n+m - i))) (W.setCells b (off+i * 51) vs):=fun W hWc hWf ty dc =>
  tu W _ _ ty 49 b (off+i * 51) (n+m - i) dc ⟨vb,voff,none⟩ m vc 51 vs t24 hsz (by rw [hvl,hmv];try omega)
   (fun j v hj=>by
    rw [Addr.add_lit,hWc,hW1,World.cell?_setCells_out b _ _ _ _ (fun h _=>absurd h hvb)]
    exact hvs j v hj)
   (fun j hj=>by rw [hWc,Nat.add_assoc];exact hsp1 _ (by omega)) (fun j hj=>by rw [hWf,hW1,World.frozen?_setCells,Nat.add_assoc];exact hfz _ (by omega)) h1v
 rw [← hW1] at hcp1
 go_enter L.f,Go.Proofs.Try.ntmps54
 go_wp2_with (simp only [hov])
 go_region_law_o (refine step_copy_runI rfl _ _ 23 23 rfl _ _ (by simp [Act.eval,Act.put]) (by simp [Act.eval,Act.put]) (hcp1 _ _ _) ?_)
 go_wp2_with (at_builtin;refine wpList_copy_runI _ rfl _ _ 23 23 rfl _ _ rfl rfl (hcp2 _ (fun _=>rfl) (fun _=>rfl) _ _) ?_)
 go_ret
 first | exact ⟨rfl,rfl⟩ | exact ⟨rfl,by rw [hW1]⟩
set_option maxHeartbeats 4000000 in
set_option maxRecDepth 100000 in
theorem QX (L:QW P) (base:Option Addr) (n c vb voff m vc:Nat) (w w' : World) (v' : Value) (hm:0<m) (hnc:n≤c)
  (hrun:∀ ty,(Builtin.append_ #[23,23] ty #[.slice base n c,.slice (some ⟨vb,voff,none⟩) m vc]).run P w = .ok v' w') :
  Calls P 54 #[.slice base n c,.int .i64 n,.slice (some ⟨vb,voff,none⟩) m vc] w fun e w1=>e = .returned v' ∧ w1=w':=by
 have t0:=L.t0;have a0:=L.a0;have z0:=L.z0;have v0:=L.v0;have t3:=L.t3;have a3:=L.a3;have z3:=L.z3;have t4:=L.t4;have a4:=L.a4;have z4:=L.z4;have z9:=L.z9;have t24:=L.t24;have a24:=L.a24;have z24:=L.z24;have hsz:=L.hsz
 have u0:=run_underlying L.t0;have u3:=run_underlying L.t3;have u4:=run_underlying L.t4;have u24:=run_underlying L.t24
 have mixed:=L.mixed
 have hz1 : ¬ ((m:Int)=0):=by omega
 go_enter L.f,Go.Proofs.Try.ntmps54
 go_wp2_with (at_builtin;refine Lib.wpList_append_run _ rfl _ _ _ _ rfl _ _ rfl rfl _ _ (hrun _) ?_)
 all_goals (go_ret;exact ⟨rfl,rfl⟩)
set_option maxHeartbeats 4000000 in
set_option maxRecDepth 100000 in
theorem MZ (L:QW P) (b off n c i vb voff m vc G:Nat) (cs vs:List Value) (ROW:Array Value) (w:World) (hi:i<n) (hm:0<m) (hnc:n≤c) (hroom:c<n+m)
  (hcl:cs.length=n * 51) (hvl:vs.length=m * 51)
  (hcs:∀ j v,cs[j]? = some v→w.cell? ⟨b,off+j,none⟩=some v)
  (hvs:∀ j v,vs[j]? = some v→w.cell? ⟨vb,voff+j,none⟩=some v) (h1c:∀ v∈cs,v.oneCell' = true) (h1v:∀ v∈vs,v.oneCell' = true)
  (hGn:n+m≤G) (hG63:n+m≤9223372036854775807) (hRl:(n+m) * 51≤ROW.size)
  (hrz:∀ ty,(Builtin.append_ #[23,3] ty #[.slice (some ⟨b,off,none⟩) i c,.int .i64 ((n:Int)+(m:Int) - (i:Int))]).run P w = .ok (.slice (some ⟨w.heap.size,0,none⟩) (n+m) G) (w.drew.alloc (.cells ROW 49))) :
  Calls P 54 #[.slice (some ⟨b,off,none⟩) n c,.int .i64 i,.slice (some ⟨vb,voff,none⟩) m vc] w fun e w' =>
   e = .returned (.slice (some ⟨w.heap.size,0,none⟩) (n+m) G) ∧
   w' = (((w.alloc (.cells ROW 49)).drew.setCells w.heap.size (i * 51) vs).drew).setCells w.heap.size ((i+m) * 51) (cs.drop (i * 51)):=by
 have t0:=L.t0;have a0:=L.a0;have z0:=L.z0;have v0:=L.v0;have t3:=L.t3;have a3:=L.a3;have z3:=L.z3;have t4:=L.t4;have a4:=L.a4;have z4:=L.z4;have z9:=L.z9;have t24:=L.t24;have a24:=L.a24;have z24:=L.z24;have hsz:=L.hsz
 have u0:=run_underlying L.t0;have u3:=run_underlying L.t3;have u4:=run_underlying L.t4;have u24:=run_underlying L.t24
 have mixed:=L.mixed
 have hz1 : ¬ ((m:Int)=0):=by omega
 have hz2 : ¬ ((i:Int)=(n:Int)):=by omega
 have hz3:(c:Int)<(n:Int)+(m:Int):=by omega
 have hbw:b<w.heap.size:=block_lt_of_cell (hcs 0 _ (List.getElem?_eq_getElem (by omega)))
 have hvw:vb<w.heap.size:=block_lt_of_cell (hvs 0 _ (List.getElem?_eq_getElem (by omega)))
 obtain ⟨W1,hW1⟩:∃ W1,W1=w.drew.alloc (.cells ROW 49):=⟨_,rfl⟩
 rw [← hW1] at hrz
 have hN:∀ j,j<(n+m) * 51→(W1.cell? ⟨w.heap.size,j,none⟩).isSome=true:=fun j hj=>by
  rw [hW1,World.cell?_alloc_at (w:=w.drew) ROW _ w.heap.size j rfl,Array.getElem?_eq_getElem (by omega)];rfl
 have hNf:∀ j,W1.frozen? ⟨w.heap.size,j,none⟩=false:=fun j=>by rw [hW1];exact World.frozen?_alloc_at (w:=w.drew) ROW _ w.heap.size j rfl
 have hOb:∀ j v,w.cell? ⟨b,j,none⟩=some v→W1.cell? ⟨b,j,none⟩=some v:=fun j v h=>by rw [hW1,World.cell?_alloc_past (w:=w.drew) _ b j hbw];exact h
 have hOv:∀ j v,w.cell? ⟨vb,j,none⟩=some v→W1.cell? ⟨vb,j,none⟩=some v:=fun j v h=>by rw [hW1,World.cell?_alloc_past (w:=w.drew) _ vb j hvw];exact h
 have hmv:Nat.min m (n+m - i)=m:=by simp only [Nat.min_def];split <;> omega
 have hmn:Nat.min (n - i) (n+m - (i+m))=n - i:=by simp only [Nat.min_def];split <;> omega
 have hcpA:∀ (W:World),(∀ x,W.cell? x=W1.cell? x)→(∀ x,W.frozen? x=W1.frozen? x)→∀ ty dc,(Builtin.copy_ #[23,23] ty #[.slice (some ⟨w.heap.size,i * 51,none⟩) (n+m - i) dc,.slice (some ⟨vb,voff,none⟩) m vc]).run P W = .ok (goInt (Nat.min m (n+m - i))) (W.setCells w.heap.size (i * 51) vs):=fun W hWc hWf ty dc =>
  tu W _ _ ty 49 w.heap.size (i * 51) (n+m - i) dc ⟨vb,voff,none⟩ m vc 51 vs t24 hsz (by rw [hvl,hmv];try omega)
   (fun j v hj=>by rw [Addr.add_lit,hWc];exact hOv _ v (hvs j v hj))
   (fun j hj=>by rw [hWc];exact hN _ (by omega)) (fun j hj=>by rw [hWf];exact hNf _) h1v
 have hGi : ¬ (G=i):=by omega
 have hGim : ¬ (G=i+m):=by omega
 have hci : ¬ (c=i):=by omega
 have hbN:b≠w.heap.size:=by omega
 have hdl:(cs.drop (i * 51)).length=(n - i) * 51:=by rw [List.length_drop,hcl];try omega
 have hcpB:∀ (W:World),(∀ x,W.cell? x=(W1.setCells w.heap.size (i * 51) vs).cell? x)→(∀ x,W.frozen? x=(W1.setCells w.heap.size (i * 51) vs).frozen? x)→∀ ty dc sc,(Builtin.copy_ #[23,23] ty #[.slice (some ⟨w.heap.size,(i+m) * 51,none⟩) (n+m - (i+m)) dc,.slice (some ⟨b,off+i * 51,none⟩) (n - i) sc]).run P W = .ok (goInt (Nat.min (n - i) (n+m - (i+m)))) (W.setCells w.heap.size ((i+m) * 51) (cs.drop (i * 51))):=fun W hWc hWf ty dc sc =>
  tu W _ _ ty 49 w.heap.size ((i+m) * 51) (n+m - (i+m)) dc ⟨b,off+i * 51,none⟩ (n - i) sc 51 (cs.drop (i * 51)) t24 hsz (by rw [hdl,hmn];try omega)
   (fun j v hj=>by
    rw [Addr.add_lit,hWc,World.cell?_setCells_out _ _ _ _ _ (fun h _=>absurd h hbN),Nat.add_assoc]
    exact hOb _ v (hcs (i * 51+j) v (by rwa [List.getElem?_drop] at hj)))
   (fun j hj=>by rw [hWc];exact isSome_setCells _ _ _ _ (fun t ht=>hN _ (by omega)) _ (hN _ (by omega)))
   (fun j hj=>by rw [hWf,World.frozen?_setCells];exact hNf _) (fun v hv=>h1c v (List.mem_of_mem_drop hv))
 subst hW1
 have hE1:∀ x,((w.alloc (.cells ROW 49)).drew).cell? x=(w.drew.alloc (.cells ROW 49)).cell? x:=fun x=>rfl
 have hE2:∀ x,((w.alloc (.cells ROW 49)).drew).frozen? x=(w.drew.alloc (.cells ROW 49)).frozen? x:=fun x=>rfl
 have hF1:∀ x,(((w.alloc (.cells ROW 49)).drew.setCells w.heap.size (i * 51) vs).drew).cell? x=((w.drew.alloc (.cells ROW 49)).setCells w.heap.size (i * 51) vs).cell? x:=fun x=>rfl
 have hF2:∀ x,(((w.alloc (.cells ROW 49)).drew.setCells w.heap.size (i * 51) vs).drew).frozen? x=((w.drew.alloc (.cells ROW 49)).setCells w.heap.size (i * 51) vs).frozen? x:=fun x=>rfl
 have hw1:IntKind.i64.wrap ((i:Int)+(m:Int))=(i:Int)+(m:Int):=by rw [IntKind.wrap_i64];omega
 have hb1:(0:Int)≤(i:Int)+(m:Int):=by omega
 have hin:i≤n:=by omega
 have htn:((i:Int)+(m:Int)).toNat=i+m:=by omega
 have hb3:(i:Int)≤(n:Int):=by omega
 clear hRl
 go_enter L.f,Go.Proofs.Try.ntmps54
 go_wp2_with (first
  | (at_builtin;refine Lib.wpList_append_run _ rfl _ _ _ _ rfl _ _ rfl rfl _ _ (hrz _) ?_)
  | (at_builtin;refine wpList_copy_runI _ rfl _ _ 23 23 rfl _ _ rfl rfl (hcpA _ hE1 hE2 _ _) ?_)
  | (at_builtin;refine wpList_copy_runI _ rfl _ _ 23 23 rfl _ _ rfl rfl (hcpB _ (fun _=>rfl) (fun _=>rfl) _ _ _) ?_))
 go_region_law_o (refine step_copy_runI rfl _ _ 23 23 rfl (.slice (some ⟨w.heap.size,(i+m) * 51,none⟩) (n+m - (i+m)) (G - (i+m))) (.slice (some ⟨b,off+i * 51,none⟩) (n - i) (c - i)) (by simp [Act.eval,Act.put]) (by simp [Act.eval,Act.put]) (hcpB _ hF1 hF2 3 (G - (i+m)) (c - i)) ?_)
 go_wp2
 go_ret
 exact ⟨rfl,rfl⟩
set_option maxHeartbeats 4000000 in
set_option maxRecDepth 100000 in
theorem Na (L:QW P) (base ya:Option Addr) (n c i vc:Nat) (w:World) (hi:i≤n) (hnc:n≤c) :
  Calls P 54 #[.slice base n c,.int .i64 i,.slice ya 0 vc] w fun e w1=>e = .returned (.slice base n c)∧w1=w:=by
 have t0:=L.t0;have a0:=L.a0;have z0:=L.z0;have v0:=L.v0;have t3:=L.t3;have a3:=L.a3;have z3:=L.z3;have t4:=L.t4;have a4:=L.a4;have z4:=L.z4;have z9:=L.z9;have t24:=L.t24;have a24:=L.a24;have z24:=L.z24;have hsz:=L.hsz
 have u0:=run_underlying L.t0;have u3:=run_underlying L.t3;have u4:=run_underlying L.t4;have u24:=run_underlying L.t24
 have mixed:=L.mixed
 cases base <;> (
 go_enter L.f,Go.Proofs.Try.ntmps54
 go_wp2
 all_goals (go_ret;exact ⟨rfl,rfl⟩))
theorem UZ:QW Go.Proofs.Try.prog where
 mixed:=by kernel_rfl
 f:=by kernel_rfl
 fo:=by kernel_rfl
 t0:=by kernel_rfl
 a0:=fun w=>Go.Ab.dA (by kernel_rfl)
 z0:=Go.Ab.fO (by kernel_rfl) (by decide)
 v0:=Go.Ab.BX (by kernel_rfl)
 t3:=by kernel_rfl
 a3:=fun w=>Go.Ab.dA (by kernel_rfl)
 z3:=Go.Ab.fO (by kernel_rfl) (by decide)
 t4:=by kernel_rfl
 a4:=fun w=>Go.Ab.dA (by kernel_rfl)
 z4:=Go.Ab.fO (by kernel_rfl) (by decide)
 t24:=by kernel_rfl
 a24:=fun w=>Go.Ab.dA (by kernel_rfl)
 z24:=Go.Ab.fO (by kernel_rfl) (by decide)
 z9:=Go.Ab.fO (by kernel_rfl) (by decide)
 hsz:=Go.Ab.size_map (by kernel_rfl) (by decide)
theorem U0:Go.Ab.WI Go.Proofs.Try.prog 54 23 49 3 :=
 have hz:Go.Ab.tsz Go.Proofs.Try.prog 49=51:=by kernel_rfl
 {
  pos:=by rw [hz];decide
  us:=by kernel_rfl
  ui:=by kernel_rfl
  zc:=by kernel_rfl
  zl:=by kernel_rfl
  shift:=by simp only [hz,Nat.mul_one];exact IU UZ
  fin:=QX UZ
  zero:=Na UZ
  grow:=by simp only [hz,Nat.mul_one];exact MZ UZ }
end Go.InsK
namespace Go.InsK
open Go Go.Proofs Go.RowKit Go.Lib
structure QY (P:Program):Prop where
 mixed:P.follows .mixedOrders=true
 f:P.funcs[53]? = some Go.Proofs.Try.f53
 t0:P.underlying 0=some (TypeDesc.tuple #[])
 a0:∀ w,(isAgg 0).run P w = .ok false w
 z0:∀ w,(Go.sizeOf 0).run P w = .ok 1 w
 v0:∀ w,(zeroValue 0).run P w = .ok (Value.tuple #[]) w
 t4:P.underlying 4=some (TypeDesc.bool)
 a4:∀ w,(isAgg 4).run P w = .ok false w
 z4:∀ w,(Go.sizeOf 4).run P w = .ok 1 w
 t24:P.underlying 23=some (.slice 49)
 a24:∀ w,(isAgg 23).run P w = .ok false w
 z24:∀ w,(Go.sizeOf 23).run P w = .ok 1 w
 z9:∀ w,(Go.sizeOf 49).run P w = .ok 51 w
variable {P:Program}
set_option maxHeartbeats 1000000 in
set_option maxRecDepth 100000 in
theorem Nb (L:QY P) (n c:Nat) (w:World):Calls P 53 #[.slice none n c] w fun e w'=>e = .returned (.slice none 0 0)∧w' = w:=by
 have t0:=L.t0;have a0:=L.a0;have z0:=L.z0;have v0:=L.v0;have t4:=L.t4;have a4:=L.a4;have z4:=L.z4;have z9:=L.z9;have t24:=L.t24;have a24:=L.a24;have z24:=L.z24
 have u0:=run_underlying L.t0;have u4:=run_underlying L.t4;have u24:=run_underlying L.t24
 have mixed:=L.mixed
 have q24:∀ (w:World) (a:Option Addr) (n c n' c' : Nat),(binOp .eql 23 (.slice a n c) (.slice none n' c')).run P w = .ok (.bool a.isNone) w:=fun w a n c n' c'=>Lib.run_eql_slice_nil w _ _ a n c n' c' L.t24
 go_enter L.f,Go.Proofs.Try.ntmps53
 go_wp2
 go_ret
 exact ⟨rfl,rfl⟩
set_option maxHeartbeats 1000000 in
set_option maxRecDepth 100000 in
theorem Nc (L:QY P) (a:Addr) (n c:Nat) (w w' : World) (v' : Value) (hrun:∀ ty,(Builtin.append_ #[23,23] ty #[.slice (some ⟨w.heap.size,0,none⟩) 0 0,.slice (some a) n c]).run P (w.alloc (.cells #[] 49)) = .ok v' w') :
  Calls P 53 #[.slice (some a) n c] w fun e w1=>e = .returned v' ∧ w1=w':=by
 have t0:=L.t0;have a0:=L.a0;have z0:=L.z0;have v0:=L.v0;have t4:=L.t4;have a4:=L.a4;have z4:=L.z4;have z9:=L.z9;have t24:=L.t24;have a24:=L.a24;have z24:=L.z24
 have u0:=run_underlying L.t0;have u4:=run_underlying L.t4;have u24:=run_underlying L.t24
 have mixed:=L.mixed
 have q24:∀ (w:World) (a:Option Addr) (n c n' c' : Nat),(binOp .eql 23 (.slice a n c) (.slice none n' c')).run P w = .ok (.bool a.isNone) w:=fun w a n c n' c'=>Lib.run_eql_slice_nil w _ _ a n c n' c' L.t24
 go_enter L.f,Go.Proofs.Try.ntmps53
 go_wp2_with (at_builtin;refine Lib.wpList_append_run _ rfl _ _ _ _ rfl _ _ rfl rfl _ _ (hrun _) ?_)
 go_ret
 exact ⟨rfl,rfl⟩
theorem VY:QY Go.Proofs.Try.prog where
 mixed:=by kernel_rfl
 f:=by kernel_rfl
 t0:=by kernel_rfl
 a0:=fun w=>Go.Ab.dA (by kernel_rfl)
 z0:=Go.Ab.fO (by kernel_rfl) (by decide)
 v0:=Go.Ab.BX (by kernel_rfl)
 t4:=by kernel_rfl
 a4:=fun w=>Go.Ab.dA (by kernel_rfl)
 z4:=Go.Ab.fO (by kernel_rfl) (by decide)
 t24:=by kernel_rfl
 a24:=fun w=>Go.Ab.dA (by kernel_rfl)
 z24:=Go.Ab.fO (by kernel_rfl) (by decide)
 z9:=Go.Ab.fO (by kernel_rfl) (by decide)
theorem U1:Go.Ab.LD Go.Proofs.Try.prog 53 23 49 :=
 have hz:Go.Ab.tsz Go.Proofs.Try.prog 49=51:=by kernel_rfl
 {
  pos:=by rw [hz];decide
  us:=by kernel_rfl
  zc:=by kernel_rfl
  zl:=by kernel_rfl
  nilc:=Nb VY
  somec:=Nc VY }
end Go.InsK
namespace Go.InsK
open Go Go.Proofs Go.RowKit Go.Lib
structure QZ (P:Program):Prop where
 mixed:P.follows .mixedOrders=true
 f:P.funcs[19]? = some Go.Proofs.Try.f19
 t0:P.underlying 0=some (TypeDesc.tuple #[])
 a0:∀ w,(isAgg 0).run P w = .ok false w
 z0:∀ w,(Go.sizeOf 0).run P w = .ok 1 w
 v0:∀ w,(zeroValue 0).run P w = .ok (Value.tuple #[]) w
 t4:P.underlying 4=some (TypeDesc.bool)
 a4:∀ w,(isAgg 4).run P w = .ok false w
 z4:∀ w,(Go.sizeOf 4).run P w = .ok 1 w
 t24:P.underlying 28=some (.slice 22)
 a24:∀ w,(isAgg 28).run P w = .ok false w
 z24:∀ w,(Go.sizeOf 28).run P w = .ok 1 w
 z9:∀ w,(Go.sizeOf 22).run P w = .ok 1 w
variable {P:Program}
set_option maxHeartbeats 1000000 in
set_option maxRecDepth 100000 in
theorem Nh (L:QZ P) (n c:Nat) (w:World):Calls P 19 #[.slice none n c] w fun e w'=>e = .returned (.slice none 0 0)∧w' = w:=by
 have t0:=L.t0;have a0:=L.a0;have z0:=L.z0;have v0:=L.v0;have t4:=L.t4;have a4:=L.a4;have z4:=L.z4;have z9:=L.z9;have t24:=L.t24;have a24:=L.a24;have z24:=L.z24
 have u0:=run_underlying L.t0;have u4:=run_underlying L.t4;have u24:=run_underlying L.t24
 have mixed:=L.mixed
 have q24:∀ (w:World) (a:Option Addr) (n c n' c' : Nat),(binOp .eql 28 (.slice a n c) (.slice none n' c')).run P w = .ok (.bool a.isNone) w:=fun w a n c n' c'=>Lib.run_eql_slice_nil w _ _ a n c n' c' L.t24
 go_enter L.f,Go.Proofs.Try.ntmps19
 go_wp2
 go_ret
 exact ⟨rfl,rfl⟩
set_option maxHeartbeats 1000000 in
set_option maxRecDepth 100000 in
theorem Nj (L:QZ P) (a:Addr) (n c:Nat) (w w' : World) (v' : Value) (hrun:∀ ty,(Builtin.append_ #[28,28] ty #[.slice (some ⟨w.heap.size,0,none⟩) 0 0,.slice (some a) n c]).run P (w.alloc (.cells #[] 22)) = .ok v' w') :
  Calls P 19 #[.slice (some a) n c] w fun e w1=>e = .returned v' ∧ w1=w':=by
 have t0:=L.t0;have a0:=L.a0;have z0:=L.z0;have v0:=L.v0;have t4:=L.t4;have a4:=L.a4;have z4:=L.z4;have z9:=L.z9;have t24:=L.t24;have a24:=L.a24;have z24:=L.z24
 have u0:=run_underlying L.t0;have u4:=run_underlying L.t4;have u24:=run_underlying L.t24
 have mixed:=L.mixed
 have q24:∀ (w:World) (a:Option Addr) (n c n' c' : Nat),(binOp .eql 28 (.slice a n c) (.slice none n' c')).run P w = .ok (.bool a.isNone) w:=fun w a n c n' c'=>Lib.run_eql_slice_nil w _ _ a n c n' c' L.t24
 go_enter L.f,Go.Proofs.Try.ntmps19
 go_wp2_with (at_builtin;refine Lib.wpList_append_run _ rfl _ _ _ _ rfl _ _ rfl rfl _ _ (hrun _) ?_)
 go_ret
 exact ⟨rfl,rfl⟩
theorem VZ:QZ Go.Proofs.Try.prog where
 mixed:=by kernel_rfl
 f:=by kernel_rfl
 t0:=by kernel_rfl
 a0:=fun w=>Go.Ab.dA (by kernel_rfl)
 z0:=Go.Ab.fO (by kernel_rfl) (by decide)
 v0:=Go.Ab.BX (by kernel_rfl)
 t4:=by kernel_rfl
 a4:=fun w=>Go.Ab.dA (by kernel_rfl)
 z4:=Go.Ab.fO (by kernel_rfl) (by decide)
 t24:=by kernel_rfl
 a24:=fun w=>Go.Ab.dA (by kernel_rfl)
 z24:=Go.Ab.fO (by kernel_rfl) (by decide)
 z9:=Go.Ab.fO (by kernel_rfl) (by decide)
theorem U2:Go.Ab.LD Go.Proofs.Try.prog 19 28 22 :=
 have hz:Go.Ab.tsz Go.Proofs.Try.prog 22=1:=by kernel_rfl
 {
  pos:=by rw [hz];decide
  us:=by kernel_rfl
  zc:=by kernel_rfl
  zl:=by kernel_rfl
  nilc:=Nh VZ
  somec:=Nj VZ }
end Go.InsK
