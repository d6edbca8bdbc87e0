import Derived.Test.YtleeccmcgophfaaGreatPA
set_option linter.all false
namespace Go.Ab
open Go Go.RowKit
variable {P:Program} {o:Oper} {a:Act} {w:World} {K:Act→World→Prop} {Q:Exit→Act→World→Prop} {n:Nat} {Mo:Cells} {m:Mp} {s:Sa} {sv:List Act} {k:Sa→Prop} {p:Name} {S:Sems}
theorem execOp_v {f:Sem Value} {w' : World} {v:Value} (h:f.run P w = .ok v w'):((do pure (Next.value (← f)):Sem Next)).run P w = .ok (.value v) w':=by
 simp [h]
theorem execOp_u {f:Sem Unit} {w' : World} (h:f.run P w = .ok () w'):((do f;pure Next.skip:Sem Next)).run P w = .ok .skip w':=by
 simp [h]
theorem telem_inv {t e:TypeId} (h:telem P t=some e):P.underlying t=some (.slice e):=by
 grind [telem]
theorem tarr_inv {t:TypeId} {x:Nat×TypeId} (h:tarr P t=some x):P.underlying t=some (.array x.1 x.2):=by
 grind [tarr]
theorem tfield_inv {t:TypeId} {i:Nat} {x:Nat×TypeId} (h:tfield P t i=some x):∃ fs f,P.underlying t=some (.struct fs)∧fs[i]? = some f∧f.offset=x.1∧f.type=x.2:=by
 grind [tfield]
theorem tsz_some {t:TypeId} (h:tsz P t≠0):∃ i,P.info? t=some i:=by
 unfold tsz at h
 cases hi:P.info? t with
 | none=>grind
 | some i=>grind
theorem run_sizeOf_ne {t:TypeId} (h:tsz P t≠0):(sizeOf t).run P w = .ok (tsz P t) w:=by
 obtain ⟨i,hi⟩:=tsz_some h
 simp [sizeOf,typeInfo,hi,tsz]
section
variable (hR:Rel Mo m s (a::sv) w) (hd:∀ d,o.dst=some d→d<s.n) (hK:OpNext Mo m s o.dst a sv w k K) (h:evOp P S p o s k)
include hR hd hK h
theorem op_move {x:Operand} (hop:o.op = .move x):o.wpIn (Wd (rdOf m s)) n P a w K Q:=by
 simp only [evOp,hop] at h
 exact op_value (v:=a.eval x) (w':=w) (by grind) (by simp [execOp,hop]) (next_put hR hd hK (hR.operand x) h)
theorem op_assign {x:Operand} (hop:o.op = .assign x):o.wpIn (Wd (rdOf m s)) n P a w K Q:=by
 simp only [evOp,hop] at h
 obtain ⟨m',h1,h2,h3,h4,h5,h6,h7⟩:=hR.claim (hR.operand x) (o.dst.getD 0::p) (esz P o.type)
 refine op_value (v:=a.eval x) (w':=w) (by grind) (by simp [execOp,hop]) ?_
 grind [next_put',rdOf]
theorem op_pick {c x y:Operand} (hop:o.op = .pick c x y):o.wpIn (Wd (rdOf m s)) n P a w K Q:=by
 simp only [evOp,hop] at h
 split at h
 ·rename_i t hc
  have hv:=hR.operand c
  rw [hc] at hv
  have e:=hv.val.1
  cases t with
  | true=>exact op_value (v:=a.eval x) (w':=w) (by grind) (by simp [execOp,hop,e,asBool]) (next_put hR hd hK (hR.operand x) (h.1 rfl))
  | false=>exact op_value (v:=a.eval y) (w':=w) (by grind) (by simp [execOp,hop,e,asBool]) (next_put hR hd hK (hR.operand y) (h.2 rfl))
 grind
theorem op_nilCheck {x:Operand} (hop:o.op = .nilCheck x):o.wpIn (Wd (rdOf m s)) n P a w K Q:=by
 simp only [evOp,hop] at h
 have hv:=hR.operand x
 split at h
 ·rename_i nm off hx
  rw [hx] at hv
  have e:=hv.ptr_inv
  exact op_value (v:=a.eval x) (w':=w) (by grind) (by simp [execOp,hop,e]) (next_put hR hd hK hv h)
 ·rename_i cs hx
  rw [hx] at hv
  obtain ⟨b,off,cv,e,_,_⟩:=hv.ref_inv
  exact op_value (v:=a.eval x) (w':=w) (by grind) (by simp [execOp,hop,e]) (next_put hR hd hK hv h)
 ·rename_i nm off hx
  rw [hx] at hv
  obtain ⟨b,o',_,e⟩:=hv.vpt_inv
  exact op_value (v:=a.eval x) (w':=w) (by grind) (by simp [execOp,hop,e]) (next_put hR hd hK hv h)
 grind
theorem op_binOp {op:BinOp} {t u:TypeId} {x y:Operand} (hop:o.op = .binOp op t x y u):o.wpIn (Wd (rdOf m s)) n P a w K Q:=by
 simp only [evOp,hop] at h
 have hx:=hR.operand x
 have hy:=hR.operand y
 have nilcase:∀ {xs:List D} {aa:Option Addr} {cap:Nat} {e:TypeId},telem P t=some e→(xs≠[]→∃ q,aa=some q)→a.eval x = .slice aa xs.length cap→a.eval y = .slice none 0 0 →
   (match (generalizing:=false) op with | .eql=>(xs=[]→k (s.put o.dst (.d (.v (.bool true)))))∧k (s.put o.dst (.d (.v (.bool false)))) | .neq=>(xs=[]→k (s.put o.dst (.d (.v (.bool false)))))∧k (s.put o.dst (.d (.v (.bool true)))) | _=>False) →
   o.wpIn (Wd (rdOf m s)) n P a w K Q:=by
  intro xs aa cap e ht ha e1 e2 h
  have hu:=telem_inv ht
  cases op <;> simp only at h
  case eql =>
   refine op_value (v:=.bool aa.isNone) (w':=w) (by grind) (by grind [execOp,execOp_v,run_eqNil]) (next_put hR hd hK (v:=.d (.v (.bool aa.isNone))) (.d (.v trivial)) ?_)
   cases aa with
   | none=>grind
   | some q=>grind
  case neq =>
   refine op_value (v:=.bool !aa.isNone) (w':=w) (by grind) (by grind [execOp,execOp_v,run_eqNil]) (next_put hR hd hK (v:=.d (.v (.bool !aa.isNone))) (.d (.v trivial)) ?_)
   grind
 split at h
 ·rename_i d hd'
  rw [hd'] at hy
  split at h
  ·rename_i c hc
   rw [hc] at hx
   obtain ⟨v,c',hk,hrun,hrep⟩:=run_bin (P:=P) (w:=w) (xo:=x) (yo:=y) h hx.val.2 hy.val.2
   refine op_value (v:=c') (w':=w) (by grind) ?_ (next_put hR hd hK (hrep _ _) hk)
   simp only [execOp,hop]
   rw [hx.val.1,hy.val.1]
   exact execOp_v hrun
  grind
 ·rename_i ys hd'
  rw [hd'] at hy
  split at h
  ·rename_i xs hc
   rw [hc] at hx
   have aggs:∀ {zs:List D} {c:Value},RepV w (Tot Mo s.bx s.ow m) m (.d (.agg zs)) c→∃ vs:Array Value,c = .agg vs∧∀ (j:Nat) v,zs[j]? = some (.v v)→vs[j]? = some v:=by
    intro zs c hz
    cases hz with | d hz =>
    cases hz with | @agg _ vs hs hl hr =>
    refine ⟨vs,rfl,fun j v hj=>?_⟩
    obtain ⟨hj1,hj2⟩:=List.getElem?_eq_some_iff.1 hj
    have h1:=hr j hj1
    rw [hj2] at h1
    have hjs:j<vs.size:=by omega
    rw [Array.getD_eq_getD_getElem?,Array.getElem?_eq_getElem hjs,Option.getD_some] at h1
    rw [Array.getElem?_eq_getElem hjs]
    cases h1;rfl
   obtain ⟨cs,ec,hcs⟩:=aggs hx
   obtain ⟨ds,ed,hds⟩:=aggs hy
   split at h
   ·rename_i ks hks
    split at h
    ·rename_i r hr
     have hf:=run_flatEq (P:=P) (w:=w) hks hr hcs hds (op:=op) (xo:=x) (yo:=y)
     cases op <;> simp only at h
     case eql=>exact op_value (v:=.bool r) (w':=w) (by simp [hop]) (by simp only [execOp,hop];rw [ec,ed];exact execOp_v (hf.1 rfl)) (next_put hR hd hK (v:=.d (.v (.bool r))) (.d (.v trivial)) h)
     case neq=>exact op_value (v:=.bool !r) (w':=w) (by simp [hop]) (by simp only [execOp,hop];rw [ec,ed];exact execOp_v (hf.2 rfl)) (next_put hR hd hK (v:=.d (.v (.bool !r))) (.d (.v trivial)) h)
    grind
   grind
  grind
 ·rename_i hd'
  rw [hd'] at hy
  have ey:a.eval y = .slice none 0 0:=by generalize a.eval y=c at hy;cases hy;rfl
  split at h
  ·rename_i e hte
   split at h
   ·rename_i hc
    rw [hc] at hx
    have ex:a.eval x = .slice none ([]:List D).length 0:=by generalize a.eval x=c at hx;cases hx;rfl
    have hu:=telem_inv hte
    cases op <;> simp only at h
    case eql=>exact op_value (v:=.bool true) (w':=w) (by simp [hop]) (by simp only [execOp,hop];rw [ex,ey];exact execOp_v ((run_eqNil hu).1 rfl)) (next_put hR hd hK (v:=.d (.v (.bool true))) (.d (.v trivial)) h)
    case neq=>exact op_value (v:=.bool false) (w':=w) (by simp [hop]) (by simp only [execOp,hop];rw [ex,ey];exact execOp_v ((run_eqNil hu).2 rfl)) (next_put hR hd hK (v:=.d (.v (.bool false))) (.d (.v trivial)) h)
   ·rename_i xs hc
    rw [hc] at hx
    generalize hex:a.eval x=c at hx
    cases hx with | d hx =>
    cases hx with | sl sz b off cv h1 h2 h3 h4 h5 h6 =>
    exact nilcase hte (fun hne=>⟨_,h3 hne⟩) hex ey h
   ·rename_i xs hc
    rw [hc] at hx
    generalize hex:a.eval x=c at hx
    cases hx with
    | own hx _ _ =>
     cases hx with | sl sz b off cv h1 h2 h3 h4 h5 h6 =>
     exact nilcase hte (fun hne=>⟨_,h3 hne⟩) hex ey h
   ·exact h.elim
  ·exact h.elim
 grind
theorem op_unOp {op:UnOp} {t:TypeId} {x:Operand} (hop:o.op = .unOp op t x):o.wpIn (Wd (rdOf m s)) n P a w K Q:=by
 simp only [evOp,hop] at h
 have hx:=hR.operand x
 split at h
 ·rename_i c hc
  rw [hc] at hx
  unfold unV at h
  split at h
  ·rename_i b
   exact op_value (v:=.bool !b) (w':=w) (by grind) (by simp only [execOp,hop,hx.val.1];rfl) (next_put hR hd hK (.d (.v (x:=.bool !b) trivial)) h)
  ·rename_i q x'
   exact op_value (v:=.int q (q.wrap (0 - x'))) (w':=w) (by grind) (by simp only [execOp,hop,hx.val.1];rfl) (next_put hR hd hK (.d (.v (inR_wrap _ _))) h)
  grind
 grind
theorem op_convert {t u:TypeId} {x:Operand} (hop:o.op = .convert t u x):o.wpIn (Wd (rdOf m s)) n P a w K Q:=by
 simp only [evOp,hop] at h
 have hx:=hR.operand x
 split at h
 ·rename_i kd q c hu hc
  rw [hc] at hx
  obtain ⟨hsrc,h⟩:=h
  obtain ⟨d,hd1⟩:=Option.isSome_iff_exists.1 hsrc
  refine op_value (v:=.int kd (kd.wrap c)) (w':=w) (by grind) (by
   simp only [execOp,hop,hx.val.1]
   refine execOp_v (v:=.int kd (kd.wrap c)) ?_
   simp only [convert,Sem.run_bind,run_underlying hd1,run_underlying hu,Result.andThen_ok];rfl) (next_put hR hd hK (.d (.v (inR_wrap _ _))) h)
 grind
theorem op_fieldAddr {t:TypeId} {x:Operand} {i:Nat} (hop:o.op = .fieldAddr t x i):o.wpIn (Wd (rdOf m s)) n P a w K Q:=by
 simp only [evOp,hop] at h
 split at h
 ·rename_i off ft hf
  obtain ⟨hne,h⟩:=h
  obtain ⟨fs,f,hu,hfi,e1,e2⟩:=tfield_inv hf
  simp only at e1 e2
  have hv:=hR.operand x
  have hrun:∀ b o',(a.eval x) = .pointer (some ⟨b,o',none⟩)→(Instr.fieldAt t (a.eval x) i).run P w = .ok (.pointer (some ⟨b,o' + off,none⟩)) w:=by
   simp_all [Instr.fieldAt,run_underlying,Instr.sureAddr,fieldPlace,run_sizeOf_ne,addr_add]
  split at h
  ·rename_i nm o' hx
   rw [hx] at hv
   exact op_value (w':=w) (by grind) (by simp only [execOp,hop];exact execOp_v (hrun _ _ hv.ptr_inv)) (next_put hR hd hK .ptr h)
  ·rename_i cs hx
   rw [hx] at hv
   obtain ⟨b,o',cv,e,hcell,hrep⟩:=hv.ref_inv
   refine op_value (w':=w) (by grind) (by grind [execOp,execOp_v]) (next_put hR hd hK (.ref b (o' + off) (fun j=>cv (off+j)) (fun j hj=>?_) (fun j hj=>?_)) h)
   ·grind
   grind
  ·rename_i nm o' hx
   rw [hx] at hv
   obtain ⟨b,o0,e0,e⟩:=hv.vpt_inv
   refine op_value (w':=w) (by grind) (by simp only [execOp,hop];exact execOp_v (hrun _ _ e)) (next_put hR hd hK (by rw [Nat.add_assoc];exact .vpt e0) h)
  grind
 grind
theorem op_extract {x:Operand} {i:Nat} (hop:o.op = .extract x i):o.wpIn (Wd (rdOf m s)) n P a w K Q:=by
 simp only [evOp,hop] at h
 have hx:=hR.operand x
 split at h
 ·rename_i vs hc
  rw [hc] at hx
  obtain ⟨cs,e,hs,hrep⟩:=hx.tup_inv
  split at h
  ·rename_i v hv
   obtain ⟨hi,rfl⟩:=List.getElem?_eq_some_iff.1 hv
   have:=hrep i hi
   refine op_value (v:=cs.getD i undef) (w':=w) (by grind) (by
    simp_all [execOp,Instr.extract]) (next_put hR hd hK this h)
  grind
 grind
theorem op_makeFunc {f:FuncId} {first cap:Array Operand} (hop:o.op = .makeFunc (.func f) first cap):o.wpIn (Wd (rdOf m s)) n P a w K Q:=by
 simp only [evOp,hop] at h
 obtain ⟨hlt,h⟩:=h
 split at h
 ·rename_i hf
  subst hf
  refine op_value (v:=fnV f (cap.map a.eval)) (w':=w) (by grind) (by rw [show fnV f (cap.map a.eval) = .func (.func f) #[] (cap.map a.eval) from if_pos hlt];simp [execOp,hop,Instr.makeFunc]) (next_put hR hd hK (.fn (by simp) (fun i hi=>?_)) h)
  simp only [List.length_map,Array.length_toList] at hi
  simp only [List.getElem_map,Array.getElem_toList]
  rw [Array.getD_eq_getD_getElem?,Array.getElem?_map,Array.getElem?_eq_getElem hi]
  exact hR.operand _
 ·obtain ⟨rfl,h⟩:=h
  refine op_value (v:=fnV (f+fnB) (first.map a.eval)) (w':=w) (by grind) (by rw [show fnV (f+fnB) (first.map a.eval) = .func (.func f) (first.map a.eval) #[] from (if_neg (Nat.not_lt.2 (Nat.le_add_left fnB f))).trans (by rw [Nat.add_sub_cancel])];simp [execOp,hop,Instr.makeFunc]) (next_put hR hd hK (.fn (by simp) (fun i hi=>?_)) h)
  simp only [List.length_map,Array.length_toList] at hi
  simp only [List.getElem_map,Array.getElem_toList]
  rw [Array.getD_eq_getD_getElem?,Array.getElem?_map,Array.getElem?_eq_getElem hi]
  exact hR.operand _
end
end Go.Ab
namespace Go.Ab
open Go Go.RowKit
variable {P:Program} {o:Oper} {a:Act} {w:World} {K:Act→World→Prop} {Q:Exit→Act→World→Prop} {n:Nat} {Mo:Cells} {m:Mp} {s:Sa} {sv:List Act} {k:Sa→Prop} {p:Name} {S:Sems}
theorem constV_bxs (v:Value):(constV v).bxs=[]:=by
 unfold constV
 split
 ·rfl
 ·split <;> simp [V.bxs]
 ·split <;> simp [V.bxs]
theorem claim_refs {s:Sa} {i:Name} {z:Option Nat} {v:V} {f:Name} (h:AllV (fun v=>f ∉ v.bxs) s):AllV (fun v=>f ∉ v.bxs) (s.claim i z v).2:=by
 unfold Sa.claim
 split
 ·refine ⟨fun t=>?_,fun g hg t=>?_,fun n c hn=>?_⟩
  ·simp only [Sa.strip]
   rw [look_mapT _ (by rfl),V.bxs_strip];exact h.ts t
  ·simp only [Sa.strip,List.mem_map] at hg
   obtain ⟨g',hg',rfl⟩:=hg
   rw [look_mapT _ (by rfl),V.bxs_strip];exact h.sv g' hg' t
  ·simp only [Sa.strip] at hn
   rw [lookN_map] at hn
   cases hc:lookN n s.bx with
   | none=>grind
   | some c'=>simp [hc] at hn;subst hn;rw [V.bxs_strip];exact h.bx n c' hc
 grind
theorem claim_look {s:Sa} {i:Name} {z:Option Nat} {v:V} {f:Name} (h:lookN f s.bx=none):lookN f (s.claim i z v).2.bx=none:=by
 unfold Sa.claim
 split
 ·simp_all [Sa.strip,lookN_map]
 grind
theorem claim_bxs {s:Sa} {i:Name} {z:Option Nat} {v:V} {f:Name} (h:f ∉ v.bxs):f ∉ (s.claim i z v).1.bxs:=by
 unfold Sa.claim
 split
 ·simp [V.bxs]
 grind
theorem claim_cells {s:Sa} {i:Name} {z:Option Nat} {v:V} (h:isCells v=true):isCells (s.claim i z v).1=true:=by
 unfold Sa.claim
 split
 ·rfl
 grind
theorem look_all {P:V→Prop} {s:Sa} (h:AllV P s) (h0:∀ v,P (constV v)) (h1:P .dead) (h2:∀ g,P (.d (.v (.func (.func g) #[] #[])))) (x:Operand):P (s.get x):=by
 cases x with
 | tmp t=>exact h.ts t
 | const v=>exact h0 v
 | global g=>exact h1
 | func g=>exact h2 g
theorem box_next (hR:Rel Mo m s (a::sv) w) (hd:∀ d,o.dst=some d→d<s.n) (hK:OpNext Mo m s o.dst a sv w k K) {v:V} {c:Value} (hv:RepV w (Tot Mo s.bx s.ow m) m v c)
  (hc:isCells v=true) (f i:Name) (z:Option Nat) (T:TypeId) (hr:s.refs f=false) (hn:lookN f s.bx=none) (hvb:f ∉ v.bxs)
  (h:k ({ (s.claim i z v).2 with bx:=(f,(s.claim i z v).1)::(s.claim i z v).2.bx }.put o.dst (.ptr f 0))) :
  K (a.put o.dst (.pointer (some ⟨w.heap.size,0,none⟩))) (w.alloc (.cells c.cells T)):=by
 obtain ⟨m',h1,h2,h3,h4,h5,h6,h7⟩:=hR.claim hv i z
 obtain ⟨h8,h9⟩:=h1.newBox h2 (claim_cells hc) f (by rw [show rds (s.claim i z v).2=rds s from by unfold rds;rw [h3.rd,h3.svrd]];exact Sa.refs_protd hr) (claim_refs (Sa.refs_all hr)) (claim_look hn) (claim_bxs hvb) T
 refine next_put' hK h8 (by grind) (h3.trans h9) (by simp only [rdOf,h6,h5]) ?_ h
 have:=RepV.ptr (w:=w.alloc (.cells c.cells T)) (M:=Tot Mo ((f,(s.claim i z v).1)::(s.claim i z v).2.bx) (s.claim i z v).2.ow { m' with bx:=fun n=>if n=f then w.heap.size else m'.bx n }) (m:={ m' with bx:=fun n=>if n=f then w.heap.size else m'.bx n }) (n:=f) (off:=0)
 grind
section
variable (hR:Rel Mo m s (a::sv) w) (hd:∀ d,o.dst=some d→d<s.n) (hK:OpNext Mo m s o.dst a sv w k K) (h:evOp P S p o s k)
include hR hd hK h
theorem op_alloc {t:TypeId} (hop:o.op = .alloc t):o.wpIn (Wd (rdOf m s)) n P a w K Q:=by
 simp only [evOp,hop] at h
 obtain ⟨_,hc,hr,hn,h⟩:=h
 obtain ⟨i,z,hi,hz,hcz⟩:∃ i z,P.info? t=some i∧i.zero=some z∧tzero P t=constV z:=by
  unfold tzero at hc ⊢
  cases hi:P.info? t with
  | none=>simp [hi,isCells] at hc
  | some i =>
   grind [isCells]
 have hrun:(Instr.alloc t true (.tuple #[])).run P w = .ok (.pointer (some ⟨w.heap.size,0,none⟩)) (w.alloc (.cells z.cells t)):=by
  simp [Instr.alloc,zeroValue,typeInfo,hi,hz,newVar,newRow]
 exact op_value (by grind) (by simp only [execOp,hop];exact execOp_v hrun)
  (box_next hR hd hK (by rw [hcz];exact repV_const z) hc _ _ _ t hr hn (by rw [hcz,constV_bxs];simp) h)
theorem op_box {t:TypeId} {x:Operand} (hop:o.op = .box t x):o.wpIn (Wd (rdOf m s)) n P a w K Q:=by
 simp only [evOp,hop] at h
 obtain ⟨hc,hr,hn,h⟩:=h
 have hrun:(Instr.box t (a.eval x)).run P w = .ok (.pointer (some ⟨w.heap.size,0,none⟩)) (w.alloc (.cells (a.eval x).cells t)):=by
  rfl
 exact op_value (by grind) (by grind [execOp,execOp_v])
  (box_next hR hd hK (hR.operand x) hc _ _ _ t hr hn (look_all (Sa.refs_all hr) (fun v=>by rw [constV_bxs];simp) (by simp [V.bxs]) (fun g=>by simp [V.bxs]) x) h)
theorem op_load {t:TypeId} {x:Operand} (hop:o.op = .load t x):o.wpIn (Wd (rdOf m s)) n P a w K Q:=by
 simp only [evOp,hop] at h
 have hv:=hR.operand x
 split at h
 ·rename_i ag hag
  obtain ⟨hz,h⟩:=h
  split at h
  ·rename_i nm off hx
   rw [hx] at hv
   split at h
   ·rename_i c hc
    obtain ⟨hle,h⟩:=h
    obtain ⟨cs,T,hb⟩:=hR.box nm c hc
    have hcell:∀ j,j<tsz P t→w.cell? ⟨m.bx nm,off+j,none⟩=some (cs.getD (off+j) undef):=fun j hj=>by
     rw [cell_of_block (hb.heap.cells (isMpc_of (by omega))),Array.getD_eq_getD_getElem?,Array.getElem?_eq_getElem (by have:=hb.size;omega)];rfl
    have hcl:∀ j,j<c.cells.length→leaf (cs.getD j undef)=true:=hb.leafs
    refine op_value (w':=w) (by grind) (by
     simp only [execOp,hop,hv.ptr_inv,Instr.loadAt,Instr.sureAddr]
     exact execOp_v (by simp only [Sem.run_bind,Sem.run_pure,Result.andThen_ok];exact run_loadVar (fun j=>cs.getD (off+j) undef) hag hz hcell)) (next_put hR hd hK ?_ h)
    exact repV_loadBox (f:=fun j=>cs.getD (off+j) undef) hle hz (fun j hj=>hcl _ (by omega)) (fun j hj=>hb.rep _ (by omega))
   grind
  ·rename_i cs hx
   obtain ⟨hle,h⟩:=h
   rw [hx] at hv
   obtain ⟨b,off,cv,e,hcell,hrep⟩:=hv.ref_inv
   refine op_value (w':=w) (by grind) (by
     simp only [execOp,hop,e,Instr.loadAt,Instr.sureAddr]
     exact execOp_v (by simp only [Sem.run_bind,Sem.run_pure,Result.andThen_ok];exact run_loadVar cv hag hz (fun j hj=>(hcell j (by omega)).1))) (next_put hR hd hK ?_ h)
   exact repV_takeD hle hz (fun j hj=>(hcell j (by omega)).2.1) (fun j hj=>hrep j hj)
  ·rename_i nm off hx
   rw [hx] at hv
   obtain ⟨b,o0,e0,e⟩:=hv.vpt_inv
   split at h
   ·rename_i c hc
    obtain ⟨hle,h⟩:=h
    obtain ⟨_,hvec⟩:=hR.vec nm c hc
    have hcell:∀ j (hj:j<((flatD c.2).drop off).length),∃ v,w.cell? ⟨b,o0+off+j,none⟩=some v∧leaf v=true∧RepD w (Tot Mo s.bx s.ow m) ((flatD c.2).drop off)[j] v:=fun j hj=>by
     obtain ⟨v,h1,h2,h3⟩:=hvec.cells (off+j) (by grind)
     have hrow:=(hvec.hd.row e0 (fun h=>by
      have:=hvec.cap
      have:c.2=[]:=List.eq_nil_of_length_eq_zero (by omega)
      grind [flatD])).2.1
     grind
    have hcv:∀ j,j<((flatD c.2).drop off).length→w.cell? ⟨b,o0+off+j,none⟩=some ((w.cell? ⟨b,o0+off+j,none⟩).getD undef):=fun j hj=>by
     grind
    refine op_value (w':=w) (by grind) (by
     simp only [execOp,hop,e,Instr.loadAt,Instr.sureAddr]
     exact execOp_v (by simp only [Sem.run_bind,Sem.run_pure,Result.andThen_ok];exact run_loadVar (fun j=>(w.cell? ⟨b,o0+off+j,none⟩).getD undef) hag hz (fun j hj=>hcv j (by omega)))) (next_put hR hd hK ?_ h)
    refine repV_takeD hle hz (fun j hj=>?_) (fun j hj=>?_)
    ·grind
    grind
   grind
  grind
 grind
end
end Go.Ab
namespace Go.Ab
open Go Go.RowKit
variable {P:Program} {w:World} {m:Mp}
theorem RepV.toD_cells {M:Cells} {v:V} {c:Value} {x:D} (h:RepV w M m v c) (hx:v.toD=some x):c.cells.size=x.cells.length ∧
  (∀ j,j<x.cells.length→leaf (c.cells.getD j undef)=true)∧∀ j (hj:j<x.cells.length),RepD w M x.cells[j] (c.cells.getD j undef):=by
 have hd:=h.toD hx
 cases hd with
 | v h=>exact ⟨by cases c <;> simp_all [okLeaf,Value.cells,D.cells],fun j hj=>by
   have:j=0:=by grind [D.cells]
   subst this
   cases c <;> simp_all [okLeaf,Value.cells,leaf,Array.getD],fun j hj=>by
   have:j=0:=by grind [D.cells]
   subst this
   have e:c.cells.getD 0 undef=c:=by cases c <;> simp_all [okLeaf,Value.cells,Array.getD]
   rw [e];exact .v h⟩
 | agg hs hl hr=>exact ⟨hs,hl,hr⟩
 | sl sz b off cv h1 h2 h3 h4 h5 h6=>exact ⟨rfl,fun j hj=>by
   have:j=0:=by grind [D.cells]
   subst this;rfl,fun j hj=>by
   have:j=0:=by grind [D.cells]
   subst this;exact .sl sz b off cv h1 h2 h3 h4 h5 h6⟩
theorem flatD_get {sz:Nat} (hz:0<sz):∀ {xs:List D} (_:∀ x∈xs,x.cells.length=sz) (j:Nat),(flatD xs)[j]? = (xs[j / sz]?).bind fun e=>e.cells[j % sz]?
 | [],_,j=>by simp [flatD]
 | x::xs,h,j=>by
  have hx:=h x List.mem_cons_self
  have ih:=flatD_get hz (xs:=xs) (fun y hy=>h y (List.mem_cons_of_mem _ hy))
  have e:flatD (x::xs)=x.cells++flatD xs:=by simp [flatD]
  rw [e]
  by_cases hj:j<sz
  ·rw [List.getElem?_append_left (by omega),Nat.div_eq_of_lt hj,Nat.mod_eq_of_lt hj];rfl
  ·rw [List.getElem?_append_right (by omega),hx,ih]
   have h1:j / sz=(j - sz) / sz+1:=by
    rw [← Nat.add_div_right _ hz];congr 1;omega
   have h2:j % sz=(j - sz) % sz:=Nat.mod_eq_sub_mod (by omega)
   rw [h1,h2,List.getElem?_cons_succ]
theorem setE_len {sz off:Nat} {d:D} {xs:List D}:(setE sz off d xs).length=xs.length:=by
 grind [setE]
theorem setE_sz {sz off:Nat} {d:D} {xs:List D} (h:∀ x∈xs,x.cells.length=sz) (hin:off % sz+d.cells.length≤sz):∀ x∈setE sz off d xs,x.cells.length=sz:=by
 unfold setE
 split
 ·rename_i e he
  have hee:=h e (List.mem_of_getElem? he)
  split
  ·rename_i hc
   intro x hx
   rcases List.mem_or_eq_of_mem_set hx with hx | rfl
   ·exact h x hx
   ·omega
  ·intro x hx
   rcases List.mem_or_eq_of_mem_set hx with hx | rfl
   ·exact h x hx
   ·show (List.length (_++_++_))=sz
    simp only [List.length_append,List.length_take,List.length_drop];omega
 ·exact h
theorem setE_get {sz off:Nat} {d:D} {xs:List D} (hz:0<sz) (h:∀ x∈xs,x.cells.length=sz) (hin:off % sz+d.cells.length≤sz) (hlt:off / sz<xs.length) (j:Nat) :
  (flatD (setE sz off d xs))[j]? = if off≤j∧j<off+d.cells.length then d.cells[j - off]? else (flatD xs)[j]?:=by
 rw [flatD_get hz (setE_sz h hin),flatD_get hz h]
 have he:xs[off / sz]? = some xs[off / sz]:=List.getElem?_eq_getElem hlt
 have hee:=h xs[off / sz] (List.getElem_mem hlt)
 have hdm:=Nat.div_add_mod off sz
 have hjm:=Nat.div_add_mod j sz
 have hm1:=Nat.mod_lt off hz
 have hm2:=Nat.mod_lt j hz
 have key:∀ e' : D,e'.cells.length=sz→(∀ i,i<sz→e'.cells[i]? = if off % sz≤i∧i<off % sz+d.cells.length then d.cells[i - off % sz]? else xs[off / sz].cells[i]?) →
   ((xs.set (off / sz) e')[j / sz]?.bind fun e=>e.cells[j % sz]?)=if off≤j∧j<off+d.cells.length then d.cells[j - off]? else xs[j / sz]?.bind fun e=>e.cells[j % sz]?:=by
  intro e' hl hg
  by_cases hq:off / sz=j / sz
  ·rw [← hq,List.getElem?_set_self hlt,he]
   simp only [Option.bind_some]
   rw [hg _ hm2]
   have e1:off=sz * (off / sz)+off % sz:=hdm.symm
   have e2:j=sz * (off / sz)+j % sz:=by rw [hq];exact hjm.symm
   have hiff:(off % sz≤j % sz∧j % sz<off % sz+d.cells.length)↔(off≤j∧j<off+d.cells.length):=by omega
   by_cases hc:off≤j∧j<off+d.cells.length
   ·rw [if_pos hc,if_pos (hiff.2 hc)];congr 1;omega
   ·rw [if_neg hc,if_neg (fun h=>hc (hiff.1 h))]
  ·rw [List.getElem?_set_ne hq]
   rw [if_neg]
   rintro ⟨h1,h2⟩
   have a1:off / sz≤j / sz:=Nat.div_le_div_right h1
   have a2:off / sz+1≤j / sz:=by omega
   have a3:=Nat.mul_le_mul_left sz a2
   rw [Nat.mul_add,Nat.mul_one] at a3
   omega
 unfold setE
 rw [he]
 simp only
 split
 ·rename_i hc
  refine key d (by omega) fun i hi=>?_
  rw [if_pos ⟨by omega,by omega⟩,hc.1,Nat.sub_zero]
 ·refine key _ (by show (List.length (_++_++_))=sz;simp only [List.length_append,List.length_take,List.length_drop];omega) fun i hi=>?_
  show (_++_++_)[i]? = _
  by_cases h1:i<off % sz
  ·rw [if_neg (by omega),List.append_assoc,List.getElem?_append_left (by simp;omega),List.getElem?_take_of_lt h1]
  ·by_cases h2:i<off % sz+d.cells.length
   ·rw [if_pos ⟨by omega,h2⟩,List.append_assoc,List.getElem?_append_right (by simp;omega),List.getElem?_append_left (by simp;omega)]
    congr 1;simp;omega
   ·rw [if_neg (by omega),List.append_assoc,List.getElem?_append_right (by simp;omega),List.getElem?_append_right (by simp;omega),List.getElem?_drop]
    congr 1;simp;omega
theorem lookN_setN' {α:Type} {n n' : Name} {x:α} {l:List (Name×α)} {d:α} (h:lookN n' (setN n x l)=some d):(n' = n∧d=x)∨(n' ≠ n∧lookN n' l=some d):=by
 rw [lookN_setN] at h
 by_cases e:n' = n
 ·simp_all
 grind
theorem Rel.vecStore {Mo m s as w} (h:Rel Mo m s as w) (nm:Name) {c:Nat×List D} (hc:lookN nm s.vc=some c) {b o0:Nat} (e0:(m.vl nm).1=some ⟨b,o0,none⟩) (off:Nat) (vs:List Value) (d:D)
  (hd:d.cells.length=vs.length) (hlv:∀ v∈vs,leaf v=true) (hrep:∀ j (hj:j<vs.length),RepD w (Tot Mo s.bx s.ow m) (d.cells[j]'(by omega)) vs[j]) (hin:off % c.1+vs.length≤c.1) (hlt:off / c.1<c.2.length) (hpos:0<vs.length) :
  Rel Mo m { s with vc:=setN nm (c.1,setE c.1 off d c.2) s.vc } as (putCells w b (o0+off) vs)∧Step m s w m { s with vc:=setN nm (c.1,setE c.1 off d c.2) s.vc } (putCells w b (o0+off) vs) ∧
   ∃ cs T,w.heap[b]? = some (.cells cs T (0,0))∧o0+off+vs.length≤cs.size:=by
 obtain ⟨hn,hv⟩:=h.vec nm c hc
 obtain ⟨ho0,hrow,cs,T,hblk,hsz⟩:=hv.hd.row e0 (fun h=>by have h2:=hv.cap;rw [h] at h2;exact absurd (Nat.lt_of_lt_of_le hlt h2) (Nat.not_lt_zero _))
 have hz:0<c.1:=by omega
 have hoff:off+vs.length≤c.2.length * c.1:=by
  have h1:=Nat.div_add_mod off c.1
  have h2:=Nat.mul_le_mul_left c.1 (show off / c.1+1≤c.2.length by omega)
  rw [Nat.mul_add,Nat.mul_one,Nat.mul_comm c.1 c.2.length] at h2
  omega
 have hcap:=Nat.mul_le_mul_right c.1 hv.cap
 obtain ⟨cs',h1,h2,h3,h4,h5,h6,h7,h8,h9⟩:=putCells_spec vs w b (o0+off) cs T hblk (by omega)
 have hne:nonempty (m.ow nm):=by rw [hrow];simp only [nonempty];omega
 have hmut:∀ j,o0≤j→j<o0+(m.vl nm).2.2 * c.1→Mut s.bx s.ow m b j:=fun j hj1 hj2=>.inr ⟨nm,hn,by rw [hrow],by rw [hrow];exact hj1,by rw [hrow];exact hj2⟩
 have hst:Stab w (Tot Mo s.bx s.ow m) (putCells w b (o0+off) vs) (Tot Mo s.bx s.ow m):=by
  intro b' j x hx hm
  refine ⟨?_,hm⟩
  by_cases e:b' = b
  ·subst e
   rw [cell_of_block h1,h3 j (by
    by_cases hj:o0+off≤j∧j<o0+off+vs.length
    ·exact absurd (.inr (hmut j (by omega) (by omega))) hm
    ·omega),← cell_of_block hblk];exact hx
  ·rw [World.cell?_of_block (w:=w) (h5 b' e)];exact hx
 have hsh:Shape w (putCells w b (o0+off) vs):=by
  intro b' d T' hd
  by_cases e:b' = b
  ·subst e;rw [hblk] at hd;cases hd;exact ⟨cs',h1,h2⟩
  ·exact ⟨d,by rw [h5 b' e];exact hd,rfl⟩
 have hall:∀ x:V,(∀ n∈x.bxs,m.bx n=m.bx n)∧(∀ i∈x.ows,∀ sz y,Spare w m i sz y→Spare (putCells w b (o0+off) vs) m i sz y)∧(∀ l∈x.lps,m.lp l=m.lp l):=fun x =>
  ⟨fun _ _=>rfl,fun i _ sz y hs=>spare_shape hs rfl hsh,fun _ _=>rfl⟩
 have hbne:∀ n d,lookN n s.bx=some d→m.bx n≠b:=fun n d hd' e=>h.owb nm hn hne n d hd' (by rw [hrow];exact e.symm)
 refine ⟨h.remap (s':={ s with vc:=setN nm (c.1,setE c.1 off d c.2) s.vc }) rfl rfl rfl rfl rfl hst ⟨fun t=>hall _,fun g hg t=>hall _,fun n d hd=>hall _⟩
  (by rw [h9];exact Nat.le_refl _) (fun b' o ho hno=>?_) (fun _ _ _=>rfl) ?_ h.inj ?_ h.owx h.owb h.owm ?_,?_,cs,T,hblk,by omega⟩
 ·have hne' : b' ≠ b:=fun e=>by subst e;rw [hblk] at ho;cases ho;exact hno _ _ _ rfl
  rw [h5 b' hne'];exact ho
 ·intro n d hl
  obtain ⟨ds,T',hd'⟩:=h.box n d hl
  have hne':=hbne n d hl
  exact ⟨ds,T',hd'.heap.mono (fun o ho _ _=>by rw [h5 _ hne'];exact ho),hd'.size,hd'.leafs,fun i hi=>(hd'.rep i hi).mono hst (fun _ _=>rfl) (fun i _ sz y hs=>spare_shape hs rfl hsh) (fun _ _=>rfl)⟩
 ·intro i hi hni
  obtain ⟨d',T',hd',hle'⟩:=h.oww i hi hni
  obtain ⟨d'',hd'',hs'⟩:=hsh _ _ _ hd'
  exact ⟨d'',T',hd'',by omega⟩
 ·intro k e hk
  rcases lookN_setN' hk with ⟨rfl,rfl⟩ | ⟨hkn,hk⟩
  ·refine ⟨hn,⟨?_,by rw [setE_len];exact hv.len,by rw [setE_len];exact hv.cap,hv.capm,by rw [setE_len];exact hv.mx,setE_sz hv.sz (by omega),fun j hj=>?_⟩⟩
   ·subst ho0
    refine .inr ⟨b,cs',T,e0,by rw [hrow];simp,h1,by simp only;omega⟩
   ·have hget:=setE_get (d:=d) hz hv.sz (by omega) hlt j
    have hjl:j<c.2.length * c.1:=by rw [flatD_len (setE_sz hv.sz (by omega)),setE_len] at hj;exact hj
    rw [List.getElem?_eq_getElem hj] at hget
    rw [hrow]
    simp only
    by_cases hin' : off≤j∧j<off+d.cells.length
    ·rw [if_pos hin'] at hget
     have hj' : j - off<vs.length:=by omega
     refine ⟨vs[j - off],?_,hlv _ (List.getElem_mem _),?_⟩
     ·have:=h4 (j - off) hj'
      rw [cell_of_block h1,show o0+j=o0+off+(j - off) from by omega,this]
     ·have hg:d.cells[j - off]? = some (d.cells[j - off]'(by omega)):=List.getElem?_eq_getElem _
      rw [hg,Option.some.injEq] at hget
      rw [hget]
      exact (hrep (j - off) hj').mono hst
    ·rw [if_neg hin'] at hget
     have hjf:j<(flatD c.2).length:=by rw [flatD_len hv.sz];exact hjl
     obtain ⟨v,g1,g2,g3⟩:=hv.cells j hjf
     rw [hrow] at g1
     simp only at g1
     refine ⟨v,?_,g2,?_⟩
     ·rw [cell_of_block h1,h3 (o0+j) (by omega),← cell_of_block hblk];exact g1
     ·rw [List.getElem?_eq_getElem hjf] at hget
      rw [Option.some.injEq] at hget
      rw [hget];exact g3.mono hst
  ·obtain ⟨g1,g2⟩:=h.vec k e hk
   refine ⟨g1,g2.mono hst rfl rfl (fun hnk o v _ _ hcell=>?_) hsh⟩
   have:(m.ow k).1≠b:=fun e=>hkn (h.owx k g1 nm hn hnk hne (by rw [hrow];exact e))
   rw [World.cell?_of_block (w:=w) (h5 _ this)];exact hcell
 ·refine ⟨⟨h6,h7,h8,by rw [h9];exact Nat.le_refl _,fun b' hb' hC _=>?_,fun b' d T' g hd _=>?_⟩,fun _ _ _ hm=>hm,fun b _ hl=>hl,rfl,rfl,fun _ _=>⟨rfl,fun _ _=>rfl⟩⟩
  ·exact h5 b' (fun e=>hC (o0+off) (by rw [e];exact hmut _ (by omega) (by omega)))
  ·by_cases e:b' = b
   ·subst e
    rw [hblk] at hd;cases hd
    refine ⟨cs',h1,h2,fun o ho=>h3 o ?_⟩
    by_cases hj:o0+off≤o∧o<o0+off+vs.length
    ·exact absurd (hmut o (by omega) (by omega)) ho
    ·omega
   ·exact ⟨d,by rw [h5 b' e];exact hd,rfl,fun _ _=>rfl⟩
end Go.Ab
namespace Go.Ab
open Go Go.RowKit
variable {P:Program} {o:Oper} {a:Act} {w:World} {K:Act→World→Prop} {Q:Exit→Act→World→Prop} {n:Nat} {Mo:Cells} {m:Mp} {s:Sa} {sv:List Act} {k:Sa→Prop} {p:Name} {S:Sems}
theorem dead_rep {M:Cells} {m:Mp} {c:Value}:RepV w M m .dead c:=.dead
section
variable (hR:Rel Mo m s (a::sv) w) (hd:∀ d,o.dst=some d→d<s.n) (hK:OpNext Mo m s o.dst a sv w k K) (h:evOp P S p o s k)
include hR hd hK h
theorem op_store {t:TypeId} {x y:Operand} (hop:o.op = .store t x y):o.wpIn (Wd (rdOf m s)) n P a w K Q:=by
 simp only [evOp,hop] at h
 have hv:=hR.operand x
 split at h
 ·rename_i nm off hx
  rw [hx] at hv
  split at h
  ·rename_i c0 hc0
   obtain ⟨m',h1,h2,h3,h4,h5,h6,h7⟩:=hR.claim (hR.operand y) ((1000000+off)::nm) (esz P t)
   split at h
   ·rename_i c hc
    obtain ⟨hcy,htz,hlen,hle,h⟩:=h
    obtain ⟨hs1,hs2,hs3⟩:=h2.cells (claim_cells hcy)
    obtain ⟨i,hi⟩:=tsz_some htz
    have hleaf:∀ v∈(a.eval y).cells.toList,leaf v=true:=by
     intro v hvm
     obtain ⟨j,hj,rfl⟩:=List.getElem_of_mem hvm
     have hj' : j<(a.eval y).cells.size:=by grind
     simp_all
    have hsl:(a.eval y).cells.toList.length=(s.claim ((1000000+off)::nm) (esz P t) (s.get y)).1.cells.length:=by grind
    obtain ⟨cs,T,hb⟩:=h1.box nm c hc
    have hrun:(Instr.storeAt t (a.eval x) (a.eval y)).run P w = .ok () (putCells w (m'.bx nm) off (a.eval y).cells.toList):=by
     rw [hv.ptr_inv]
     simp only [Instr.storeAt,Instr.sureAddr,Sem.run_bind,Sem.run_pure,Result.andThen_ok,storeVar]
     have e1:(sizeOf t).run P w = .ok (tsz P t) w:=by simp [sizeOf,typeInfo,hi,tsz]
     simp only [e1,Result.andThen_ok]
     rw [if_neg (by grind)]
     rw [h4]
     have:=run_storeCells (P:=P) (a.eval y).cells.toList hleaf w (m.bx nm) off 0 cs T (by rw [← h4];exact hb.heap.cells (isMpc_of (by omega))) (by rw [hsl,hb.size];omega)
     grind
    obtain ⟨sp1,sp2⟩:=storeBox_spec (w:=w) (M:=Tot Mo (s.claim ((1000000+off)::nm) (esz P t) (s.get y)).2.bx (s.claim ((1000000+off)::nm) (esz P t) (s.get y)).2.ow m') (m:=m') (off:=off) (x:=(s.claim ((1000000+off)::nm) (esz P t) (s.get y)).1) (c:=c) (by omega)
    obtain ⟨h8,h9⟩:=h1.storeBox nm hc off (a.eval y).cells.toList (isMpc_of (by omega)) (isMpc_of (by grind)) hleaf (by grind) (c':=storeBox off (s.claim ((1000000+off)::nm) (esz P t) (s.get y)).1 c) sp1 (by
     intro ds ds' hrep hsz hsz' hout hin i hi
     by_cases ho:i<off∨off+(s.claim ((1000000+off)::nm) (esz P t) (s.get y)).1.cells.length≤i
     ·refine (sp2 i hi _).1 ho (by omega) ?_
      have:=hrep i (by omega)
      simp_all
     ·refine (sp2 i hi _).2 (by omega) ?_
      have hj:=hin (i - off) (by rw [hsl];omega)
      rw [show off+(i - off)=i from by omega] at hj
      rw [Array.getD_eq_getD_getElem?,hj,Option.getD_some]
      have:=hs3 (i - off) (by omega)
      rw [Array.getD_eq_getD_getElem?,Array.getElem?_eq_getElem (by omega),Option.getD_some] at this
      simpa using this)
    exact op_skip (by simp [hop]) (by simp only [execOp,hop];exact execOp_u hrun)
     (next_put' hK h8 (by simp only [h7];exact hd) (h3.trans h9) (by simp only [rdOf,h6,h5]) dead_rep h)
   grind
  grind
 ·rename_i nm off hx
  rw [hx] at hv
  obtain ⟨b,o0,e0,ev⟩:=hv.vpt_inv
  split at h
  ·rename_i c d hc hyd
   obtain ⟨htz,hcy,hlen,hin,hlt,h⟩:=h
   obtain ⟨t1,t2,t3⟩:=(hR.operand y).toD_cells hyd
   obtain ⟨i,hi⟩:=tsz_some htz
   have hvl:(a.eval y).cells.toList.length=d.cells.length:=by simpa using t1
   have hleaf:∀ v∈(a.eval y).cells.toList,leaf v=true:=by
    intro v hvm
    obtain ⟨j,hj,rfl⟩:=List.getElem_of_mem hvm
    have hj' : j<(a.eval y).cells.size:=by simpa using hj
    have:=t2 j (by omega)
    rw [Array.getD_eq_getD_getElem?,Array.getElem?_eq_getElem hj'] at this
    simpa using this
   obtain ⟨h1,h2,cs,T,hblk,hsz⟩:=hR.vecStore nm hc e0 off (a.eval y).cells.toList d hvl.symm hleaf (fun j hj=>by
    have hj' : j<(a.eval y).cells.size:=by simpa using hj
    have:=t3 j (by omega)
    rw [Array.getD_eq_getD_getElem?,Array.getElem?_eq_getElem hj',Option.getD_some] at this
    simpa using this) (by rw [hvl,hlen];exact hin) hlt (by rw [hvl,hlen];omega)
   have hrun:(Instr.storeAt t (a.eval x) (a.eval y)).run P w = .ok () (putCells w b (o0+off) (a.eval y).cells.toList):=by
    rw [ev]
    simp only [Instr.storeAt,Instr.sureAddr,Sem.run_bind,Sem.run_pure,Result.andThen_ok,storeVar]
    have e1:(sizeOf t).run P w = .ok (tsz P t) w:=by simp [sizeOf,typeInfo,hi,tsz]
    simp only [e1,Result.andThen_ok]
    rw [if_neg (by simp;omega)]
    have:=run_storeCells (P:=P) (a.eval y).cells.toList hleaf w b (o0+off) 0 cs T hblk (by omega)
    simpa using this
   exact op_skip (by simp [hop]) (by simp only [execOp,hop];exact execOp_u hrun) (next_put' hK h1 hd h2 rfl dead_rep h)
  ·exact h.elim
 grind
theorem op_field {t:TypeId} {x:Operand} {i:Nat} (hop:o.op = .field t x i):o.wpIn (Wd (rdOf m s)) n P a w K Q:=by
 simp only [evOp,hop] at h
 have hv:=hR.operand x
 split at h
 ·rename_i off ft hf
  obtain ⟨fs,f,hu,hfi,e1,e2⟩:=tfield_inv hf
  simp only at e1 e2
  split at h
  ·rename_i ag hag
   obtain ⟨hz,hle,hsh,h⟩:=h
   have hagg:∃ cs,a.eval x = .agg cs∧isCells (s.get x)=true:=by
    revert hsh hv
    generalize s.get x=v
    generalize a.eval x=cc
    intro hv hsh
    cases v with
    | d x' =>
     cases x' with
     | agg ds=>cases hv with | d hv=>cases hv with | agg _ _ _=>exact ⟨_,rfl,rfl⟩
     | _=>cases hsh
    | agg cs=>cases hv;exact ⟨_,rfl,rfl⟩
    | _=>cases hsh
   obtain ⟨cs,ecs,hcc⟩:=hagg
   obtain ⟨hs1,hs2,hs3⟩:=hv.cells hcc
   rw [ecs] at hs1 hs2 hs3
   simp only [Value.cells] at hs1 hs2 hs3
   refine op_value (v:=if ag then .agg ((List.range (tsz P ft)).map (fun j=>cs.getD (off+j) undef)).toArray else cs.getD (off+0) undef) (w':=w) (by grind) (by
    simp only [execOp,hop,ecs]
    refine execOp_v ?_
    obtain ⟨d,hd1,_⟩:=tagg_underlying hag
    simp only [Instr.field,Sem.run_bind,run_underlying hu,Result.andThen_ok,hfi,asAgg,Sem.run_pure,part,e2,e1,run_isAgg hag]
    cases ag with
    | true =>
     simp only [if_true,Sem.run_bind,run_sizeOf' hd1,Result.andThen_ok,Sem.run_pure]
     congr 2
     apply Array.ext
     ·grind
     ·intro j h1 h2
      simp at h1 h2
      simp [Array.getD_eq_getD_getElem?,Array.getElem?_eq_getElem (show off+j<cs.size by omega)]
    | false =>
     have:=hz rfl
     simp only [Bool.false_eq_true,if_false,Nat.add_zero,Array.getD_eq_getD_getElem?]
     rw [Array.getElem?_eq_getElem (by omega)];rfl) (next_put hR hd hK ?_ h)
   exact repV_loadBox (f:=fun j=>cs.getD (off+j) undef) hle hz (fun j hj=>hs2 _ (by omega)) (fun j hj=>hs3 _ (by omega))
  grind
 grind
theorem op_index {t:TypeId} {x ix:Operand} (hop:o.op = .index t x ix):o.wpIn (Wd (rdOf m s)) n P a w K Q:=by
 simp only [evOp,hop] at h
 have hv:=hR.operand x
 split at h
 ·rename_i i hi
  obtain ⟨q,hq⟩:=(hR.operand ix).int hi
  split at h
  ·rename_i nn ft hte
   have hu:=tarr_inv hte
   simp only at hu
   split at h
   ·rename_i ag hag
    obtain ⟨hz,h0,h1,hle,hsh,h⟩:=h
    have hagg:∃ cs,a.eval x = .agg cs∧isCells (s.get x)=true:=by
     revert hsh hv
     generalize s.get x=v
     generalize a.eval x=cc
     intro hv hsh
     cases v with
     | d x' =>
      cases x' with
      | agg ds=>cases hv with | d hv=>cases hv with | agg _ _ _=>exact ⟨_,rfl,rfl⟩
      | _=>cases hsh
     | agg cs=>cases hv;exact ⟨_,rfl,rfl⟩
     | _=>cases hsh
    obtain ⟨cs,ecs,hcc⟩:=hagg
    obtain ⟨hs1,hs2,hs3⟩:=hv.cells hcc
    rw [ecs] at hs1 hs2 hs3
    simp only [Value.cells] at hs1 hs2 hs3
    generalize ho:i.toNat * tsz P ft=off at hle h
    refine op_value (v:=if ag then .agg ((List.range (tsz P ft)).map (fun j=>cs.getD (off+j) undef)).toArray else cs.getD (off+0) undef) (w':=w) (by grind) (by
     simp only [execOp,hop,ecs]
     refine execOp_v ?_
     obtain ⟨d,hd1,_⟩:=tagg_underlying hag
     simp only [Instr.index,hq,asIntOf,Sem.run_bind,Sem.run_pure,Result.andThen_ok,run_underlying hu]
     rw [if_pos ⟨h0,by omega⟩]
     simp only [Sem.run_bind,run_sizeOf' hd1,Result.andThen_ok,Sem.run_pure,part,run_isAgg hag,ho]
     cases ag with
     | true =>
      simp only [if_true,Sem.run_bind,run_sizeOf' hd1,Result.andThen_ok,Sem.run_pure]
      congr 2
      apply Array.ext
      ·grind
      ·intro j h1 h2
       simp at h1 h2
       simp [Array.getD_eq_getD_getElem?,Array.getElem?_eq_getElem (show off+j<cs.size by omega)]
     | false =>
      have:=hz rfl
      simp only [Bool.false_eq_true,if_false,Nat.add_zero,Array.getD_eq_getD_getElem?]
      rw [Array.getElem?_eq_getElem (by omega)];rfl) (next_put hR hd hK ?_ h)
    exact repV_loadBox (f:=fun j=>cs.getD (off+j) undef) hle hz (fun j hj=>hs2 _ (by omega)) (fun j hj=>hs3 _ (by omega))
   grind
  ·split at h
   ·rename_i b hus hxx
    obtain ⟨h0,c,hc,h⟩:=h
    have hxv:a.eval x = .string b:=by
     rw [hxx] at hv
     generalize a.eval x=cc at hv
     cases hv with | d hv=>cases hv;rfl
    refine op_value (v:=.int .u8 c.toNat) (w':=w) (by grind) (by
     simp_all [execOp,Instr.index,asIntOf,run_underlying]) (next_put hR hd hK ?_ h)
    refine .d (.v ?_)
    have:=c.toNat_lt
    simp [okLeaf,inR];omega
   grind
 grind
theorem op_slice {t:TypeId} {x:Operand} {lo hi:Option Operand} (hop:o.op = .slice t x lo hi none):o.wpIn (Wd (rdOf m s)) n P a w K Q:=by
 simp only [evOp,hop] at h
 have hv:=hR.operand x
 split at h
 ·rename_i e xs l he hxs hl
  have hu:=telem_inv he
  split at h
  ·rename_i hh hhi
   obtain ⟨hez,h0,h1,h2,hlen,h⟩:=h
   obtain ⟨ad,cap,sz,b,off,cv,ec,hc1,hc2,ha,hsz,hcell,hrep⟩:=(hv.slice hxs).sl_inv
   have hb:(Instr.sliceBounds true xs.length cap (lo.map a.eval) (hi.map a.eval) none).run P w = .ok (l.toNat,hh.toNat,cap) w:=by
    have e1:(match lo.map a.eval with | some v=>Instr.sliceBound v hh.toNat .sliceB | none=>pure 0:Sem Nat).run P w = .ok l.toNat w:=by
     cases lo with
     | none=>simp only [Option.some.injEq] at hl;subst hl;simp
     | some l' =>
      simp only at hl
      obtain ⟨q,hq⟩:=(hR.operand l').int hl
      simp only [Option.map_some,Instr.sliceBound,hq,Sem.run_bind,asIntOf,Sem.run_pure,Result.andThen_ok]
      rw [if_pos ⟨h0,by omega⟩];simp
    cases hi with
    | none =>
     grind [Instr.sliceBounds,Sem.run_bind,Sem.run_pure,Result.andThen_ok]
    | some h' =>
     simp only at hhi
     obtain ⟨q,hq⟩:=(hR.operand h').int hhi
     have e2:(Instr.sliceBound (a.eval h') cap .sliceAcap).run P w = .ok hh.toNat w:=by
      simp only [Instr.sliceBound,hq,Sem.run_bind,asIntOf,Sem.run_pure,Result.andThen_ok]
      rw [if_pos ⟨by omega,by omega⟩];simp
     cases lo with
     | none =>
      simp only [Option.some.injEq] at hl;subst hl
      simp [Instr.sliceBounds,e2]
     | some l' =>
      simp only [Option.map_some] at e1
      simp only [Instr.sliceBounds,Option.map_some,Sem.run_bind,Sem.run_pure,Result.andThen_ok,Option.isSome_none,Bool.false_eq_true,if_false,if_true,e2,e1]
   have hrun:(Instr.sliceAt t (a.eval x) (lo.map a.eval) (hi.map a.eval) none).run P w = .ok (.slice (if cap=l.toNat then ad else ad.map (·.add (l.toNat * tsz P e))) (hh.toNat - l.toNat) (cap - l.toNat)) w:=by
    rw [ec]
    simp only [Instr.sliceAt,Sem.run_bind,run_underlying hu,Result.andThen_ok,Instr.slice,hb,run_sizeOf_ne hez,Sem.run_pure]
   have hl1:((xs.take hh.toNat).drop l.toNat).length=hh.toNat - l.toNat:=by simp;omega
   have hrepD:RepD w (Tot Mo s.bx s.ow m) (.sl ((xs.take hh.toNat).drop l.toNat)) (.slice (if cap=l.toNat then ad else ad.map (·.add (l.toNat * tsz P e))) (hh.toNat - l.toNat) (cap - l.toNat)):=?_
   ·refine op_value (w':=w) (by simp [hop]) (by simp only [execOp,hop,Option.map_none];exact execOp_v hrun) (next_put hR hd hK ?_ h)
    unfold slicedV
    split
    ·rename_i i z xs0 hx
     split
     ·rename_i hz
      subst hz
      rw [hx] at hv hxs
      simp only [sliceOf,Option.some.injEq] at hxs
      subst hxs
      simp only [Option.some.injEq] at hhi
      subst hhi
      rw [ec] at hv
      generalize hc:Value.slice ad xs0.length cap=c at hv
      cases hv with
      | own hD hs9 hsp =>
       subst hc
       have hnn:(xs0.length:Int).toNat=xs0.length:=Int.toNat_natCast _
       rw [hnn] at hrepD ⊢
       refine .own hrepD (fun d hd9=>hs9 d (List.mem_of_mem_take (List.mem_of_mem_drop hd9))) ?_
       cases ad with
       | none =>
        simp only [Spare] at hsp
        have:cap=l.toNat:=by omega
        rw [if_pos this]
        simp only [Spare];omega
       | some ad =>
        simp only [Spare] at hsp
        by_cases hcl:cap=l.toNat
        ·rw [if_pos hcl]
         simp only [Spare]
         refine .inl ⟨by omega,?_⟩
         rcases hsp with ⟨_,h9⟩ | ⟨_,h8,h9,_⟩
         ·exact h9
         ·rw [h9];simp only
          have:xs0.length=cap:=by omega
          rw [this];exact Nat.le_refl _
        ·rw [if_neg hcl]
         simp only [Spare,Option.map_some]
         rcases hsp with ⟨h8,h9⟩ | ⟨h6,h8,h9,c0,T0,h4,h5⟩
         ·exact .inl ⟨by omega,h9⟩
         ·have e0:ad=⟨ad.block,ad.off,none⟩:=by cases ad;simp at h6;subst h6;rfl
          rw [e0,addr_add]
          have hml:l.toNat * tsz P e+(xs0.length - l.toNat) * tsz P e=xs0.length * tsz P e:=by rw [← Nat.add_mul];congr 1;omega
          have hmc:l.toNat * tsz P e+(cap - l.toNat) * tsz P e=cap * tsz P e:=by rw [← Nat.add_mul];congr 1;omega
          refine .inr ⟨rfl,by omega,?_,c0,T0,h4,?_⟩
          ·rw [h9]
           simp only
           rw [Nat.add_assoc,Nat.add_assoc,hml,hmc]
          ·simp only
           rw [Nat.add_assoc,hmc];exact h5
     ·exact .d hrepD
    ·exact .d hrepD
   rw [← hl1]
   have hsz' : l.toNat<hh.toNat→sz=tsz P e∨l=0:=fun hlt=>by
    by_cases h00:l=0
    ·exact .inr h00
    ·left
     have h1':=hsz 0 (by omega)
     rw [← h1'];exact hlen (by omega) _ (List.getElem_mem _)
   have hget:∀ i (hi:i<((xs.take hh.toNat).drop l.toNat).length),((xs.take hh.toNat).drop l.toNat)[i]=xs[l.toNat+i]'(by omega):=fun i hi=>by simp
   have hoff:∀ i j,i<hh.toNat - l.toNat→off+l.toNat * tsz P e+i * sz+j=off+(l.toNat+i) * sz+j:=fun i j hi=>by
    rcases hsz' (by omega) with e' | e'
    ·rw [e',Nat.add_mul];omega
    ·rw [e'];simp
   refine .sl sz b (off+l.toNat * tsz P e) (fun i j=>cv (l.toNat+i) j) (by omega) (by omega) (fun hne=>?_) (fun i hi=>?_) (fun i hi j hj=>?_) (fun i hi j hj=>?_)
   ·have hlt:l.toNat<hh.toNat:=by
     have:((xs.take hh.toNat).drop l.toNat).length≠0:=fun e0=>hne (List.eq_nil_of_length_eq_zero e0)
     omega
    rw [if_neg (by omega),ha (by intro e0;subst e0;simp at h2;omega)]
    simp [addr_add]
   ·rw [hget i hi];exact hsz _ _
   ·simp only [hget i hi] at hj
    rw [hoff i j (by omega)];exact hcell _ _ j hj
   grind
  grind
 grind
theorem op_indexAddr {t:TypeId} {x ix:Operand} (hop:o.op = .indexAddr t x ix):o.wpIn (Wd (rdOf m s)) n P a w K Q:=by
 simp only [evOp,hop] at h
 have hv:=hR.operand x
 split at h
 ·rename_i i hi
  obtain ⟨q,hq⟩:=(hR.operand ix).int hi
  split at h
  ·rename_i e he
   have hu:=telem_inv he
   split at h
   ·rename_i xs hxs
    obtain ⟨hez,h0,h1,h⟩:=h
    obtain ⟨ad,cap,sz,b,off,cv,ec,hc1,hc2,ha,hsz,hcell,hrep⟩:=(hv.slice hxs).sl_inv
    have hlt:i.toNat<xs.length:=by omega
    obtain ⟨hlen,h⟩:=h xs[i.toNat] (List.getElem?_eq_getElem hlt)
    have hsz1:sz=tsz P e:=by grind
    have hne:xs≠[]:=fun e0=>by grind
    have hrun:(Instr.indexAt t (a.eval x) (a.eval ix)).run P w = .ok (.pointer (some ⟨b,off+i.toNat * tsz P e,none⟩)) w:=by
     simp_all [Instr.indexAt,asIntOf,run_underlying,run_sizeOf_ne,addr_add]
    refine op_value (w':=w) (by grind) (by simp only [execOp,hop];exact execOp_v hrun) (next_put hR hd hK (.ref b _ (fun j=>cv i.toNat j) (fun j hj=>?_) (fun j hj=>hrep _ hlt j hj)) h)
    grind
   ·split at h
    ·rename_i nm hx
     split at h
     ·rename_i c hc
      obtain ⟨hez,hce,h0,h1,h⟩:=h
      rw [hx] at hv
      have ec:=hv.vsl_inv
      obtain ⟨_,hvec⟩:=hR.vec nm c hc
      have hlt:i.toNat<c.2.length:=by omega
      have hcap:=hvec.cap
      obtain ⟨b,o0,e0⟩:∃ b o0,(m.vl nm).1=some ⟨b,o0,none⟩:=by
       rcases hvec.hd with h | ⟨b,_,_,h1,_⟩
       ·omega
       grind
      have hrun:(Instr.indexAt t (a.eval x) (a.eval ix)).run P w = .ok (.pointer (some ⟨b,o0+i.toNat * tsz P e,none⟩)) w:=by
       simp only [Instr.indexAt,hq,asIntOf,Sem.run_bind,Sem.run_pure,Result.andThen_ok,run_underlying hu,ec,e0]
       rw [if_pos ⟨h0,by rw [hvec.len];omega⟩]
       simp [run_sizeOf_ne hez,addr_add]
      exact op_value (w':=w) (by grind) (by grind [execOp,execOp_v]) (next_put hR hd hK (.vpt e0) h)
     grind
    grind
  ·split at h
   ·rename_i nn e hte
    obtain ⟨hez,h0,h1,h2,h⟩:=h
    have hu:=tarr_inv hte
    simp only at hu
    have hrun:∀ b o',a.eval x = .pointer (some ⟨b,o',none⟩)→(Instr.indexAt t (a.eval x) (a.eval ix)).run P w = .ok (.pointer (some ⟨b,o' + i.toNat * tsz P e,none⟩)) w:=by
     intro b o' ee
     simp only [Instr.indexAt,hq,asIntOf,Sem.run_bind,Sem.run_pure,Result.andThen_ok,run_underlying hu,ee,Instr.sureAddr]
     rw [if_pos ⟨h0,by omega⟩]
     simp [run_sizeOf_ne hez,addr_add]
    split at h
    ·rename_i nm o' hx
     rw [hx] at hv
     exact op_value (w':=w) (by simp [hop]) (by simp only [execOp,hop];exact execOp_v (hrun _ _ hv.ptr_inv)) (next_put hR hd hK .ptr h)
    ·rename_i cs hx
     rw [hx] at hv
     obtain ⟨b,o',cv,ee,hcell,hrep⟩:=hv.ref_inv
     refine op_value (w':=w) (by simp [hop]) (by simp only [execOp,hop];exact execOp_v (hrun _ _ ee)) (next_put hR hd hK (.ref b (o' + i.toNat * tsz P e) (fun j=>cv (i.toNat * tsz P e+j)) (fun j hj=>?_) (fun j hj=>?_)) h)
     ·have:=hcell (i.toNat * tsz P e+j) (by simp at hj;omega)
      rw [← Nat.add_assoc] at this;exact this
     ·simp only [List.getElem_drop];exact hrep _ (by simp at hj;omega)
    ·rename_i nm o' hx
     rw [hx] at hv
     obtain ⟨b,o0,e0,ee⟩:=hv.vpt_inv
     exact op_value (w':=w) (by simp [hop]) (by simp only [execOp,hop];exact execOp_v (hrun _ _ ee)) (next_put hR hd hK (by rw [Nat.add_assoc];exact .vpt e0) h)
    ·exact h.elim
   ·exact h.elim
 grind
end
end Go.Ab
namespace Go.Ab
open Go Go.RowKit
variable {P:Program} {o:Oper} {a:Act} {w:World} {K:Act→World→Prop} {Q:Exit→Act→World→Prop} {n:Nat} {Mo:Cells} {m:Mp} {s:Sa} {sv:List Act} {k:Sa→Prop} {p:Name} {S:Sems}
structure CsOK (w:World) (M:Cells) (m:Mp) (vs:List V) (cs:Array Value):Prop where
 size:cs.size=vs.length
 leafs:∀ i,i<vs.length→leaf (cs.getD i undef)=true
 rep:∀ i (hi:i<vs.length),RepV w M m vs[i] (cs.getD i undef)
theorem RepV.csOK {M:Cells} {v:V} {c:Value} (h:RepV w M m v c) (hd:isCells v=true):CsOK w M m v.cells c.cells :=
 ⟨(h.cells hd).1,(h.cells hd).2.1,(h.cells hd).2.2⟩
def layL (l:List Value) (off:Nat) (cs:Array Value):Array Value:=(l.zipIdx.foldl (fun cs (x:Value×Nat)=>cs.setIfInBounds (off+x.2) x.1) cs)
theorem layL_aux (off:Nat) (l:List Value):∀ (k:Nat) (cs:Array Value),off+k+l.length≤cs.size →
  ((l.zipIdx k).foldl (fun cs (x:Value×Nat)=>cs.setIfInBounds (off+x.2) x.1) cs).size=cs.size ∧
  (∀ i,(i<off+k∨off+k+l.length≤i)→((l.zipIdx k).foldl (fun cs (x:Value×Nat)=>cs.setIfInBounds (off+x.2) x.1) cs)[i]? = cs[i]?) ∧
  (∀ j (hj:j<l.length),((l.zipIdx k).foldl (fun cs (x:Value×Nat)=>cs.setIfInBounds (off+x.2) x.1) cs)[off+k+j]? = some l[j]):=by
 induction l with
 | nil=>simp_all
 | cons v l ih =>
  intro k cs hle
  simp only [List.length_cons] at hle
  simp only [List.zipIdx_cons,List.foldl_cons]
  obtain ⟨h1,h2,h3⟩:=ih (k+1) (cs.setIfInBounds (off+k) v) (by grind)
  grind
theorem layL_spec {l:List Value} {off:Nat} {cs:Array Value} (hle:off+l.length≤cs.size):(layL l off cs).size=cs.size ∧
  (∀ i,(i<off∨off+l.length≤i)→(layL l off cs)[i]? = cs[i]?)∧(∀ j (hj:j<l.length),(layL l off cs)[off+j]? = some l[j]):=layL_aux off l 0 cs hle
theorem fill_step (v:Value) (off:Nat) (cells:Array Value) :
  (v.cells.zipIdx.foldl (fun cs (c,j)=>cs.setIfInBounds (off+j) c) cells)=layL v.cells.toList off cells:=by
 grind [layL,Array.toList_zipIdx]
theorem CsOK.lay {M:Cells} {vs:List V} {cs:Array Value} {v:V} {c:Value} (h:CsOK w M m vs cs) (hv:CsOK w M m v.cells c.cells) {off:Nat} (hle:off+v.cells.length≤vs.length) :
  CsOK w M m (vs.take off++v.cells++vs.drop (off+v.cells.length)) (layL c.cells.toList off cs):=by
 have hl:c.cells.toList.length=v.cells.length:=by simpa using hv.size
 obtain ⟨h1,h2,h3⟩:=layL_spec (l:=c.cells.toList) (off:=off) (cs:=cs) (by rw [hl,h.size];grind)
 have hlen:(vs.take off++v.cells++vs.drop (off+v.cells.length)).length=vs.length:=by grind
 have key:∀ i (hi:i<(vs.take off++v.cells++vs.drop (off+v.cells.length)).length),
   (∃ hi',(vs.take off++v.cells++vs.drop (off+v.cells.length))[i]=vs[i]'hi' ∧ (layL c.cells.toList off cs).getD i undef=cs.getD i undef) ∨
   (∃ hi',(vs.take off++v.cells++vs.drop (off+v.cells.length))[i]=v.cells[i - off]'hi' ∧ (layL c.cells.toList off cs).getD i undef=c.cells.getD (i - off) undef):=by
  intro i hi
  rw [hlen] at hi
  by_cases ho:i<off∨off+v.cells.length≤i
  ·left
   refine ⟨hi,?_,by simp only [Array.getD_eq_getD_getElem?];rw [h2 i (by rw [hl];exact ho)]⟩
   rcases ho with ho | ho
   ·rw [List.getElem_append_left (by simp;omega),List.getElem_append_left (by simp;omega)];simp
   grind [List.getElem_append_right,List.length_append]
  ·right
   refine ⟨by omega,?_,?_⟩
   ·rw [List.getElem_append_left (by simp;omega),List.getElem_append_right (by simp;omega)]
    simp only [List.length_take]
    congr 1;omega
   ·have:=h3 (i - off) (by rw [hl];omega)
    rw [show off+(i - off)=i from by omega] at this
    simp only [Array.getD_eq_getD_getElem?,this,Option.getD_some]
    rw [Array.getElem?_eq_getElem (by have:=hv.size;omega)];simp
 refine ⟨by rw [h1,h.size,hlen],fun i hi=>?_,fun i hi=>?_⟩
 ·rcases key i hi with ⟨h',_,e⟩ | ⟨h',_,e⟩
  ·rw [e];exact h.leafs i h'
  ·rw [e];exact hv.leafs _ h'
 ·rcases key i hi with ⟨h',e',e⟩ | ⟨h',e',e⟩
  ·rw [e,e'];exact h.rep i h'
  ·rw [e,e'];exact hv.rep _ h'
theorem fill_ok {M:Cells} {place place' : Nat→Option (Nat×Nat)} (hp:∀ i,place i=place' i) :
  ∀ (parts:List (Nat×V)) (cparts:List (Nat×Value)) (vs:List V) (cs:Array Value) (out:List V),CsOK w M m vs cs →
   cparts.map (·.1)=parts.map (·.1)→(∀ i (h1:i<parts.length) (h2:i<cparts.length),RepV w M m (parts[i]).2 (cparts[i]).2) →
   fillV place vs parts=some out→∃ cs',Instr.fill place' cs cparts=some cs' ∧ CsOK w M m out cs':=by
 intro parts
 induction parts with
 | nil =>
  intro cparts vs cs out h e _ hf
  simp only [List.map_nil,List.map_eq_nil_iff] at e;subst e
  simp only [fillV,Option.some.injEq] at hf;subst hf
  exact ⟨cs,rfl,h⟩
 | cons x parts ih =>
  intro cparts vs cs out h e hr hf
  obtain ⟨i,v⟩:=x
  cases cparts with
  | nil=>grind
  | cons y cparts =>
   obtain ⟨i',c⟩:=y
   simp only [List.map_cons,List.cons.injEq] at e
   obtain ⟨rfl,e⟩:=e
   simp only [fillV] at hf
   have hv:=hr 0 (by simp) (by simp)
   simp only [List.getElem_cons_zero] at hv
   simp only [Instr.fill,← hp]
   split at hf
   ·grind
   ·rename_i off sz hpl
    simp only [hpl]
    split at hf
    ·rename_i hc
     obtain ⟨c1,c2,c3⟩:=hc
     have hcs:=hv.csOK c1
     rw [if_neg (by have:=hcs.size;have:=h.size;grind)]
     rw [fill_step]
     refine ih cparts _ _ out ?_ e (fun j h1 h2=>hr (j+1) (by grind) (by grind)) hf
     rw [← c2]
     exact h.lay hcs (by omega)
    grind
section
variable (hR:Rel Mo m s (a::sv) w) (hd:∀ d,o.dst=some d→d<s.n) (hK:OpNext Mo m s o.dst a sv w k K) (h:evOp P S p o s k)
include hR hd hK h
theorem op_build {t:TypeId} {parts:Array (Nat×Operand)} (hop:o.op = .build t parts):o.wpIn (Wd (rdOf m s)) n P a w K Q:=by
 simp only [evOp,hop] at h
 obtain ⟨hb,hc,h⟩:=h
 split at h
 ·rename_i cs hcs
  obtain ⟨i,z,hi,hz,hcz⟩:∃ i z,P.info? t=some i∧i.zero=some z∧tzero P t=constV z:=by
   unfold tzero at hc ⊢
   cases hi:P.info? t with
   | none=>simp [hi,isCells] at hc
   | some i =>
    grind [isCells]
  have hzero:(zeroValue t).run P w = .ok z w:=by simp [zeroValue,typeInfo,hi,hz]
  have hzv:zvals P t=z.cells.toList:=by simp [zvals,hi,hz]
  unfold zcells at hcs
  rw [hzv] at hcs
  rw [hcz] at hc hcs
  have h0':=(repV_const (w:=w) (M:=Tot Mo s.bx s.ow m) (m:=m) z).csOK hc
  have h0:CsOK w (Tot Mo s.bx s.ow m) m (nilCs z.cells.toList (constV z).cells) z.cells:=⟨by rw [nilCs_len];exact h0'.size,fun i hi=>h0'.leafs i (by rw [← nilCs_len];exact hi),fun i hi=>by
   have hi' : i<(constV z).cells.length:=by grind [nilCs_len]
   have hr:=h0'.rep i hi'
   rcases nilCs_get z.cells.toList (constV z).cells i with e | ⟨e1,e2,e3⟩
   ·grind
   ·rw [List.getElem?_eq_getElem hi,Option.some.injEq] at e1
    rw [e1]
    rw [Array.getElem?_toList] at e2
    rw [Array.getD_eq_getD_getElem?,e2]
    exact .nil⟩
  have hparts:∀ i (h1:i<(parts.toList.map fun x=>(x.1,s.get x.2)).length) (h2:i<(parts.map fun ((i,x):Nat×Operand)=>(i,a.eval x)).toList.length),
    RepV w (Tot Mo s.bx s.ow m) m ((parts.toList.map fun x=>(x.1,s.get x.2))[i]).2 (((parts.map fun ((i,x):Nat×Operand)=>(i,a.eval x)).toList)[i]).2:=by
   intro i h1 h2
   simp only [List.getElem_map,Array.getElem_toList,Array.getElem_map]
   exact hR.operand _
  have hnames:(parts.map fun ((i,x):Nat×Operand)=>(i,a.eval x)).toList.map (·.1)=(parts.toList.map fun x=>(x.1,s.get x.2)).map (·.1):=by
   simp_all
  have hrun:∃ cs',(Instr.build t (parts.map fun ((i,x):Nat×Operand)=>(i,a.eval x))).run P w = .ok (.agg cs') w∧CsOK w (Tot Mo s.bx s.ow m) m cs cs':=by
   cases hu:P.underlying t with
   | none=>simp [tbuild,hu] at hb
   | some d =>
    cases d with
    | struct fs =>
     simp only [tbuild,hu,List.all_eq_true] at hb
     have hmap:(fs.mapM (fun f=>(do pure (f.offset,← sizeOf f.type):Sem (Nat×Nat)))).run P w = .ok (fs.map fun f=>(f.offset,tsz P f.type)) w:=by
      have key:∀ (l:List Field),(∀ f∈l,(P.info? f.type).isSome=true)→∀ (acc:Array (Nat×Nat)),
        (l.foldlM (fun bs f=>(do let b ← (do pure (f.offset,← sizeOf f.type):Sem (Nat×Nat));pure (bs.push b):Sem _)) acc).run P w = .ok (acc++(l.map fun f=>(f.offset,tsz P f.type)).toArray) w:=by
       intro l
       induction l with
       | nil=>simp_all
       | cons f l ih =>
        simp_all [Option.isSome_iff_exists,sizeOf,tsz,typeInfo]
      rw [Array.mapM_eq_foldlM,← Array.foldlM_toList]
      have:=key fs.toList hb #[]
      have e2:(fs.map fun f=>(f.offset,tsz P f.type)) = #[]++(fs.toList.map fun f=>(f.offset,tsz P f.type)).toArray:=by grind
      simp_all
     obtain ⟨cs',hf,hok⟩:=fill_ok (place':=((fs.map fun f=>(f.offset,tsz P f.type))[·]?)) (fun i=>by simp [tplace,hu]) _ _ _ _ _ h0 hnames hparts hcs
     simp_all [Instr.build,run_underlying]
    | array nn e =>
     simp only [tbuild,hu] at hb
     obtain ⟨j,hj⟩:=Option.isSome_iff_exists.1 hb
     have e1:(sizeOf e).run P w = .ok (tsz P e) w:=by simp [sizeOf,typeInfo,hj,tsz]
     obtain ⟨cs',hf,hok⟩:=fill_ok (place':=fun i=>some (i * tsz P e,tsz P e)) (fun i=>by simp [tplace,hu]) _ _ _ _ _ h0 hnames hparts hcs
     simp_all [Instr.build,run_underlying]
    | _=>simp [tbuild,hu] at hb
  obtain ⟨cs',hrun,hok⟩:=hrun
  exact op_value (w':=w) (by grind) (by grind [execOp,execOp_v]) (next_put hR hd hK (repV_mkAgg hok.size hok.leafs hok.rep) h)
 grind
end
end Go.Ab
namespace Go.Ab
open Go Go.RowKit
variable {P:Program} {o:Oper} {a:Act} {w:World} {K:Act→World→Prop} {Q:Exit→Act→World→Prop} {n:Nat} {Mo:Cells} {m:Mp} {s:Sa} {sv:List Act} {k:Sa→Prop} {p:Name} {S:Sems}
structure RowOK (w:World) (M:Cells) (xs:List D) (sz b off:Nat) (cv:Nat→Nat→Value):Prop where
 len:∀ i (hi:i<xs.length),xs[i].cells.length=sz
 cell:∀ i (hi:i<xs.length) j (hj:j<sz),w.cell? ⟨b,off+i * sz+j,none⟩=some (cv i j)∧leaf (cv i j)=true∧¬ M b (off+i * sz+j)
 rep:∀ i (hi:i<xs.length) j (hj:j<xs[i].cells.length),RepD w M (xs[i].cells)[j] (cv i j)
theorem RowOK.repD {M:Cells} {xs:List D} {sz b off:Nat} {cv:Nat→Nat→Value} (h:RowOK w M xs sz b off cv) {ad:Option Addr} {cap:Nat} (hc:xs.length≤cap)
  (hm:xs.length≤9223372036854775807) (ha:xs≠[]→ad=some ⟨b,off,none⟩):RepD w M (.sl xs) (.slice ad xs.length cap) :=
 .sl sz b off cv hc hm ha h.len (fun i hi j hj=>h.cell i hi j (by rw [← h.len i hi];grind)) h.rep
theorem fill_row (sz:Nat):∀ (vals:List Value) (r:Nat) (cells:Array Value),(∀ v∈vals,v.cells.size=sz)→(r+vals.length) * sz≤cells.size →
  ∃ out,Instr.fill (fun i=>some (i * sz,sz)) cells ((List.range' r vals.length).zip vals)=some out∧out.size=cells.size ∧
   (∀ i,(i<r * sz∨(r+vals.length) * sz≤i)→out[i]? = cells[i]?)∧∀ i (hi:i<vals.length) j (hj:j<sz),out[(r+i) * sz+j]? = some ((vals[i].cells).getD j undef):=by
 intro vals
 induction vals with
 | nil=>simp_all [Instr.fill]
 | cons v vals ih =>
  intro r cells hv hle
  simp only [List.length_cons] at hle ⊢
  have hvs:v.cells.size=sz:=hv v (by simp)
  have e0:(r+(vals.length+1)) * sz=r * sz+sz+vals.length * sz:=by grind
  obtain ⟨h1,h2,h3⟩:=layL_spec (l:=v.cells.toList) (off:=r * sz) (cs:=cells) (by grind)
  have e1:(r+1+vals.length) * sz=r * sz+sz+vals.length * sz:=by grind
  obtain ⟨out,k1,k2,k3,k4⟩:=ih (r+1) (layL v.cells.toList (r * sz) cells) (fun x hx=>hv x (by grind)) (by grind)
  refine ⟨out,?_,by grind,fun i hi=>?_,fun i hi j hj=>?_⟩
  ·grind [List.range'_succ,List.zip_cons_cons,Instr.fill,fill_step]
  ·have e2:(r+1) * sz=r * sz+sz:=by rw [Nat.add_mul];omega
   rw [k3 i (by omega),h2 i (by simp;omega)]
  ·cases i with
   | zero =>
    simp only [List.getElem_cons_zero,Nat.add_zero]
    have e2:(r+1) * sz=r * sz+sz:=by rw [Nat.add_mul];omega
    rw [k3 _ (by omega)]
    have:=h3 j (by simp;omega)
    rw [this,Array.getD_eq_getD_getElem?,Array.getElem?_eq_getElem (by omega)];simp
   | succ i =>
    have:=k4 i (by simpa using hi) j hj
    simp only [List.getElem_cons_succ]
    rw [← this];congr 1
    have e3:r+(i+1)=r+1+i:=by omega
    rw [e3]
theorem stab_alloc {M:Cells} {x:Obj}:Stab w M (w.alloc x) M:=stab_below M (below_alloc' w x)
theorem alloc_cell (w:World) (c:Array Value) (T:TypeId) (i:Nat):(w.alloc (.cells c T)).cell? ⟨w.heap.size,i,none⟩=c[i]?:=by simp
theorem tzero_inv {t:TypeId} (hc:isCells (tzero P t)=true):∃ i z,P.info? t=some i∧i.zero=some z∧tzero P t=constV z:=by
 unfold tzero at hc ⊢
 cases hi:P.info? t with
 | none=>simp [hi,isCells] at hc
 | some i =>
  grind [isCells]
theorem tot_empty' {Mo bx ow m i} {g e:Nat} {b o:Nat} (h:Tot Mo bx (i::ow) { m with ow:=fun j=>if j=i then (g,e,e) else m.ow j } b o):Tot Mo bx ow m b o:=by
 rcases h with h | h | ⟨j,hj,h1,h2,h3⟩
 ·grind
 ·exact .inr (.inl h)
 ·by_cases e:j=i
  ·grind
  ·simp only [e,if_false] at h1 h2 h3
   rcases List.mem_cons.1 hj with e' | hj
   ·grind
   ·exact .inr (.inr ⟨j,hj,h1,h2,h3⟩)
theorem tot_lt {as:List Act} (hR:Rel Mo m s as w) {b j:Nat} (h:Tot Mo s.bx s.ow m b j):b<w.heap.size:=by
 rcases h with h | ⟨nm,c,hn,e⟩ | ⟨i,hi,h1,h2,h3⟩
 ·exact hR.mo b j h
 ·obtain ⟨cs,T,hb⟩:=hR.box nm c hn
  rw [e];exact hb.heap.lt
 ·obtain ⟨c,T,hb,_⟩:=hR.oww i hi (by unfold nonempty;omega)
  grind
section
variable (hR:Rel Mo m s (a::sv) w) (hd:∀ d,o.dst=some d→d<s.n) (hK:OpNext Mo m s o.dst a sv w k K) (h:evOp P S p o s k)
include hR hd hK h
theorem op_buildSlice {t:TypeId} {len:Nat} {parts:Array (Nat×Operand)} (hop:o.op = .buildSlice t len parts):o.wpIn (Wd (rdOf m s)) n P a w K Q:=by
 simp only [evOp,hop] at h
 split at h
 ·rename_i e he
  have hu:=telem_inv he
  obtain ⟨hez,hc,hmx,hnm,h⟩:=h
  obtain ⟨i,z,hi,hz,hcz⟩:=tzero_inv hc
  split at h
  ·rename_i xs hxs
   obtain ⟨hlen,h⟩:=h
   obtain ⟨hx1,hx2⟩:=toDs_spec hxs
   have hl0:len=parts.size:=by have:=congrArg List.length hnm;grind
   have hxl:xs.length=len:=by grind
   have hsz:(sizeOf e).run P w = .ok (tsz P e) w:=run_sizeOf_ne hez
   have hzero:(zeroValue e).run P w = .ok z w:=by simp [zeroValue,typeInfo,hi,hz]
   let vals:=parts.toList.map fun x=>a.eval x.2
   have hvl:vals.length=len:=by grind
   have hrepx:∀ i (hi:i<xs.length),(vals[i]'(by omega)).cells.size=xs[i].cells.length ∧
     (∀ j,j<xs[i].cells.length→leaf ((vals[i]'(by omega)).cells.getD j undef)=true)∧∀ j (hj:j<xs[i].cells.length),RepD w (Tot Mo s.bx s.ow m) xs[i].cells[j] ((vals[i]'(by omega)).cells.getD j undef):=by
    intro i hi
    have h1:=hx2 i (by grind) hi
    simp only [List.getElem_map,Array.getElem_toList] at h1
    have:=RepV.toD_cells (hR.operand _) h1
    grind
   have hvs:∀ v∈vals,v.cells.size=tsz P e:=by
    grind [List.getElem_of_mem]
   have hzipped:(parts.map fun ((i,x):Nat×Operand)=>(i,a.eval x)).toList=(List.range' 0 vals.length).zip vals:=by
    apply List.ext_getElem
    ·grind
    ·intro i h1 h2
     have:=congrArg (·[i]?) hnm
     simp at h1
     simp only [List.getElem?_map,List.getElem?_range (show i<len by omega)] at this
     grind
   obtain ⟨out,f1,f2,f3,f4⟩:=fill_row (tsz P e) vals 0 ((Array.range (len * tsz P e)).map (fun x=>(if len * tsz P e=0 then #[] else z.cells)[x % (if len * tsz P e=0 then #[] else z.cells).size]!)) hvs (by simp [hvl])
   have hrun:(Instr.buildSlice t len (parts.map fun ((i,x):Nat×Operand)=>(i,a.eval x))).run P w = .ok (.slice (some ⟨w.heap.size,0,none⟩) len len) (w.alloc (.cells out e)):=by
    simp only [Instr.buildSlice,Sem.run_bind,run_underlying hu,Result.andThen_ok,hsz]
    rw [if_neg (by omega)]
    by_cases h00:len * tsz P e=0
    ·simp only [h00,if_true] at f1
     simp only [h00,if_true,Sem.run_bind,Sem.run_pure,Result.andThen_ok,hzipped,f1,newRow,run_newObj,World.alloc_eq]
    ·simp only [h00,if_false] at f1
     simp only [h00,if_false,Sem.run_bind,Sem.run_pure,Result.andThen_ok,hzipped,hzero,f1,newRow,run_newObj,World.alloc_eq]
   have hrow:RowOK (w.alloc (.cells out e)) (Tot Mo s.bx s.ow m) xs (tsz P e) w.heap.size 0 (fun i j=>(vals.getD i undef).cells.getD j undef):=by
    refine ⟨fun i hi=>hlen _ (List.getElem_mem _),fun i hi j hj=>?_,fun i hi j hj=>?_⟩
    ·have h1:=hrepx i hi
     have e1:vals.getD i undef=vals[i]'(by omega):=by simp [List.getD_eq_getElem?_getD,List.getElem?_eq_getElem (show i<vals.length by omega)]
     refine ⟨?_,by rw [e1];exact h1.2.1 j (by rw [hlen _ (List.getElem_mem _)];exact hj),fun ht=>?_⟩
     ·rw [alloc_cell,e1]
      have:=f4 i (by omega) j hj
      simpa using this
     ·exact absurd (tot_lt hR ht) (by omega)
    ·have h1:=hrepx i hi
     have e1:vals.getD i undef=vals[i]'(by omega):=by simp [List.getD_eq_getElem?_getD,List.getElem?_eq_getElem (show i<vals.length by omega)]
     simp only [e1]
     exact (h1.2.2 j hj).mono stab_alloc
   have hR':=hR.below (below_alloc' w (.cells out e))
   have hrepS:RepD (w.alloc (.cells out e)) (Tot Mo s.bx s.ow m) (.sl xs) (.slice (some ⟨w.heap.size,0,none⟩) len len):=by
    have:=hrow.repD (ad:=some ⟨w.heap.size,0,none⟩) (cap:=len) (by omega) (by have:len≤len * tsz P e:=Nat.le_mul_of_pos_right _ (Nat.pos_of_ne_zero hez);omega) (fun _=>rfl)
    rw [hxl] at this;exact this
   split at h
   ·rename_i h00
    have hxs0:xs=[]:=List.eq_nil_of_length_eq_zero (by omega)
    have h1:=(hR'.strip (o.dst.getD 0::p)).own (o.dst.getD 0::p) (w.heap.size,0,0) Sa.strip_ow (Sa.strip_all s _) (fun hn=>absurd hn (by simp [nonempty])) (fun b o' c hcell hm=>⟨hcell,fun hx=>hm (tot_empty' hx)⟩)
    refine op_value (by simp [hop]) (by simp only [execOp,hop];exact execOp_v hrun) (next_put' hK h1 hd ?_ rfl (.own ?_ (by simp) ?_) h)
    ·refine ⟨.of_below (below_alloc' w _),fun b o' _ hm=>?_,fun b _ hl=>hl,rfl,by simp [Sa.strip,List.map_map,Function.comp_def],fun _ _=>⟨rfl,fun _ _=>rfl⟩⟩
     have:=tot_empty' (Mo:=fun _ _=>False) (.inr hm)
     rcases this with h0 | h0
     ·exact h0.elim
     ·exact mut_strip h0
    ·rw [hxs0] at hrepS
     refine hrepS.mono (fun b o' c hcell hm=>⟨hcell,fun hx=>hm ?_⟩)
     rcases tot_empty' hx with h0 | h0
     ·exact .inl h0
     ·exact .inr (mut_strip h0)
    ·refine .inr ⟨rfl,Nat.le_refl _,by simp [h00],out,e,World.alloc_heap_new w _,by simp [h00]⟩
   ·exact op_value (by simp [hop]) (by simp only [execOp,hop];exact execOp_v hrun) (next_put' hK hR' hd (Step.of_below (below_alloc' w _)) rfl (.d hrepS) h)
  grind
 grind
end
end Go.Ab
namespace Go.Ab
open Go Go.RowKit
variable {P:Program} {o:Oper} {a:Act} {w:World} {K:Act→World→Prop} {Q:Exit→Act→World→Prop} {n:Nat} {Mo:Cells} {m:Mp} {s:Sa} {sv:List Act} {k:Sa→Prop} {p:Name} {S:Sems}
theorem run_builtin {c:Call} {b:Builtin} (hop:o.op = .call c) (hc:c.callee = .builtin b) {f:Sem Value} (hb:builtin b c.argTypes o.type (c.args.map fun | .const _=>true | _=>false) (c.args.map a.eval)=(do pure (.value (← f)))) {v:Value} {w' : World}
  (hrun:f.run P w = .ok v w'):(execOp a.eval o).run P w = .ok (.value v) w':=by
 grind [execOp,resolve,Sem.run_bind,Sem.run_pure,Result.andThen_ok,invoke]
theorem args_inv {c:Call} {s:Sa} {l:List V} (h:c.args.toList.map s.get=l):c.args.size=l.length∧∀ i (h1:i<c.args.size) (h2:i<l.length),s.get c.args[i]=l[i]:=by
 grind
theorem growBy_le (need:Nat):∀ (r c:Nat),256≤c→c≤2 * need→Builtin.growBy need r c≤2 * need:=by
 intro r
 induction r with
 | zero=>grind [Builtin.growBy]
 | succ r ih =>
  grind [Builtin.growBy]
theorem nextcap_le {need cap:Nat} (h:cap<need):Builtin.nextslicecap need cap≤2 * need:=by
 grind [Builtin.nextslicecap,growBy_le]
section
variable (hR:Rel Mo m s (a::sv) w) (hd:∀ d,o.dst=some d→d<s.n) (hK:OpNext Mo m s o.dst a sv w k K) (h:evOp P S p o s k)
include hR hd hK h
theorem op_len {c:Call} (hop:o.op = .call c) (hc:c.callee = .builtin .len):o.wpIn (Wd (rdOf m s)) n P a w K Q:=by
 simp only [evOp,hop,hc] at h
 split at h
 ·rename_i x t ts hargs htys
  obtain ⟨ha1,ha2⟩:=args_inv hargs
  have hx0:=ha2 0 (by grind) (by simp)
  simp only [List.getElem_cons_zero] at hx0
  have ht0:c.argTypes[0]? = some t:=by rw [← Array.getElem?_toList,htys];rfl
  have harg:(c.args.map a.eval)[0]? = some (a.eval (c.args[0]'(by grind))):=by
   grind
  have hv:=hR.operand (c.args[0]'(by grind))
  rw [hx0] at hv
  split at h
  ·rename_i e xs he hxs
   obtain ⟨ad,cap,sz,b,off,cv,ec,hc1,hc2,_⟩:=(hv.slice hxs).sl_inv
   refine op_value (v:=.int .i64 xs.length) (w':=w) (by grind) (run_builtin hop hc rfl ?_) (next_put hR hd hK (.d (.v ?_)) h)
   ·simp only [Builtin.len_,ht0,harg,ec,Sem.run_bind,run_underlying (telem_inv he),Result.andThen_ok];rfl
   ·simp [okLeaf,inR];omega
  ·split at h
   ·rename_i b hu hx1
    obtain ⟨ec,hok⟩:=hv.val
    refine op_value (v:=.int .i64 b.size) (w':=w) (by grind) (run_builtin hop hc rfl ?_) (next_put hR hd hK (.d (.v ?_)) h)
    ·simp only [Builtin.len_,ht0,harg,ec,Sem.run_bind,run_underlying hu,Result.andThen_ok];rfl
    grind [okLeaf,inR]
   ·rename_i nn e _ _
    obtain ⟨hnn,h⟩:=h
    have hu:P.underlying t=some (.array nn e):=by grind
    refine op_value (v:=.int .i64 nn) (w':=w) (by grind) (run_builtin hop hc rfl ?_) (next_put hR hd hK (.d (.v ?_)) h)
    ·simp only [Builtin.len_,ht0,harg,Sem.run_bind,run_underlying hu,Result.andThen_ok];rfl
    ·simp [okLeaf,inR];omega
   ·rename_i nm _ _
    split at h
    ·rename_i e c he hvc
     have ec:=hv.vsl_inv
     obtain ⟨_,hvec⟩:=hR.vec nm c hvc
     have hmx:=hvec.mx
     refine op_value (v:=.int .i64 c.2.length) (w':=w) (by grind) (run_builtin hop hc rfl ?_) (next_put hR hd hK (.d (.v ?_)) h)
     ·simp only [Builtin.len_,ht0,harg,ec,Sem.run_bind,run_underlying (telem_inv he),Result.andThen_ok,hvec.len];rfl
     ·simp [okLeaf,inR];omega
    grind
   grind
 grind
theorem op_maxmin {c:Call} {b:Builtin} (hop:o.op = .call c) (hc:c.callee = .builtin b) (hb:b = .max∨b = .min):o.wpIn (Wd (rdOf m s)) n P a w K Q:=by
 have key:∀ q x q' y,c.args.toList.map s.get=[.d (.v (.int q x)),.d (.v (.int q' y))]→(c.args.map a.eval).toList=[.int q x,.int q' y]∧okLeaf (.int q x)∧(q=q' → okLeaf (.int q y)):=by
  intro q x q' y hargs
  obtain ⟨ha1,ha2⟩:=args_inv hargs
  simp only [List.length_cons,List.length_nil] at ha1
  have h0:=ha2 0 (by omega) (by simp)
  have h1:=ha2 1 (by omega) (by simp)
  simp only [List.getElem_cons_zero,List.getElem_cons_succ] at h0 h1
  have v0:=hR.operand (c.args[0]'(by omega))
  have v1:=hR.operand (c.args[1]'(by omega))
  rw [h0] at v0
  rw [h1] at v1
  refine ⟨?_,v0.val.2,fun e=>by rw [e];exact v1.val.2⟩
  apply List.ext_getElem
  ·grind
  ·intro i h2 h3
   simp at h3
   match i,h3 with
   | 0,_=>simp [v0.val.1]
   | 1,_=>simp [v1.val.1]
 rcases hb with rfl | rfl
 ·simp only [evOp,hop,hc] at h
  split at h
  ·rename_i q x q' y hargs
   obtain ⟨e,ok1,ok2⟩:=key _ _ _ _ hargs
   obtain ⟨rfl,h⟩:=h
   refine op_value (v:=.int q (if y>x then y else x)) (w':=w) (by grind) (run_builtin hop hc rfl ?_) (next_put hR hd hK (.d (.v ?_)) h)
   ·simp_all [Builtin.max_,Builtin.max2]
   grind
  grind
 ·simp only [evOp,hop,hc] at h
  split at h
  ·rename_i q x q' y hargs
   obtain ⟨e,ok1,ok2⟩:=key _ _ _ _ hargs
   obtain ⟨rfl,h⟩:=h
   refine op_value (v:=.int q (if y<x then y else x)) (w':=w) (by grind) (run_builtin hop hc rfl ?_) (next_put hR hd hK (.d (.v ?_)) h)
   ·simp_all [Builtin.min_,Builtin.min2]
   grind
  grind
end
end Go.Ab
namespace Go.Ab
open Go Go.RowKit
theorem Rel.newMap {Mo m s as w} (h:Rel Mo m s as w) (kd:IntKind) (f:Name)
  (hpr:protd (rds s) f=false) (hr:AllV (fun v=>f ∉ v.bxs) s) (hn:lookN f s.bx=none) :
  Rel Mo { m with bx:=fun n=>if n=f then w.heap.size else m.bx n } { s with bx:=(f,.mpc kd [])::s.bx } as (w.alloc (.map #[] 0)) ∧
   Step m s w { m with bx:=fun n=>if n=f then w.heap.size else m.bx n } { s with bx:=(f,.mpc kd [])::s.bx } (w.alloc (.map #[] 0)):=by
 have hbl:=below_alloc' w (.map #[] 0)
 have hlt:∀ n d,lookN n s.bx=some d→m.bx n<w.heap.size:=fun n d hd=>by
  obtain ⟨cs,T',hb⟩:=h.box n d hd
  exact hb.heap.lt
 have hne:∀ n d,lookN n s.bx=some d→n≠f:=fun n d hd e=>by grind
 have hst:Stab w (Tot Mo s.bx s.ow m) (w.alloc (.map #[] 0)) (Tot Mo ((f,.mpc kd [])::s.bx) s.ow { m with bx:=fun n=>if n=f then w.heap.size else m.bx n }):=by
  intro b o x hx hm
  have hb:=World.block_lt_of_cell? w _ hx
  simp only at hb
  refine ⟨(stab_below _ hbl b o x hx hm).1,fun ht=>?_⟩
  rcases ht with ht | ⟨n,d,hl,e⟩ | ht
  ·grind
  ·simp only [lookN] at hl
   split at hl
   ·grind
   ·simp only [hne n d hl,if_false] at e
    exact hm (.inr (.inl ⟨n,d,hl,e⟩))
  ·exact hm (.inr (.inr ht))
 have hall:∀ x:V,f ∉ x.bxs→(∀ n∈x.bxs,(if n=f then w.heap.size else m.bx n)=m.bx n) ∧
   (∀ i∈x.ows,∀ sz y,Spare w m i sz y→Spare (w.alloc (.map #[] 0)) { m with bx:=fun n=>if n=f then w.heap.size else m.bx n } i sz y)∧(∀ l∈x.lps,m.lp l=m.lp l):=fun x hx =>
  ⟨fun n hn'=>by grind,fun i _ sz y hs=>spare_shape hs rfl (.of_below hbl),fun _ _=>rfl⟩
 refine ⟨h.remap (s':={ s with bx:=(f,.mpc kd [])::s.bx }) rfl rfl rfl rfl rfl hst ⟨fun t=>hall _ (hr.ts t),fun g hg t=>hall _ (hr.sv g hg t),fun n d hd=>hall _ (hr.bx n d hd)⟩
  (by simp) (fun b o ho _=>heap_below hbl ho) (fun _ _ _=>rfl) ?_ ?_ ?_ h.owx ?_ h.owm (fun k d hk=>⟨(h.vec k d hk).1,(h.vec k d hk).2.mono hst rfl rfl (fun _ o v _ _ hv=>by rw [hbl.cell (p:=⟨_,o,none⟩) (World.block_lt_of_cell? w _ hv)];grind) (fun b c T hc=>⟨c,heap_below hbl hc,rfl⟩)⟩),?_⟩
 ·intro n d hl
  simp only [lookN] at hl
  by_cases e:f=n
  ·subst e
   simp only [if_true,Option.some.injEq] at hl
   subst hl
   refine ⟨#[],0,⟨#[],0,?_,⟨by simp,by simp⟩⟩,by rfl,by simp [V.cells],fun i hi=>by simp [V.cells] at hi⟩
   simp only [if_true];exact World.alloc_heap_new w _
  ·simp only [e,if_false] at hl
   obtain ⟨cs,T',hb⟩:=h.box n d hl
   have ha:=hall d (hr.bx n d hl)
   refine ⟨cs,T',?_,hb.size,hb.leafs,fun i hi=>(hb.rep i hi).mono hst (fun k hk=>ha.1 k (bxs_cells d i hi k hk)) (fun k hk=>ha.2.1 k (ows_cells d i hi k hk)) (fun k hk=>rfl)⟩
   simp only [hne n d hl,if_false]
   exact hb.heap.mono (fun _ ho _ _=>heap_below hbl ho)
 ·intro n d n' d' hl hl' e
  simp only [lookN] at hl hl'
  by_cases e1:f=n <;> by_cases e2:f=n'
  ·grind
  ·grind
  ·grind
  ·simp only [e1,e2,if_false] at hl hl'
   simp only [hne n d hl,hne n' d' hl',if_false] at e
   exact h.inj n d n' d' hl hl' e
 ·intro i hi hn'
  obtain ⟨cs,T',h1,h2⟩:=h.oww i hi hn'
  grind [heap_below]
 ·intro i hi hn' n d hl
  simp only [lookN] at hl
  by_cases e:f=n
  ·obtain ⟨cs,T',h1,h2⟩:=h.oww i hi hn'
   grind
  ·simp only [e,if_false] at hl
   simp only [hne n d hl,if_false]
   exact h.owb i hi hn' n d hl
 ·refine ⟨.of_below hbl,fun b o hb hm=>?_,fun b _ hl=>hl,rfl,rfl,fun _ hl=>⟨rfl,fun n hn=>if_neg (protd_ne hpr hl n hn)⟩⟩
  rcases hm with ⟨n,d,hl,e⟩ | hm
  ·simp only [lookN] at hl
   split at hl
   ·grind
   ·simp only [hne n d hl,if_false] at e
    exact .inl ⟨n,d,hl,e⟩
  ·exact .inr hm
theorem Rel.setMap {Mo:Cells} {m:Mp} {s:Sa} {as:List Act} {w:World} {n:Name} {kd:IntKind} {kvs kvs' : List (Int×Value)} {es es' : Array MapEntry} {clk clk' : Nat} (h:Rel Mo m s as w) (hl:lookN n s.bx=some (.mpc kd kvs))
  (hr:w.heap[m.bx n]? = some (.map es clk)) (hk:MapRep kd kvs' es') :
  Rel Mo m { s with bx:=setN n (.mpc kd kvs') s.bx } as (w.putObj (m.bx n) (.map es' clk'))∧Step m s w m { s with bx:=setN n (.mpc kd kvs') s.bx } (w.putObj (m.bx n) (.map es' clk')):=by
 have hlt:m.bx n<w.heap.size:=(Array.getElem?_eq_some_iff.1 hr).1
 have hne:∀ (b:Nat) (x:Obj),w.heap[b]? = some x→(∀ y z,x ≠ .map y z)→(w.putObj (m.bx n) (.map es' clk')).heap[b]? = some x:=by
  grind [World.putObj_heap_other]
 have hlook:∀ nm d,lookN nm (setN n (.mpc kd kvs') s.bx)=some d→(nm=n∧d = .mpc kd kvs')∨(nm≠n∧lookN nm s.bx=some d):=by
  grind [lookN_setN]
 have hlook' : ∀ nm d,lookN nm s.bx=some d→∃ d',lookN nm (setN n (.mpc kd kvs') s.bx)=some d':=by
  grind [lookN_setN]
 have key:∀ nm d,lookN nm (setN n (.mpc kd kvs') s.bx)=some d→∃ d',lookN nm s.bx=some d':=fun nm d hl'=>by
  grind
 have hmut:∀ b o,Mut (setN n (.mpc kd kvs') s.bx) s.ow m b o→Mut s.bx s.ow m b o:=by
  rintro b o (⟨nm,d,hl',e⟩ | hm)
  ·obtain ⟨d',hd'⟩:=key nm d hl'; exact .inl ⟨nm,d',hd',e⟩
  ·exact .inr hm
 have hst:Stab w (Tot Mo s.bx s.ow m) (w.putObj (m.bx n) (.map es' clk')) (Tot Mo (setN n (.mpc kd kvs') s.bx) s.ow m):=by
  intro b j c hc hm
  grind [World.cell?,World.putObj_heap_other]
 have hsp:∀ i sz v,Spare w m i sz v→Spare (w.putObj (m.bx n) (.map es' clk')) m i sz v:=by
  intro i sz v hs
  unfold Spare at hs ⊢
  split at hs
  ·grind
  ·grind
  grind
 have hrep:∀ v c,RepV w (Tot Mo s.bx s.ow m) m v c→RepV (w.putObj (m.bx n) (.map es' clk')) (Tot Mo (setN n (.mpc kd kvs') s.bx) s.ow m) m v c:=fun v c hv=>hv.mono hst (fun _ _=>rfl) (fun i _ sz v hs=>hsp i sz v hs) (fun _ _=>rfl)
 refine ⟨⟨h.len,?_,?_,?_,?_,h.owx,?_,?_,h.dep,h.lpi,fun b j hm=>by rw [World.putObj_size];exact h.mo b j hm,h.mks,h.owm,fun k d hk=>⟨(h.vec k d hk).1,(h.vec k d hk).2.putObj hr (by simp) hst⟩⟩,⟨⟨rfl,rfl,rfl,by simp,fun b hb hC _=>?_,fun b c T f hc _=>?_⟩,fun b o _ hm=>hmut b o hm,fun b _ hl=>hl,rfl,rfl,fun _ _=>⟨rfl,fun _ _=>rfl⟩⟩⟩
 ·intro i hi hi'
  have h0:=h.fr i hi hi'
  refine ⟨h0.size,fun t=>hrep _ _ (h0.ts t),fun d hd=>?_⟩
  obtain ⟨x,e,hx⟩:=h0.def_ d hd
  grind
 ·intro nm c hn
  rcases hlook nm c hn with ⟨rfl,rfl⟩ | ⟨hnm,hn'⟩
  ·exact ⟨#[],0,⟨es',clk',World.putObj_heap_same hlt,hk⟩,by rfl,by simp [V.cells],fun i hi=>by simp [V.cells] at hi⟩
  ·obtain ⟨cs,T,hb⟩:=h.box nm c hn'
   have hbn:m.bx nm≠m.bx n:=fun e=>hnm (h.inj nm c n _ hn' hl e)
   exact ⟨cs,T,hb.heap.mono (fun o ho _ _=>by grind [World.putObj_heap_other]),hb.size,hb.leafs,fun i hi=>hrep _ _ (hb.rep i hi)⟩
 ·intro n1 c1 n2 c2 h1 h2 e
  obtain ⟨x,hx⟩:=key n1 c1 h1
  obtain ⟨y,hy⟩:=key n2 c2 h2
  exact h.inj n1 x n2 y hx hy e
 ·intro i hi hn
  obtain ⟨c,T,h1,h2⟩:=h.oww i hi hn
  grind
 ·intro i hi hn nm c hl'
  obtain ⟨x,hx⟩:=key nm c hl'
  exact h.owb i hi hn nm x hx
 ·intro l q hq
  obtain ⟨rc,b,hx⟩:=h.lps l q hq
  exact ⟨rc,b,⟨hne _ _ hx.heap (by simp),hx.ps,hx.assign,hx.body,hx.own,hx.tmps,hx.stat⟩⟩
 ·exact World.putObj_heap_other (fun e=>hC 0 (.inl ⟨n,_,hl,e⟩))
 simp_all
def findI (a:Int):List (Int×Value)→Nat→Option (Nat×Value)
 | [],_=>none
 | (b,c)::l,i=>if a=b then some (i,c) else findI a l (i+1)
theorem findI_get (a:Int):∀ (l:List (Int×Value)) (i:Nat),(findI a l i).map (·.2)=getKV a l:=by
 intro l
 induction l with
 | nil=>intro i;rfl
 | cons x l ih=>grind [findI,getKV]
theorem findNow_int {kd:IntKind} {a:Int}:∀ (L:List MapEntry) (kvs:List (Int×Value)) (i:Nat),L.map (fun e=>(e.key,e.val))=kvs.map (fun x=>(Value.int kd x.1,x.2)) →
  Instr.findNow (.int kd) (.int kd a) L i=some (findI a kvs i):=by
 intro L
 induction L with
 | nil=>simp_all [findI,Instr.findNow]
 | cons e L ih =>
  intro kvs i h
  cases kvs with
  | nil=>grind
  | cons x kvs =>
   grind [Instr.findNow,Instr.sameNow,findI]
theorem put_found {kd:IntKind} {a:Int} {c:Value}:∀ (L:List MapEntry) (kvs:List (Int×Value)) (i j:Nat) (v:Value),L.map (fun e=>(e.key,e.val))=kvs.map (fun x=>(Value.int kd x.1,x.2))→findI a kvs i=some (j,v) →
  i≤j∧((L[j - i]?).map (·.key))=some (.int kd a)∧(L.modify (j - i) fun e=>{ e with key:=.int kd a,val:=c }).map (fun e=>(e.key,e.val))=(putKV a c kvs).map (fun x=>(Value.int kd x.1,x.2)):=by
 intro L
 induction L with
 | nil=>simp_all [findI]
 | cons e L ih =>
  intro kvs i j v h hf
  cases kvs with
  | nil=>grind
  | cons x kvs =>
   grind [findI,putKV]
theorem put_new {kd:IntKind} {a:Int} {c:Value} {b:Nat}:∀ (L:List MapEntry) (kvs:List (Int×Value)) (i:Nat),L.map (fun e=>(e.key,e.val))=kvs.map (fun x=>(Value.int kd x.1,x.2))→findI a kvs i=none →
  (L++[({ key:=.int kd a,val:=c,born:=b }:MapEntry)]).map (fun e=>(e.key,e.val))=(putKV a c kvs).map (fun x=>(Value.int kd x.1,x.2)):=by
 intro L kvs
 induction kvs generalizing L with
 | nil=>grind [putKV]
 | cons x kvs ih =>
  obtain ⟨b',d⟩:=x
  intro i h hf
  simp only [findI] at hf
  split at hf
  ·cases hf
  ·rename_i hab
   cases L with
   | nil=>simp at h
   | cons e L =>
    simp only [List.map_cons,List.cons.injEq] at h
    simp only [List.cons_append,List.map_cons,putKV,hab,if_false]
    rw [ih L (i+1) h.2 hf,h.1]
theorem mem_putKV {a:Int} {c:Value}:∀ {l:List (Int×Value)} {x:Int×Value},x∈putKV a c l→x=(a,c)∨x∈l:=by
 intro l
 induction l with
 | nil=>grind [putKV]
 | cons y l ih =>
  grind [putKV]
variable {P:Program} {o:Oper} {a:Act} {w:World} {K:Act→World→Prop} {Q:Exit→Act→World→Prop} {n:Nat} {Mo:Cells} {m:Mp} {s:Sa} {sv:List Act} {k:Sa→Prop} {p:Name} {S:Sems}
theorem tmapk_inv {t:TypeId} {kd:IntKind} (h:tmapk P t=some kd):∃ kt et,P.underlying t=some (.map kt et)∧P.underlying kt=some (.int kd):=by
 grind [tmapk]
theorem RepV.mref_inv {M:Cells} {n:Name} {c:Value} (h:RepV w M m (.mref n) c):c = .map (some (m.bx n)):=by cases h;rfl
theorem run_checkKey' {kt:TypeId} {kd:IntKind} {b:Int} (hd:P.underlying kt=some (.int kd)) (e:Bool) (n:Nat):(Instr.checkKey e (n+1) kt (.int kd b)).run P w = .ok () w:=by
 simp_all [Instr.checkKey,run_underlying]
theorem run_findKey' {kt:TypeId} {d:TypeDesc} {k:Value} {l:List MapEntry} {a:Option (Nat×Value)} (hd:P.underlying kt=some d) (h:Instr.findNow d k l 0=some a):(Instr.findKey kt k l).run P w = .ok a w:=by
 simp [Instr.findKey,run_underlying hd,h]
theorem run_getObj' {r:Nat} {es:Array MapEntry} {clk:Nat} (h:w.heap[r]? = some (.map es clk)):(getObj r).run P w = .ok (.map es clk) w:=by simp [getObj,Sem.run,h]
theorem run_setObj' {r:Nat} {es:Array MapEntry} {clk:Nat} (y:Obj) (h:w.heap[r]? = some (.map es clk)):(setObj r y).run P w = .ok () (w.putObj r y):=by simp [setObj,Sem.run,h,World.putObj]
theorem zero_rep {t:TypeId} {M:Cells} (hc:isCells (tzero P t)=true):∃ z,(zeroValue t).run P w = .ok z w∧RepV w M m (tzero P t) z:=by
 obtain ⟨i,z,hi,hz,e⟩:=tzero_inv hc
 simp_all [zeroValue,typeInfo,repV_const]
theorem getKV_leaf {kvs:List (Int×Value)} {b:Int} {v:Value} (h:∀ x∈kvs,okLeaf x.2) (hg:getKV b kvs=some v):okLeaf v:=by
 induction kvs with
 | nil=>simp [getKV] at hg
 | cons x kvs ih =>
  grind [getKV]
section
variable (hR:Rel Mo m s (a::sv) w) (hd:∀ d,o.dst=some d→d<s.n) (hK:OpNext Mo m s o.dst a sv w k K) (h:evOp P S p o s k)
include hR hd hK h
theorem op_makeMap {t:TypeId} (hop:o.op = .makeMap t none):o.wpIn (Wd (rdOf m s)) n P a w K Q:=by
 simp only [evOp,hop] at h
 split at h
 ·rename_i kd hkd
  obtain ⟨hr,hn,h⟩:=h
  obtain ⟨h8,h9⟩:=hR.newMap kd (o.dst.getD 0::p) (Sa.refs_protd hr) (Sa.refs_all hr) hn
  refine op_value (v:=.map (some w.heap.size)) (w':=w.alloc (.map #[] 0)) (by grind) (by
   grind [execOp,execOp_v,Instr.makeMap,Sem.run_bind,run_newObj_alloc,Result.andThen_ok,Sem.run_pure]) (next_put' hK h8 (by grind) h9 (by rfl) ?_ h)
  have:=@RepV.mref (w.alloc (.map #[] 0)) (Tot Mo ((o.dst.getD 0::p,V.mpc kd [])::s.bx) s.ow { m with bx:=fun n=>if n=o.dst.getD 0::p then w.heap.size else m.bx n }) { m with bx:=fun n=>if n=o.dst.getD 0::p then w.heap.size else m.bx n } (o.dst.getD 0::p)
  grind
 grind
theorem op_mapUpdate {t:TypeId} {x y z:Operand} (hop:o.op = .mapUpdate t x y z):o.wpIn (Wd (rdOf m s)) n P a w K Q:=by
 simp only [evOp,hop] at h
 have hx:=hR.operand x
 have hy:=hR.operand y
 have hz:=hR.operand z
 split at h
 ·rename_i kd nm hkd hmx
  split at h
  ·rename_i kd' kvs hb
   obtain ⟨rfl,h⟩:=h
   split at h
   ·rename_i kd2 b c hb1 hb2
    obtain ⟨rfl,h⟩:=h
    rw [hmx] at hx
    rw [hb1] at hy
    rw [hb2] at hz
    obtain ⟨cs,T,hbx⟩:=hR.box nm _ hb
    obtain ⟨es,clk,hh,hrep⟩:=hbx.heap
    obtain ⟨kt,et,hu,hku⟩:=tmapk_inv hkd
    have hf:=findNow_int (a:=b) es.toList kvs 0 hrep.1
    obtain ⟨es',clk',hrun,hk'⟩:∃ es' clk',(Instr.mapUpdate t (a.eval x) (a.eval y) (a.eval z)).run P w = .ok () (w.putObj (m.bx nm) (.map es' clk'))∧MapRep kd2 (putKV b c kvs) es':=by
     have hleafs:∀ q∈putKV b c kvs,okLeaf q.2:=fun q hq=>by
      rcases mem_putKV hq with rfl | hq
      ·exact hz.val.2
      ·exact hrep.2 q hq
     rw [hx.mref_inv,hy.val.1,hz.val.1]
     simp only [Instr.mapUpdate,Sem.run_bind,run_underlying hu,Result.andThen_ok,run_getObj' hh,run_checkKey' hku,run_findKey' hku hf]
     cases hfi:findI b kvs 0 with
     | none =>
      refine ⟨es.push { key:=.int kd2 b,val:=c,born:=clk },clk+1,by simp only [run_setObj' _ hh],?_,hleafs⟩
      rw [Array.toList_push]
      exact put_new es.toList kvs 0 hrep.1 hfi
     | some r =>
      obtain ⟨j,v⟩:=r
      obtain ⟨_,k2,k3⟩:=put_found (c:=c) es.toList kvs 0 j v hrep.1 hfi
      simp only [Nat.sub_zero] at k2 k3
      have hkey:((es[j]?).map (·.key)).getD (Value.int kd2 b) = .int kd2 b:=by
       grind
      refine ⟨es.modify j fun e=>{ e with key:=.int kd2 b,val:=c },clk,?_,?_,hleafs⟩
      ·grind [Instr.keyThatStays,Instr.sameBits,run_setObj']
      grind
    obtain ⟨h8,h9⟩:=hR.setMap hb hh hk' (clk':=clk')
    exact op_skip (by grind) (by grind [execOp,execOp_u]) (next_put' hK h8 (by grind) h9 (by rfl) dead_rep h)
   grind
  grind
 grind
theorem op_lookup {t:TypeId} {x y:Operand} {ok:Bool} (hop:o.op = .lookup t x y ok):o.wpIn (Wd (rdOf m s)) n P a w K Q:=by
 simp only [evOp,hop] at h
 have hx:=hR.operand x
 have hy:=hR.operand y
 split at h
 ·rename_i kd et nm hkd hte hmx
  split at h
  ·rename_i kd' kvs hb
   obtain ⟨rfl,h⟩:=h
   split at h
   ·rename_i kd2 b hb1
    obtain ⟨rfl,hzc,h⟩:=h
    rw [hmx] at hx
    rw [hb1] at hy
    obtain ⟨cs,T,hbx⟩:=hR.box nm _ hb
    obtain ⟨es,clk,hh,hrep⟩:=hbx.heap
    obtain ⟨kt,et',hu,hku⟩:=tmapk_inv hkd
    have he:et' = et:=by grind [tmape]
    subst he
    have hf:=findNow_int (a:=b) es.toList kvs 0 hrep.1
    have hg:=findI_get b kvs 0
    have hzero:∃ z,(zeroValue et').run P w = .ok z w∧RepV w (Tot Mo s.bx s.ow m) m (tzero P et') z:=zero_rep hzc
    obtain ⟨z,hz1,hz2⟩:=hzero
    have hmain:∃ v,RepV w (Tot Mo s.bx s.ow m) m (((getKV b kvs).map (fun c=>V.d (.v c))).getD (tzero P et')) v∧((findI b kvs 0=none∧getKV b kvs=none∧v=z)∨∃ j,findI b kvs 0=some (j,v)∧getKV b kvs=some v):=by
     cases hfi:findI b kvs 0 with
     | none =>
      grind
     | some r =>
      obtain ⟨j,v⟩:=r
      have hgs:getKV b kvs=some v:=by grind
      exact ⟨v,by rw [hgs];exact .d (.v (getKV_leaf hrep.2 hgs)),.inr ⟨j,rfl,hgs⟩⟩
    obtain ⟨v,hv2,hv1⟩:=hmain
    have hrun:(Instr.lookup t (a.eval x) (a.eval y) ok).run P w = .ok (if ok then .tuple #[v,.bool (getKV b kvs).isSome] else v) w:=by
     rw [hx.mref_inv,hy.val.1]
     simp only [Instr.lookup,Sem.run_bind,run_underlying hu,Result.andThen_ok,run_getObj' hh,Sem.run_pure,run_checkKey' hku,run_findKey' hku hf]
     rcases hv1 with ⟨h1,h2,rfl⟩ | ⟨j,h1,h2⟩
     ·simp_all
     simp_all
    refine op_value (w':=w) (by grind) (by simp only [execOp,hop];exact execOp_v hrun) (next_put hR hd hK ?_ h)
    cases ok with
    | false=>grind
    | true =>
     simp only [if_true]
     refine .tup (by simp) (fun i hi=>?_)
     match i with
     | 0=>simp_all
     | 1=>exact .d (.v trivial)
     | i+2=>grind
   grind
  grind
 grind
end
end Go.Ab
namespace Go.Ab
open Go Go.RowKit
variable {P:Program} {o:Oper} {a:Act} {w:World} {K:Act→World→Prop} {Q:Exit→Act→World→Prop} {n:Nat} {Mo:Cells} {m:Mp} {s:Sa} {sv:List Act} {k:Sa→Prop} {p:Name} {S:Sems}
structure ListOK (w:World) (M:Cells) (ys:List D) (sz:Nat) (L:List Value):Prop where
 len:L.length=ys.length * sz
 row:∀ y∈ys,y.cells.length=sz
 leafs:∀ v∈L,leaf v=true
 rep:∀ i (hi:i<ys.length) j (hj:j<ys[i].cells.length),RepD w M (ys[i].cells)[j] (L.getD (i * sz+j) undef)
theorem mul_lt {i n sz j:Nat} (hi:i<n) (hj:j<sz):i * sz+j<n * sz:=by
 have:(i+1) * sz≤n * sz:=Nat.mul_le_mul_right _ hi
 rw [Nat.add_mul] at this;omega
theorem run_firstCells {M:Cells} {ys:List D} {c:Value} {sz:Nat} (h:RepD w M (.sl ys) c) (hr:∀ y∈ys,y.cells.length=sz) (hz:sz≠0) :
  ∃ L,(∀ w' : World,w'.heap=w.heap→(Builtin.firstCells sz ys.length c).run P w' = .ok L.toArray w')∧ListOK w M ys sz L ∧
   ∀ q,q<L.length→∃ ad cap,c = .slice (some ad) ys.length cap∧ad.spot=none∧w.cell? ⟨ad.block,ad.off+q,none⟩=some (L.getD q undef)∧¬ M ad.block (ad.off+q):=by
 obtain ⟨ad,cap,sz',b,off,cv,ec,hc1,hc2,ha,hsz,hcell,hrep⟩:=h.sl_inv
 subst ec
 cases ys with
 | nil =>
  refine ⟨[],fun w' _=>?_,⟨by simp,by simp,by simp,by simp⟩,by simp⟩
  cases ad with
  | none=>rfl
  | some ad =>
   simp_all [Builtin.firstCells,loadCells,loadCellsFrom]
 | cons y ys =>
  have hne:y::ys≠[]:=by simp
  have e1:sz' = sz:=by rw [← hsz 0 (by simp)];exact hr _ (by simp)
  subst e1
  rw [ha hne]
  have hdm:∀ q,q<(y::ys).length * sz' → q / sz' < (y::ys).length∧q % sz' < sz':=fun q hq=>⟨by rw [Nat.div_lt_iff_lt_mul (Nat.pos_of_ne_zero hz)];exact hq,Nat.mod_lt _ (Nat.pos_of_ne_zero hz)⟩
  refine ⟨(List.range ((y::ys).length * sz')).map (fun q=>cv (q / sz') (q % sz')),fun w' hw'=>?_,?_,fun q hq=>?_⟩
  ·simp only [Builtin.firstCells]
   refine run_loadCells w' _ _ _ (fun q hq=>?_)
   rw [addr_add,World.cell?_of_block (w:=w) (by rw [hw'])]
   obtain ⟨h1,h2⟩:=hdm q hq
   have:=(hcell (q / sz') h1 (q % sz') (by rw [hsz _ h1];exact h2)).1
   rw [← this];congr 2
   have:=Nat.div_add_mod q sz'
   rw [Nat.mul_comm] at this;omega
  ·have hg:∀ i (hi:i<(y::ys).length) j,j<sz' → ((List.range ((y::ys).length * sz')).map (fun q=>cv (q / sz') (q % sz'))).getD (i * sz' + j) undef=cv i j:=by
    intro i hi j hj
    have:=mul_lt hi hj
    rw [List.getD_eq_getElem?_getD,List.getElem?_map,List.getElem?_range this]
    simp only [Option.map_some,Option.getD_some]
    have hp:0<sz':=Nat.pos_of_ne_zero hz
    rw [show (i * sz' + j) / sz' = i from by rw [Nat.add_comm,Nat.add_mul_div_right _ _ hp,Nat.div_eq_of_lt hj];omega,
     show (i * sz' + j) % sz' = j from by rw [Nat.add_comm,Nat.add_mul_mod_self_right,Nat.mod_eq_of_lt hj]]
   refine ⟨by simp,hr,fun v hv=>?_,fun i hi j hj=>?_⟩
   ·simp only [List.mem_map,List.mem_range] at hv
    obtain ⟨q,hq,rfl⟩:=hv
    obtain ⟨h1,h2⟩:=hdm q hq
    exact (hcell _ h1 _ (by rw [hsz _ h1];exact h2)).2.1
   ·rw [hg i hi j (by rw [← hsz i hi];exact hj)]
    exact hrep i hi j hj
  ·simp only [List.length_map,List.length_range] at hq
   obtain ⟨h1,h2⟩:=hdm q hq
   refine ⟨_,cap,rfl,rfl,?_⟩
   have h3:=hcell (q / sz') h1 (q % sz') (by rw [hsz _ h1];exact h2)
   have e2:off+q / sz' * sz' + q % sz' = off+q:=by
    have:=Nat.div_add_mod q sz'
    rw [Nat.mul_comm] at this;omega
   rw [e2] at h3
   refine ⟨?_,h3.2.2⟩
   rw [List.getD_eq_getElem?_getD,List.getElem?_map,List.getElem?_range hq]
   exact h3.1
theorem run_append {t u e:TypeId} {ty:TypeId} {ts:Array TypeId} {args:Array Value} {base:Option Addr} {len cap:Nat} {y:Value} {ny:Nat} {L old:List Value} {z:Value}
  (ht:ts[0]? = some t) (hu:ts[1]? = some u) (hut:P.underlying t=some (.slice e)) (huu:P.underlying u=some (.slice e)) (hez:tsz P e≠0)
  (hz:∃ i,P.info? e=some i∧i.zero=some z)
  (h0:args[0]? = some (.slice base len cap)) (h1:args[1]? = some y) (hny:(Builtin.lenOf y).run P w = .ok ny w)
  (hb:(len+ny) * tbytes P e≤140737488355328) (hmx:len+ny≤9223372036854775807)
  (hnew:∀ w',w'.heap=w.heap→(Builtin.firstCells (tsz P e) ny y).run P w' = .ok L.toArray w')
  (hold:∀ w',w'.heap=w.heap→(Builtin.firstCells (tsz P e) len (.slice base len cap)).run P w' = .ok old.toArray w')
  (hstore:len+ny≤cap→∀ ad,base=some ad→(storeCells (ad.add (len * tsz P e)) L).run P w = .ok () (putCells w ad.block (ad.off+len * tsz P e) L)) :
  (len+ny≤cap∧(Builtin.append_ ts ty args).run P w = .ok (.slice base (len+ny) cap) (match base with | some ad=>putCells w ad.block (ad.off+len * tsz P e) L | none=>w)) ∨
  (cap<len+ny∧∃ nc rest,(len+ny≤nc∧nc≤9223372036854775807)∧(Builtin.append_ ts ty args).run P w = .ok (.slice (some ⟨w.heap.size,0,none⟩) (len+ny) nc) (w.drew.alloc (.cells (old.toArray++L.toArray++rest) e))∧rest.size=(nc - (len+ny)) * z.cells.size):=by
 have hsz:=run_sizeOf_ne (w:=w) hez
 obtain ⟨i,hi,hiz⟩:=hz
 by_cases hc:len+ny≤cap
 ·left
  refine ⟨hc,?_⟩
  simp only [Builtin.append_,ht,hu,h0,h1,Sem.run_bind,run_underlying hut,run_underlying huu,Result.andThen_ok,hsz,Sem.run_pure]
  grind [Result.andThen_ok,Sem.run_bind,Sem.run_pure]
 ·right
  refine ⟨by omega,?_⟩
  have hti:∀ w',(typeInfo e).run P w' = .ok i w':=fun w'=>by simp [typeInfo,hi]
  have hib:i.bytes=tbytes P e:=by simp [tbytes,hi]
  have hzr:∀ w',(zeroValue e).run P w' = .ok z w':=fun w'=>by simp [zeroValue,typeInfo,hi,hiz]
  have hmax : ¬ (((len+ny:Nat):Int)>IntKind.i64.max∧(False∨i.bytes=0)):=fun hx=>by
   have:=hx.1
   simp only [IntKind.max,IntKind.signed,IntKind.bits,if_true] at this
   omega
  have hnc : ¬ (Builtin.nextslicecap (len+ny) cap * i.bytes>2 ^ 48):=by
   have h1:=nextcap_le (need:=len+ny) (cap:=cap) (by omega)
   have h2:Builtin.nextslicecap (len+ny) cap * i.bytes≤2 * (len+ny) * i.bytes:=Nat.mul_le_mul_right _ h1
   rw [Nat.mul_assoc,hib] at h2
   rw [hib];omega
  refine ⟨(Question.appendCap (len+ny) cap e).cut (w.tape w.drawn (Question.appendCap (len+ny) cap e)),Builtin.zeroCells z.cells ((Question.appendCap (len+ny) cap e).cut (w.tape w.drawn (Question.appendCap (len+ny) cap e)) - (len+ny)),⟨by simp [Question.cut],by
   have:=Nat.mod_lt (w.tape w.drawn (Question.appendCap (len+ny) cap e)) (y:=2 ^ 63 - (len+ny)) (by omega)
   simp only [Question.cut];omega⟩,?_,by simp [Builtin.zeroCells]⟩
  simp only [Builtin.append_,ht,hu,h0,h1,Sem.run_bind,run_underlying hut,run_underlying huu,Result.andThen_ok,hsz,Sem.run_pure]
  simp only [Bool.false_eq_true,if_false,hny,Result.andThen_ok,Sem.run_bind]
  rw [if_neg hc]
  simp only [Sem.run_bind,hti,Result.andThen_ok]
  rw [if_neg hmax]
  simp only [Sem.run_bind,hti,Result.andThen_ok]
  rw [if_neg hnc]
  simp only [Sem.run_bind,run_choose,Question.forced,Bool.false_eq_true,if_false,Result.andThen_ok,hti,run_askRoom,Bool.not_false,if_true,World.drew_eq,hold w.drew rfl,hnew w.drew rfl,hzr,newRow,run_newObj,World.alloc_eq,Sem.run_pure]
  rfl
end Go.Ab
namespace Go.Ab
open Go Go.RowKit
variable {P:Program} {o:Oper} {a:Act} {w:World} {K:Act→World→Prop} {Q:Exit→Act→World→Prop} {n:Nat} {Mo:Cells} {m:Mp} {s:Sa} {sv:List Act} {k:Sa→Prop} {p:Name} {S:Sems}
theorem RepV.nil_inv {M:Cells} {c:Value} (h:RepV w M m .nil c):c = .slice none 0 0:=by cases h;rfl
theorem mut_map {bx:List (Name×V)} {ow:List Name} {i:Name} {b j:Nat}:Mut (bx.map (fun x=>(x.1,x.2.strip i))) ow m b j↔Mut bx ow m b j:=by
 constructor
 ·rintro (⟨nm,c,hn,e⟩ | h)
  ·rw [lookN_map] at hn
   cases hc:lookN nm bx with
   | none=>grind
   | some c'=>exact .inl ⟨nm,c',hc,e⟩
  ·exact .inr h
 ·rintro (⟨nm,c,hn,e⟩ | h)
  ·exact .inl ⟨nm,c.strip i,by rw [lookN_map,hn];rfl,e⟩
  ·exact .inr h
theorem look_map_inv {bx:List (Name×V)} {i nm:Name} {c:V} (h:lookN nm (bx.map (fun x=>(x.1,x.2.strip i)))=some c):∃ c',lookN nm bx=some c':=by
 rw [lookN_map] at h
 cases hc:lookN nm bx with
 | none=>grind
 | some c'=>grind
theorem getD_append_left' {l r:List Value} {i:Nat} (h:i<l.length):(l++r).getD i undef=l.getD i undef:=by
 grind
theorem getD_append_right' {l r:List Value} {i:Nat} (h:l.length≤i):(l++r).getD i undef=r.getD (i - l.length) undef:=by
 grind
theorem row_append {M:Cells} {xs ys:List D} {sz b off:Nat} {old L:List Value} (hx:ListOK w M xs sz old) (hy:ListOK w M ys sz L)
  (hcell:∀ q,q<old.length+L.length→w.cell? ⟨b,off+q,none⟩=some ((old++L).getD q undef)∧¬ M b (off+q)) :
  RowOK w M (xs++ys) sz b off (fun i j=>(old++L).getD (i * sz+j) undef):=by
 have hlen:∀ i (hi:i<(xs++ys).length),(xs++ys)[i].cells.length=sz:=by
  intro i hi
  have:=List.getElem_mem hi
  rcases List.mem_append.1 this with h | h
  ·exact hx.row _ h
  ·exact hy.row _ h
 have hlt:∀ i j,i<(xs++ys).length→j<sz→i * sz+j<old.length+L.length:=by
  intro i j hi hj
  rw [hx.len,hy.len,← Nat.add_mul]
  simp_all [mul_lt]
 refine ⟨hlen,fun i hi j hj=>?_,fun i hi j hj=>?_⟩
 ·have h1:=hcell _ (hlt i j hi hj)
  rw [Nat.add_assoc]
  refine ⟨h1.1,?_,h1.2⟩
  have h2:=hlt i j hi hj
  rw [List.getD_eq_getElem?_getD,List.getElem?_eq_getElem (by simpa using h2)]
  have:=List.getElem_mem (l:=old++L) (n:=i * sz+j) (by simpa using h2)
  rcases List.mem_append.1 this with h | h
  ·exact hx.leafs _ h
  ·exact hy.leafs _ h
 ·have hj' : j<sz:=by rw [← hlen i hi];exact hj
  by_cases h:i<xs.length
  ·have e:(xs++ys)[i]=xs[i]:=List.getElem_append_left h
   simp only [e] at hj ⊢
   rw [getD_append_left' (by rw [hx.len];exact mul_lt h hj')]
   exact hx.rep i h j hj
  ·have h' : xs.length≤i:=Nat.le_of_not_lt h
   have e:(xs++ys)[i]=ys[i - xs.length]'(by simp at hi;omega):=List.getElem_append_right h'
   simp only [e] at hj ⊢
   have e2:i * sz+j=old.length+((i - xs.length) * sz+j):=by
    rw [hx.len,← Nat.add_assoc,← Nat.add_mul]
    congr 2;omega
   rw [e2,getD_append_right' (by omega),Nat.add_sub_cancel_left]
   exact hy.rep _ (by simp at hi;omega) j hj
theorem ListOK.stab {M M' : Cells} {w' : World} {ys:List D} {sz:Nat} {L:List Value} (hs:Stab w M w' M') (h:ListOK w M ys sz L):ListOK w' M' ys sz L :=
 ⟨h.len,h.row,h.leafs,fun i hi j hj=>(h.rep i hi j hj).mono hs⟩
theorem append_core {t u e:TypeId} {ty:TypeId} {ts:Array TypeId} {args:Array Value} {as:List Act} (hR:Rel Mo m s as w) (i:Name) (xs ys:List D) (base:Option Addr) (cap:Nat) (y:Value)
  (ht:ts[0]? = some t) (hu:ts[1]? = some u) (hut:P.underlying t=some (.slice e)) (huu:P.underlying u=some (.slice e)) (hez:tsz P e≠0)
  (hzc:isCells (tzero P e)=true) (hzl:(tzero P e).cells.length=tsz P e)
  (h0:args[0]? = some (.slice base xs.length cap)) (h1:args[1]? = some y)
  (hx:RepD w (Tot Mo s.bx s.ow m) (.sl xs) (.slice base xs.length cap)) (hxr:∀ x∈xs,x.cells.length=tsz P e)
  (hsp:(i∈s.ow∧Spare w m i (tsz P e) (.slice base xs.length cap))∨(base=none∧cap=0))
  (hy:RepD w (Tot Mo s.bx s.ow m) (.sl ys) y) (hyr:∀ x∈ys,x.cells.length=tsz P e)
  (hb:(xs.length+ys.length) * tbytes P e≤140737488355328) (hmx:xs.length+ys.length≤9223372036854775807) :
  ∃ m' v w',(Builtin.append_ ts ty args).run P w = .ok v w' ∧ Rel Mo m' { s.strip i with ow:=i::(s.strip i).ow } as w' ∧
   RepV w' (Tot Mo (s.strip i).bx (i::(s.strip i).ow) m') m' (.own i (tsz P e) (xs++ys)) v∧Step m s w m' { s.strip i with ow:=i::(s.strip i).ow } w' ∧ m'.lp=m.lp:=by
 obtain ⟨zi,z,hzi,hzz,hzcv⟩:=tzero_inv hzc
 have hzs:z.cells.size=tsz P e:=by
  have:=(repV_const (w:=w) (M:=fun _ _=>False) (m:=m) z).csOK (by grind)
  rw [this.size,← hzcv];grind
 have hnone:base=none→cap=0:=by
  rcases hsp with ⟨_,h⟩ | ⟨_,h⟩
  ·intro e'; subst e'; exact h.1
  grind
 have hlenof:(Builtin.lenOf y).run P w = .ok ys.length w:=by
  obtain ⟨_,_,_,_,_,_,e',_⟩:=hy.sl_inv
  rw [e'];rfl
 obtain ⟨old,hold,okx,atx⟩:=run_firstCells (P:=P) hx hxr hez
 obtain ⟨L,hnew,oky,aty⟩:=run_firstCells (P:=P) hy hyr hez
 have hvi:lookN i (s.vc.filter fun x=>x.1 != i)=none:=by rw [lookN_filter (q:=fun j=>j != i)];simp
 have hR2:=hR.dropOw i s.ow (fun _ h=>h) (s.vc.filter fun x=>x.1 != i) (fun n c hn=>by
  rw [lookN_filter (q:=fun j=>j != i)] at hn
  split at hn
  ·exact ⟨hn,(hR.vec n c hn).1⟩
  grind)
 have hno:AllV (fun v=>i ∉ v.ows) { s with ts:=mapT (V.strip i) s.ts,sv:=s.sv.map (fun f=>{ f with ts:=mapT (V.strip i) f.ts }),bx:=s.bx.map (fun x=>(x.1,x.2.strip i)),ow:=s.ow,vc:=s.vc.filter fun x=>x.1 != i } :=
  ⟨(Sa.strip_all s i).ts,(Sa.strip_all s i).sv,(Sa.strip_all s i).bx⟩
 have htot:∀ b j,Tot Mo (s.bx.map (fun x=>(x.1,x.2.strip i))) s.ow m b j↔Tot Mo s.bx s.ow m b j:=fun b j=>or_congr Iff.rfl mut_map
 have hstep0:∀ (m' : Mp) (w' : World),Keeps w w' (Mut s.bx s.ow m) (LpB s.lp m)→(∀ b j,b<w.heap.size→Mut (s.bx.map (fun x=>(x.1,x.2.strip i))) (i::s.ow.filter (fun j=>j != i)) m' b j→Mut s.bx s.ow m b j)→m'.lp=m.lp→m'.bx=m.bx →
   Step m s w m' { s.strip i with ow:=i::(s.strip i).ow } w':=fun m' w' h1 h2 h3 h4=>⟨h1,h2,fun b _ hl=>by obtain ⟨l,p,hl,e⟩:=hl;exact ⟨l,p,hl,by grind⟩,rfl,by simp [Sa.strip,List.map_map,Function.comp_def],fun _ _=>⟨by rw [h3],fun _ _=>by rw [h4]⟩⟩
 have hregs0:∀ (reg:Nat×Nat×Nat) (b j:Nat),Mut (s.bx.map (fun x=>(x.1,x.2.strip i))) (i::s.ow.filter (fun j=>j != i)) { m with ow:=fun j=>if j=i then reg else m.ow j } b j →
   (∃ nm c,lookN nm s.bx=some c∧b=m.bx nm)∨(∃ j' ∈ s.ow,j' ≠ i∧(m.ow j').1=b∧(m.ow j').2.1≤j∧j<(m.ow j').2.2)∨(reg.1=b∧reg.2.1≤j∧j<reg.2.2):=by
  intro reg b j hm
  rcases hm with ⟨nm,c,hn,e'⟩ | ⟨j',hj',h3⟩
  ·obtain ⟨c',hc'⟩:=look_map_inv hn
   grind
  grind
 have hregs:∀ (reg:Nat×Nat×Nat) (b j:Nat),Mut (s.bx.map (fun x=>(x.1,x.2.strip i))) (i::s.ow.filter (fun j=>j != i)) { m with ow:=fun j=>if j=i then reg else m.ow j } b j →
   Mut s.bx s.ow m b j∨(reg.1=b∧reg.2.1≤j∧j<reg.2.2):=by
  intro reg b j hm
  rcases hregs0 reg b j hm with h | ⟨j',h1,_,h3⟩ | h
  ·exact .inl (.inl h)
  ·exact .inl (.inr ⟨j',h1,h3⟩)
  grind
 have happ:=run_append (P:=P) (ty:=ty) (L:=L) (old:=old) ht hu hut huu hez ⟨zi,hzi,hzz⟩ h0 h1 hlenof hb hmx hnew hold (by
  intro hc ad had
  subst had
  rcases hsp with ⟨_,h⟩ | ⟨h,_⟩
  ·rcases h with ⟨hn,_⟩ | ⟨hspot,hnc,hreg,c,T,hblk,hsz⟩
   ·have hy0:ys=[]:=List.eq_nil_of_length_eq_zero (by omega)
    have hL0:L=[]:=List.eq_nil_of_length_eq_zero (by rw [oky.len,hy0];simp)
    rw [hL0];simp [storeCells,putCells]
   have e0:ad=⟨ad.block,ad.off,none⟩:=by cases ad;simp at hspot;subst hspot;rfl
   rw [e0,addr_add]
   have:=run_storeCells (P:=P) L oky.leafs w ad.block (ad.off+xs.length * tsz P e) 0 c T hblk (by
    rw [oky.len,Nat.add_zero,Nat.add_assoc,← Nat.add_mul]
    have:(xs.length+ys.length) * tsz P e≤cap * tsz P e:=Nat.mul_le_mul_right _ hc
    omega)
   grind
  grind)
 rcases happ with ⟨hc,hrun⟩ | ⟨hc,nc,rest,⟨hnc,_⟩,hrun,hrest⟩
 ·
  cases base with
  | none =>
   have:=hnone rfl
   have hx0:xs=[]:=List.eq_nil_of_length_eq_zero (by omega)
   have hy0:ys=[]:=List.eq_nil_of_length_eq_zero (by omega)
   subst hx0;subst hy0;subst this
   simp only at hrun
   have hR3:=hR2.reown (w':=w) i (0,0,0) hno hvi (fun _ _ _ _ _ _ _ _ hv=>hv) (fun b c T h=>⟨c,h,rfl⟩) (fun _ _ h _=>h) (Nat.le_refl _) (fun _ _ _=>rfl)
    (fun b j c hcell hm=>⟨hcell,fun hx=>hm (by
     rcases hx with hx | hx
     ·exact .inl hx
     ·rcases hregs _ b j hx with hx | hx
      ·exact .inr (mut_map.2 hx)
      ·exact absurd (Nat.lt_of_le_of_lt hx.2.1 hx.2.2) (Nat.lt_irrefl _))⟩) (fun hn=>absurd hn (by simp [nonempty]))
   refine ⟨_,_,w,hrun,hR3,.own ?_ (by simp) ⟨rfl,by simp⟩,hstep0 _ _ (.of_below (Below.refl _ _)) (fun b j _ hm=>?_) rfl rfl,rfl⟩
   ·exact RepD.sl (xs:=[]) (a:=none) (cap:=0) 0 0 0 (fun _ _=>undef) (by simp) (by simp) (by simp) (by simp) (by simp) (by simp)
   ·rcases hregs _ b j hm with hx | hx
    ·exact hx
    ·exact absurd (Nat.lt_of_le_of_lt hx.2.1 hx.2.2) (Nat.lt_irrefl _)
  | some ad =>
   simp only at hrun
   rcases hsp with ⟨hi,h⟩ | ⟨h,_⟩
   ·rcases h with ⟨hnn,hrr⟩ | ⟨hspot,hncap,hreg,c,T,hblk,hsz⟩
    ·have hy0:ys=[]:=List.eq_nil_of_length_eq_zero (by omega)
     subst hy0
     have hL0:L=[]:=List.eq_nil_of_length_eq_zero (by rw [oky.len];simp)
     subst hL0
     simp only [putCells] at hrun
     have hR3:=hR2.reown (w':=w) i (0,0,0) hno hvi (fun _ _ _ _ _ _ _ _ hv=>hv) (fun b c T h=>⟨c,h,rfl⟩) (fun _ _ h _=>h) (Nat.le_refl _) (fun _ _ _=>rfl)
      (fun b j c hcell hm=>⟨hcell,fun hx=>hm (by
       rcases hx with hx | hx
       ·exact .inl hx
       ·rcases hregs _ b j hx with hx | hx
        ·exact .inr (mut_map.2 hx)
        ·exact absurd (Nat.lt_of_le_of_lt hx.2.1 hx.2.2) (Nat.lt_irrefl _))⟩) (fun hn=>absurd hn (by simp [nonempty]))
     refine ⟨_,_,w,hrun,hR3,.own ?_ (by simpa using hxr) (.inl ⟨by simpa using hnn,by simp⟩),hstep0 _ _ (.of_below (Below.refl _ _)) (fun b j _ hm=>?_) rfl rfl,rfl⟩
     ·rw [List.append_nil]
      exact hx.mono (fun b j c hcell hm=>⟨hcell,fun ht=>hm (by
       rcases ht with ht | ht
       ·exact .inl ht
       ·rcases hregs _ b j ht with ht | ht
        ·exact .inr ht
        ·exact absurd (Nat.lt_of_le_of_lt ht.2.1 ht.2.2) (Nat.lt_irrefl _))⟩)
     ·rcases hregs _ b j hm with hx | hx
      ·exact hx
      ·exact absurd (Nat.lt_of_le_of_lt hx.2.1 hx.2.2) (Nat.lt_irrefl _)
    have hcapm:(xs.length+ys.length) * tsz P e≤cap * tsz P e:=Nat.mul_le_mul_right _ hc
    have hadd:(xs.length+ys.length) * tsz P e=xs.length * tsz P e+ys.length * tsz P e:=Nat.add_mul _ _ _
    have hLl:=oky.len
    have hOl:=okx.len
    have hin:∀ j,ad.off+xs.length * tsz P e≤j→j<ad.off+cap * tsz P e→Mut s.bx s.ow m ad.block j:=fun j h1 h2=>.inr ⟨i,hi,by rw [hreg],by rw [hreg];exact h1,by rw [hreg];exact h2⟩
    have hne:∀ j,ad.off+xs.length * tsz P e≤j→j<ad.off+cap * tsz P e→nonempty (m.ow i):=fun j h1 h2=>by rw [hreg];simp only [nonempty];omega
    obtain ⟨c',q1,q2,q3,q4,q5,q6,q7,q8,q9⟩:=putCells_spec L w ad.block (ad.off+xs.length * tsz P e) c T hblk (by omega)
    have hst:Stab w (Tot Mo (s.bx.map (fun x=>(x.1,x.2.strip i))) s.ow m) (putCells w ad.block (ad.off+xs.length * tsz P e) L)
      (Tot Mo (s.bx.map (fun x=>(x.1,x.2.strip i))) (i::s.ow.filter (fun j=>j != i)) { m with ow:=fun j=>if j=i then (ad.block,ad.off+(xs.length+ys.length) * tsz P e,ad.off+cap * tsz P e) else m.ow j }):=by
     intro b j x hcell hm
     rw [htot] at hm
     refine ⟨?_,fun ht=>?_⟩
     ·by_cases e' : b=ad.block
      ·subst e'
       rw [cell_of_block q1,q3 j (by
        by_cases hj:j<ad.off+xs.length * tsz P e
        ·exact .inl hj
        ·by_cases hj2:j<ad.off+cap * tsz P e
         ·exact absurd (.inr (hin j (by omega) hj2)) hm
         ·right;omega),← cell_of_block hblk];exact hcell
      ·rw [World.cell?_of_block (w:=w) (q5 b e')];exact hcell
     ·rcases ht with ht | ht
      ·exact hm (.inl ht)
      ·rcases hregs _ b j ht with ht | ⟨h1,h2,h3⟩
       ·exact hm (.inr ht)
       ·simp only at h1 h2 h3
        subst h1
        exact hm (.inr (hin j (by omega) h3))
    have hsh:Shape w (putCells w ad.block (ad.off+xs.length * tsz P e) L):=by
     intro b d T' hd
     by_cases e' : b=ad.block
     ·subst e'; rw [hblk] at hd;cases hd;exact ⟨c',q1,q2⟩
     ·exact ⟨d,by rw [q5 b e'];exact hd,rfl⟩
    have hR3:=hR2.reown i (ad.block,ad.off+(xs.length+ys.length) * tsz P e,ad.off+cap * tsz P e) hno hvi (fun j hj hji hjn o' v _ _ hv=>by
      by_cases e' : (m.ow j).1=ad.block
      ·by_cases hL:L=[]
       ·subst hL;exact hv
       ·have hpos:0<L.length:=List.length_pos_iff.2 hL
        exact absurd (hR.owx j hj i hi hjn (hne (ad.off+xs.length * tsz P e) (Nat.le_refl _) (by omega)) (by rw [hreg];exact e')) hji
      ·rw [World.cell?_of_block (w:=w) (a:=⟨_,o',none⟩) (q5 _ e')];exact hv) hsh
     (fun b x hx' hnx=>by
      have e' : b≠ad.block:=fun e'=>by subst e'; rw [hblk] at hx'; cases hx'; exact hnx _ _ _ rfl
      rw [q5 b e'];exact hx') (by rw [q9];exact Nat.le_refl _) (fun nm d hn=>by
      by_cases e' : m.bx nm=ad.block
      ·by_cases hL:L=[]
       ·subst hL;rfl
       ·exfalso
        have hpos:0<L.length:=List.length_pos_iff.2 hL
        obtain ⟨d',hd'⟩:=look_map_inv hn
        have:=hR.owb i hi (hne (ad.off+xs.length * tsz P e) (Nat.le_refl _) (by omega)) nm d' hd'
        rw [hreg] at this;exact this e'.symm
      ·exact q5 _ e') hst (fun hn=>by
      simp only [nonempty] at hn
      have hne':=hne (ad.off+(xs.length+ys.length) * tsz P e) (by omega) hn
      refine ⟨⟨c',T,q1,by simp only;omega⟩,fun j hj hji hjn e'=>?_,fun nm d hd e'=>?_,fun o' ho=>?_⟩
      ·have:=hR.owx j hj i hi hjn hne' (by rw [hreg];exact e')
       exact hji this
      ·obtain ⟨d',hd'⟩:=look_map_inv hd
       have:=hR.owb i hi hne' nm d' hd'
       rw [hreg] at this;exact this e'
      ·have:=hR.owm i hi hne' o'
       rw [hreg] at this;exact this ho)
    refine ⟨_,_,_,hrun,hR3,.own ?_ (fun x hx'=>?_) ?_,hstep0 _ _ ⟨q6,q7,q8,by rw [q9];exact Nat.le_refl _,fun b _ hC _=>?_,fun b d T' f hd _=>?_⟩ (fun b j _ hm=>?_) rfl rfl,rfl⟩
    ·have hrow:=row_append (w:=putCells w ad.block (ad.off+xs.length * tsz P e) L) (b:=ad.block) (off:=ad.off) ((okx.stab (fun b j x hcell hm=>⟨hcell,fun ht=>hm ((htot b j).1 ht)⟩)).stab hst) ((oky.stab (fun b j x hcell hm=>⟨hcell,fun ht=>hm ((htot b j).1 ht)⟩)).stab hst) (fun q hq=>by
      by_cases hq1:q<old.length
      ·obtain ⟨ad',cap',e1,e2,e3,e4⟩:=atx q hq1
       cases e1
       rw [getD_append_left' hq1]
       exact hst _ _ _ e3 (fun ht=>e4 ((htot _ _).1 ht))
      ·have hq2:q - old.length<L.length:=by omega
       have e5:ad.off+q=ad.off+xs.length * tsz P e+(q - old.length):=by omega
       rw [getD_append_right' (by omega)]
       have h4:=q4 (q - old.length) hq2
       rw [← e5] at h4
       refine ⟨?_,fun ht=>?_⟩
       ·rw [cell_of_block q1,h4,List.getD_eq_getElem?_getD,List.getElem?_eq_getElem hq2];rfl
       ·have hne':=hne (ad.off+q) (by omega) (by omega)
        rcases ht with ht | ht
        ·have:=hR.owm i hi hne' (ad.off+q)
         rw [hreg] at this;exact this ht
        ·rcases hregs0 _ _ _ ht with ⟨nm,d,hd,e'⟩ | ⟨j',h1,h2,h3,h4',h5⟩ | ⟨h1,h2,h3⟩
         ·have:=hR.owb i hi hne' nm d hd
          rw [hreg] at this;exact this e'
         ·exact h2 (hR.owx j' h1 i hi (by simp only [nonempty];omega) hne' (by rw [hreg];exact h3))
         ·simp only at h2;omega)
     have e0:ad=⟨ad.block,ad.off,none⟩:=by cases ad;simp at hspot;subst hspot;rfl
     have:=hrow.repD (ad:=some ad) (cap:=cap) (by simp;omega) (by simp;omega) (fun _=>by rw [← e0])
     rw [List.length_append] at this;exact this
    ·rcases List.mem_append.1 hx' with h | h
     ·exact hxr _ h
     ·exact hyr _ h
    ·exact .inr ⟨hspot,hc,by simp,c',T,q1,by omega⟩
    ·by_cases e' : b=ad.block
     ·by_cases hL:L=[]
      ·subst hL;rfl
      ·have hpos:0<L.length:=List.length_pos_iff.2 hL
       subst e'
       exact absurd (hin (ad.off+xs.length * tsz P e) (Nat.le_refl _) (by omega)) (hC _)
     ·exact q5 b e'
    ·by_cases e' : b=ad.block
     ·subst e'
      rw [hblk] at hd;cases hd
      refine ⟨c',q1,q2,fun o' ho=>q3 o' ?_⟩
      by_cases hj:o' < ad.off+xs.length * tsz P e
      ·exact .inl hj
      ·by_cases hj2:o' < ad.off+cap * tsz P e
       ·exact absurd (hin o' (by omega) hj2) ho
       ·right;omega
     ·exact ⟨d,by rw [q5 b e'];exact hd,rfl,fun _ _=>rfl⟩
    ·rcases hregs _ b j hm with hm | ⟨h1,h2,h3⟩
     ·exact hm
     ·simp only at h1 h2 h3
      subst h1
      exact hin j (by omega) h3
   ·cases h
 ·
  have hLl:=oky.len
  have hOl:=okx.len
  have hadd:(xs.length+ys.length) * tsz P e=xs.length * tsz P e+ys.length * tsz P e:=Nat.add_mul _ _ _
  have hbl:Below w.heap.size w (w.drew.alloc (.cells (old.toArray++L.toArray++rest) e)):=((Below.refl _ w).drew).alloc (Nat.le_refl _) _
  have hnew:(w.drew.alloc (.cells (old.toArray++L.toArray++rest) e)).heap[w.heap.size]? = some (.cells (old.toArray++L.toArray++rest) e (0,0)):=World.alloc_heap_new w.drew _
  have hnn:(nc - (xs.length+ys.length)) * tsz P e+(xs.length+ys.length) * tsz P e=nc * tsz P e:=by rw [← Nat.add_mul];congr 1;omega
  rw [hzs] at hrest
  have hsize:(old.toArray++L.toArray++rest).size=nc * tsz P e:=by simp;omega
  have hst:Stab w (Tot Mo (s.bx.map (fun x=>(x.1,x.2.strip i))) s.ow m) (w.drew.alloc (.cells (old.toArray++L.toArray++rest) e))
    (Tot Mo (s.bx.map (fun x=>(x.1,x.2.strip i))) (i::s.ow.filter (fun j=>j != i)) { m with ow:=fun j=>if j=i then (w.heap.size,(xs.length+ys.length) * tsz P e,nc * tsz P e) else m.ow j }):=by
   intro b j x hcell hm
   rw [htot] at hm
   have hb:=World.block_lt_of_cell? w _ hcell
   simp only at hb
   refine ⟨(stab_below (fun _ _=>False) hbl b j x hcell (fun h=>h)).1,fun ht=>?_⟩
   rcases ht with ht | ht
   ·exact hm (.inl ht)
   ·rcases hregs _ b j ht with ht | ⟨h1,_,_⟩
    ·exact hm (.inr ht)
    ·simp only at h1;omega
  have hR3:=hR2.reown i (w.heap.size,(xs.length+ys.length) * tsz P e,nc * tsz P e) hno hvi (fun _ _ _ _ o' v _ _ hv=>by rw [hbl.cell (p:=⟨_,o',none⟩) (World.block_lt_of_cell? w _ hv)];exact hv) (.of_below hbl) (fun b x hx' _=>heap_below hbl hx') hbl.size
   (fun nm d hd=>by
    obtain ⟨d',hd'⟩:=look_map_inv hd
    obtain ⟨cs,T,hbx⟩:=hR.box nm d' hd'
    exact hbl.block _ hbx.heap.lt) hst (fun _=>by
    refine ⟨⟨_,e,hnew,by simp only;omega⟩,fun j hj hji hjn e'=>?_,fun nm d hd e'=>?_,fun o' ho=>?_⟩
    ·obtain ⟨c,T,h1,_⟩:=hR.oww j hj hjn
     have:=(Array.getElem?_eq_some_iff.1 h1).1
     simp only at e'; omega
    ·obtain ⟨d',hd'⟩:=look_map_inv hd
     obtain ⟨cs,T,hbx⟩:=hR.box nm d' hd'
     have:=hbx.heap.lt
     simp only at e'; omega
    ·have:=hR.mo _ _ ho
     simp only at this;omega)
  refine ⟨_,_,_,hrun,hR3,.own ?_ (fun x hx'=>?_) ?_,hstep0 _ _ (.of_below hbl) (fun b j hb hm=>?_) rfl rfl,rfl⟩
  ·have hrow:=row_append (w:=w.drew.alloc (.cells (old.toArray++L.toArray++rest) e)) (b:=w.heap.size) (off:=0) ((okx.stab (fun b j x hcell hm=>⟨hcell,fun ht=>hm ((htot b j).1 ht)⟩)).stab hst) ((oky.stab (fun b j x hcell hm=>⟨hcell,fun ht=>hm ((htot b j).1 ht)⟩)).stab hst) (fun q hq=>by
    refine ⟨?_,fun ht=>?_⟩
    ·rw [Nat.zero_add,cell_of_block hnew,Array.getElem?_append_left (by simpa using hq)]
     rw [List.getD_eq_getElem?_getD,List.getElem?_eq_getElem (by simpa using hq)]
     rw [show old.toArray++L.toArray=(old++L).toArray from by simp]
     simp only [List.getElem?_toArray,Option.getD_some]
     exact List.getElem?_eq_getElem (by simpa using hq)
    ·rcases ht with ht | ht
     ·have:=hR.mo _ _ ht;omega
     ·rcases hregs _ _ _ ht with ht | ⟨_,h2,_⟩
      ·have:=tot_lt hR (.inr ht);omega
      ·simp only at h2;omega)
   have:=hrow.repD (ad:=some ⟨w.heap.size,0,none⟩) (cap:=nc) (by simp;omega) (by simp;omega) (fun _=>rfl)
   rw [List.length_append] at this;exact this
  ·rcases List.mem_append.1 hx' with h | h
   ·exact hxr _ h
   ·exact hyr _ h
  ·exact .inr ⟨rfl,hnc,by simp,_,e,hnew,by simp only [Nat.zero_add];omega⟩
  ·rcases hregs _ b j hm with hm | ⟨h1,_,_⟩
   ·exact hm
   ·simp only at h1;omega
end Go.Ab
namespace Go.Ab
open Go Go.RowKit
variable {P:Program} {w w' : World} {m:Mp} {Mo:Cells} {s:Sa} {as:List Act}
theorem Rel.addVec (h:Rel Mo m s as w) (n:Name) (hd:Option Addr×Nat×Nat) (sz:Nat) (xs:List D) (hno:AllV (fun v=>n ∉ v.vns) s) (hvi:lookN n s.vc=none) (hn:n∈s.ow)
  (hv:VecOK w (Tot Mo s.bx s.ow m) { m with vl:=fun j=>if j=n then hd else m.vl j } n sz xs) :
  Rel Mo { m with vl:=fun j=>if j=n then hd else m.vl j } { s with vc:=(n,(sz,xs))::s.vc } as w:=by
 have hst:Stab w (Tot Mo s.bx s.ow m) w (Tot Mo s.bx s.ow { m with vl:=fun j=>if j=n then hd else m.vl j }):=fun b o c hc hm=>⟨hc,hm⟩
 have hall:∀ x:V,(∀ n∈x.bxs,m.bx n=m.bx n)∧(∀ i∈x.ows,∀ sz y,Spare w m i sz y→Spare w { m with vl:=fun j=>if j=n then hd else m.vl j } i sz y)∧(∀ l∈x.lps,m.lp l=m.lp l):=fun x =>
  ⟨fun _ _=>rfl,fun i _ sz y hs=>spare_heap hs rfl (fun _ _ h=>h),fun _ _=>rfl⟩
 have hvl:∀ v:V,n ∉ v.vns→∀ k∈v.vns,(if k=n then hd else m.vl k)=m.vl k:=fun v hv k hk=>by
  grind
 refine h.remap (s':={ s with vc:=(n,(sz,xs))::s.vc }) rfl rfl rfl rfl rfl hst ⟨fun t=>hall _,fun g hg t=>hall _,fun n d hd=>hall _⟩ (Nat.le_refl _) (fun _ _ h _=>h) (fun _ _ _=>rfl) ?_ h.inj h.oww h.owx h.owb h.owm ?_
  ⟨fun t=>hvl _ (hno.ts t),fun f hf t=>hvl _ (hno.sv f hf t),fun k c hk=>hvl _ (hno.bx k c hk)⟩
 ·intro k c hk
  obtain ⟨cs,T,hb⟩:=h.box k c hk
  refine ⟨cs,T,hb.heap,hb.size,hb.leafs,fun i hi=>(hb.rep i hi).mono hst (fun _ _=>rfl) (fun i _ sz y hs=>spare_heap hs rfl (fun _ _ h=>h)) (fun _ _=>rfl) (fun q hq=>hvl _ (hno.bx k c hk) q (vns_cells c i hi q hq))⟩
 ·intro k c hk
  simp only [lookN] at hk
  split at hk
  ·rename_i e;subst e;cases hk;exact ⟨hn,hv⟩
  ·rename_i e
   exact ⟨(h.vec k c hk).1,(h.vec k c hk).2.mono hst (by grind) rfl (fun _ _ _ _ _ hv=>hv) (fun b c T hc=>⟨c,hc,rfl⟩)⟩
theorem Sa.strip_vns (s:Sa) (i:Name):AllV (fun v=>i ∉ v.vns) (s.strip i):=by
 refine ⟨fun t=>?_,fun f hf t=>?_,fun n c hn=>?_⟩
 ·simp only [Sa.strip]
  rw [look_mapT _ (by rfl)]
  exact fun hx=>(V.vns_strip i _ i hx).2 rfl
 ·simp only [Sa.strip,List.mem_map] at hf
  obtain ⟨f',_,rfl⟩:=hf
  rw [look_mapT _ (by rfl)]
  exact fun hx=>(V.vns_strip i _ i hx).2 rfl
 ·simp only [Sa.strip] at hn
  rw [lookN_map] at hn
  cases hc:lookN n s.bx with
  | none=>grind
  | some c'=>simp [hc] at hn;subst hn;exact fun hx=>(V.vns_strip i _ i hx).2 rfl
def Sa.vturn (s:Sa) (n:Name) (sz:Nat) (xs:List D):Sa:={ s.strip n with ow:=n::(s.strip n).ow,vc:=(n,(sz,xs))::(s.strip n).vc }
def Mp.vturn (m:Mp) (n:Name) (reg:Nat×Nat×Nat) (hd:Option Addr×Nat×Nat):Mp:={ m with ow:=fun j=>if j=n then reg else m.ow j,vl:=fun j=>if j=n then hd else m.vl j }
theorem Rel.vecTurn (h:Rel Mo m s as w) (n:Name) (old reg:Nat×Nat×Nat) (hd:Option Addr×Nat×Nat) (sz:Nat) (xs:List D)
  (hold:nonempty old→n∈s.ow∧m.ow n=old)
  (k1:w'.os=w.os∧w'.tape=w.tape∧w'.output=w.output∧w.heap.size≤w'.heap.size)
  (k2:∀ b,b<w.heap.size→(nonempty old→b≠old.1)→w'.heap[b]? = w.heap[b]?)
  (k3:nonempty old→∀ c T,w.heap[old.1]? = some (.cells c T (0,0))→∃ c',w'.heap[old.1]? = some (.cells c' T (0,0))∧c'.size=c.size∧∀ o,(o<old.2.1∨old.2.2≤o)→c'[o]? = c[o]?)
  (hreg:nonempty reg→reg=old∨w.heap.size≤reg.1)
  (hhd:HdOK w' hd reg sz)
  (hlen:hd.2.1=xs.length) (hcap:xs.length≤hd.2.2) (hcm:hd.2.2≤9223372036854775807) (hmx:xs.length≤9223372036854775807) (hsz:∀ x∈xs,x.cells.length=sz)
  (hcells:∀ j (hj:j<(flatD xs).length),∃ v,w'.cell? ⟨reg.1,reg.2.1+j,none⟩=some v∧leaf v=true∧RepD w (Tot Mo s.bx s.ow m) (flatD xs)[j] v) :
  Rel Mo (m.vturn n reg hd) (s.vturn n sz xs) as w' ∧ Step m s w (m.vturn n reg hd) (s.vturn n sz xs) w':=by
 obtain ⟨kos,ktape,kout,ksize⟩:=k1
 have oblk:nonempty old→∃ c T,w.heap[old.1]? = some (.cells c T (0,0))∧old.2.2≤c.size:=fun hne=>by
  obtain ⟨h1,h2⟩:=hold hne
  have:=h.oww n h1 (by grind)
  grind
 have rblk:nonempty reg→∃ c T,w'.heap[reg.1]? = some (.cells c T (0,0))∧reg.2.2≤c.size:=fun hne=>by
  rcases hhd with hhd | ⟨b,c,T,_,h2,h3,h4⟩
  ·grind [nonempty]
  grind
 have hmut0:∀ o,nonempty old→old.2.1≤o→o<old.2.2→Mut s.bx s.ow m old.1 o:=fun o hne h1 h2=>by
  obtain ⟨h3,h4⟩:=hold hne
  exact .inr ⟨n,h3,by grind,by grind,by grind⟩
 have blk:∀ (b:Nat) (c:Array Value) (T:TypeId) (f:Nat×Nat),w.heap[b]? = some (.cells c T f)→∃ c',w'.heap[b]? = some (.cells c' T f)∧c'.size=c.size∧∀ o,¬ Mut s.bx s.ow m b o→c'[o]? = c[o]?:=by
  grind [nonempty]
 have hsh:Shape w w':=fun b c T hb=>by
  grind
 have cellK:∀ b o x,w.cell? ⟨b,o,none⟩=some x→¬ Mut s.bx s.ow m b o→w'.cell? ⟨b,o,none⟩=some x:=by
  intro b o x hx hm
  have hlt:=World.block_lt_of_cell? w _ hx
  grind [cell_of_block,World.cell?_of_block]
 have hvi:lookN n (s.vc.filter fun x=>x.1 != n)=none:=by rw [lookN_filter (q:=fun j=>j != n)];simp
 have hR2:=h.dropOw n s.ow (fun _ h=>h) (s.vc.filter fun x=>x.1 != n) (fun k c hk=>by
  rw [lookN_filter (q:=fun j=>j != n)] at hk
  split at hk
  ·exact ⟨hk,(h.vec k c hk).1⟩
  grind)
 have hno:AllV (fun v=>n ∉ v.ows) { s with ts:=mapT (V.strip n) s.ts,sv:=s.sv.map (fun f=>{ f with ts:=mapT (V.strip n) f.ts }),bx:=s.bx.map (fun x=>(x.1,x.2.strip n)),ow:=s.ow,vc:=s.vc.filter fun x=>x.1 != n } :=
  ⟨(Sa.strip_all s n).ts,(Sa.strip_all s n).sv,(Sa.strip_all s n).bx⟩
 have htot:∀ b j,Tot Mo (s.bx.map (fun x=>(x.1,x.2.strip n))) s.ow m b j↔Tot Mo s.bx s.ow m b j:=fun b j=>or_congr Iff.rfl mut_map
 have hregs:∀ (b j:Nat),Mut (s.bx.map (fun x=>(x.1,x.2.strip n))) (n::s.ow.filter (fun j=>j != n)) { m with ow:=fun j=>if j=n then reg else m.ow j } b j →
   Mut s.bx s.ow m b j∨(reg.1=b∧reg.2.1≤j∧j<reg.2.2):=by
  intro b j hm
  rcases hm with ⟨nm,c,hn,e'⟩ | ⟨j',hj',h3⟩
  ·obtain ⟨c',hc'⟩:=look_map_inv hn
   exact .inl (.inl ⟨nm,c',hc',e'⟩)
  ·rcases List.mem_cons.1 hj' with e' | hj'
   ·grind
   ·have hj'' : j' ∈ s.ow∧j' ≠ n:=by grind
    simp only [hj''.2,if_false] at h3
    exact .inl (.inr ⟨j',hj''.1,h3⟩)
 have hregB:∀ b j,b<w.heap.size→reg.1=b→reg.2.1≤j→j<reg.2.2→Mut s.bx s.ow m b j:=by
  grind [nonempty]
 have hst:Stab w (Tot Mo (s.bx.map (fun x=>(x.1,x.2.strip n))) s.ow m) w' (Tot Mo (s.bx.map (fun x=>(x.1,x.2.strip n))) (n::s.ow.filter (fun j=>j != n)) { m with ow:=fun j=>if j=n then reg else m.ow j }):=by
  intro b j x hx hm
  rw [htot] at hm
  have hlt:=World.block_lt_of_cell? w _ hx
  simp only at hlt
  refine ⟨cellK b j x hx (fun h=>hm (.inr h)),fun ht=>?_⟩
  rcases ht with ht | ht
  ·exact hm (.inl ht)
  ·rcases hregs b j ht with ht | ⟨h1,h2,h3⟩
   ·exact hm (.inr ht)
   ·exact hm (.inr (hregB b j hlt h1 h2 h3))
 have hnin:∀ j,j∈s.ow→j≠n→nonempty (m.ow j)→nonempty old→(m.ow j).1≠old.1:=fun j hj hjn hne hno e=>by
  obtain ⟨h3,h4⟩:=hold hno
  exact hjn (h.owx j hj n h3 hne (by rw [h4];exact hno) (by rw [h4];exact e))
 have hR3:=hR2.reown n reg hno hvi (fun j hj hjn hne o v _ _ hv=>by
   have hlt:=World.block_lt_of_cell? w _ hv
   rw [World.cell?_of_block (w:=w) (a:=⟨_,o,none⟩) (k2 _ hlt (fun h1=>hnin j hj hjn hne h1))];exact hv) hsh
  (fun b o ho hno'=>by
   have hlt:=(Array.getElem?_eq_some_iff.1 ho).1
   rw [k2 b hlt (fun h1 h2=>by
    obtain ⟨c,T,h3,_⟩:=oblk h1
    rw [← h2,ho] at h3;cases h3;exact hno' _ _ _ rfl)];exact ho) ksize
  (fun nm c hc=>by
   obtain ⟨c',hc'⟩:=look_map_inv hc
   obtain ⟨cs,T,hb⟩:=h.box nm c' hc'
   exact k2 _ hb.heap.lt (fun h1 h2=>by
    obtain ⟨h3,h4⟩:=hold h1
    exact h.owb n h3 (by rw [h4];exact h1) nm c' hc' (by rw [h4];exact h2.symm))) hst
  (fun hne=>⟨rblk hne,fun j hj hjn hnj e=>by
   rcases hreg hne with e1 | h1
   ·exact hnin j hj hjn hnj (e1 ▸ hne) (by rw [← e1];exact e)
   ·obtain ⟨c,T,h2,_⟩:=h.oww j hj hnj
    have:=(Array.getElem?_eq_some_iff.1 h2).1
    omega,fun nm c hc e=>by
   obtain ⟨c',hc'⟩:=look_map_inv hc
   rcases hreg hne with e1 | h1
   ·obtain ⟨h3,h4⟩:=hold (e1 ▸ hne)
    exact h.owb n h3 (by rw [h4];exact e1 ▸ hne) nm c' hc' (by rw [h4,← e1];exact e)
   ·obtain ⟨cs,T,hb⟩:=h.box nm c' hc'
    have:=hb.heap.lt
    omega,fun o ho=>by
   rcases hreg hne with e1 | h1
   ·obtain ⟨h3,h4⟩:=hold (e1 ▸ hne)
    exact h.owm n h3 (by rw [h4];exact e1 ▸ hne) o (by rw [h4,← e1];exact ho)
   ·have:=h.mo _ _ ho
    omega⟩)
 have hno2:AllV (fun v=>n ∉ v.vns) { s with ts:=mapT (V.strip n) s.ts,sv:=s.sv.map (fun f=>{ f with ts:=mapT (V.strip n) f.ts }),bx:=s.bx.map (fun x=>(x.1,x.2.strip n)),ow:=n::s.ow.filter (fun j=>j != n),vc:=s.vc.filter fun x=>x.1 != n } :=
  ⟨(Sa.strip_vns s n).ts,(Sa.strip_vns s n).sv,(Sa.strip_vns s n).bx⟩
 have hR4:=hR3.addVec n hd sz xs hno2 hvi List.mem_cons_self ⟨by simp only [if_true];exact hhd,by simp only [if_true];exact hlen,by simp only [if_true];exact hcap,by simp only [if_true];exact hcm,hmx,hsz,fun j hj=>by
  obtain ⟨v,h1,h2,h3⟩:=hcells j hj
  refine ⟨v,by simp only [if_true];exact h1,h2,?_⟩
  have h4:RepD w (Tot Mo (s.bx.map (fun x=>(x.1,x.2.strip n))) s.ow m) (flatD xs)[j] v:=h3.mono (fun b o c hc hm=>⟨hc,fun ht=>hm ((htot b o).1 ht)⟩)
  exact (h4.mono hst).mono (fun b o c hc hm=>⟨hc,hm⟩)⟩
 refine ⟨hR4,⟨kos,ktape,kout,ksize,fun b hb hC _=>?_,fun b c T f hb _=>?_⟩,fun b o hb hm=>?_,fun b _ hl=>hl,rfl,by simp [Sa.vturn,Sa.strip,List.map_map,Function.comp_def],fun _ _=>⟨rfl,fun _ _=>rfl⟩⟩
 ·refine k2 b hb (fun hne e=>?_)
  subst e
  exact hC old.2.1 (hmut0 _ hne (Nat.le_refl _) hne)
 ·exact blk b c T f hb
 ·rcases hregs b o hm with h1 | ⟨h1,h2,h3⟩
  ·exact h1
  ·exact hregB b o hb h1 h2 h3
end Go.Ab
