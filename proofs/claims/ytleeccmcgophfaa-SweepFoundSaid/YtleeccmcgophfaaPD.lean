import Derived.Test.YtleeccmcgophfaaPC
set_option linter.all false
namespace Go.Ab
open Go Go.RowKit
variable {P:Program} {w:World} {n:Nat} {Mo:Cells} {m:Mp} {s:Sa} {p:Name} {k:Sa→Prop}
def XV (P:Program) (g:FuncId) (args:List V) (s:Sa) (k:V→Sa→Prop):Prop:=∃ ds rs,eF V.toD args=some ds∧kQ P g ds rs∧k (je (rs.map .d)) s
theorem Ky {f:FuncId} {args:List V} {ds rs:List D} {k:V→Sa→Prop} (h:kQ P f ds rs) (hd:eF V.toD args=some ds) (hk:k (je (rs.map .d)) s):XV P f args s k:=⟨ds,rs,hd,h,hk⟩
def BG (P:Program):tu:={ call:=fun _ g args s k=>XV P g args s k,yld:=fun _ _ _ _ _=>False,code:=fun _ _ _ _=>False }
def calm:Op→Bool
 | .move _ | .assign _ | .pick _ _ _ | .load _ _ | .fieldAddr _ _ _ | .field _ _ _ | .index _ _ _ | .indexAddr _ _ _ | .binOp _ _ _ _ _ | .unOp _ _ _ | .convert _ _ _ | .build _ _ | .slice _ _ _ _ none | .extract _ _ | .nilCheck _=>true
 | .buildSlice _ l _=>l != 0
 | .call c=>match c.callee with | .builtin .len=>true | .builtin .max=>true | .builtin .min=>true | .value _=>true | _=>false
 | .makeFunc (.func _) f _=>f.isEmpty
 | .lookup _ _ _ _=>true
 | _=>false
theorem Vj {t:TypeId} {op:BinOp} {x y:Value} {k:V→Prop} (h:JV P t op x y k):∃ v,k v∧∀ k' : V→Prop,k' v→JV P t op x y k':=by
 unfold JV at h ⊢
 split at h
 ·cases op <;> simp only at h ⊢ <;> first
   | exact ⟨_,h.2,fun k' hk=>⟨h.1,hk⟩⟩
   | exact ⟨_,h.2.2,fun k' hk=>⟨h.1,h.2.1,hk⟩⟩
   | (simp only [cmpInt,arith] at h ⊢; exact ⟨_,h.2,fun k' hk=>⟨h.1,hk⟩⟩)
   | (simp only [cmpInt,arith] at h ⊢; exact h.2.elim)
 ·cases op <;> simp only at h ⊢ <;> first
   | exact ⟨_,h.2,fun k' hk=>⟨h.1,hk⟩⟩
   | exact h.2.elim
 ·cases op <;> simp only at h ⊢ <;> first
   | exact ⟨_,h,fun k' hk=>hk⟩
   | exact h.elim
 ·exact h.elim
theorem XW {op:UnOp} {x:Value} {k:V→Prop} (h:unV op x k):∃ v,k v∧∀ k' : V→Prop,k' v→unV op x k':=by
 unfold unV at h ⊢
 split at h
 ·exact ⟨_,h,fun k' hk=>hk⟩
 ·exact ⟨_,h,fun k' hk=>hk⟩
 ·exact h.elim
def V.notNil:V→Bool
 | .nil=>false
 | _=>true
def uf (s:Sa):Op→Bool
 | .binOp _ _ _ y _=>(s.get y).notNil
 | .assign x=>(s.get x).notNil
 | _=>true
def lW (s s' : Sa):Prop:=(∀ nm c,aj nm s.bx=some c→aj nm s'.bx=some c)∧∀ nm c,aj nm s.vc=some c→aj nm s'.vc=some c
theorem lW.of_eq {s s' : Sa} (h:s'.bx=s.bx) (h' : s'.vc=s.vc):lW s s':=⟨fun nm c hc=>by rw [h];exact hc,fun nm c hc=>by rw [h'];exact hc⟩
theorem eH {s:Sa} {i:Name} {sz:Option Nat} {v:V} (h:v.notNil=true):s.claim i sz v=(v,s):=by
 unfold Sa.claim
 split
 ·simp [V.notNil] at h
 ·rfl
theorem Kz {o:Oper} (hc:calm o.op=true) (hnil:uf s o.op=true) (h:aP P (BG P) p o s k):∃ v,k (s.put o.dst v) ∧
  ∀ s' : Sa,lW s s' → s'.n=s.n→(∀ x∈o.op.operands,s'.get x=s.get x)→∀ k' : Sa→Prop,k' (s'.put o.dst v)→aP P (BG P) p o s' k':=by
 cases hop:o.op with
 | move x =>
  simp only [aP,hop] at h ⊢
  exact ⟨_,h,fun s' hb hn hg k' hk=>by rw [hg x (by simp [Op.operands])];exact hk⟩
 | assign x =>
  simp only [uf,hop] at hnil
  simp only [aP,hop] at h ⊢
  rw [eH hnil] at h
  exact ⟨_,h,fun s' hb hn hg k' hk=>by
   have e:=hg x (by simp [Op.operands])
   rw [eH (by rw [e];exact hnil),e];exact hk⟩
 | pick c x y =>
  simp only [aP,hop] at h ⊢
  split at h
  ·rename_i t hct
   cases t with
   | true=>exact ⟨_,h.1 rfl,fun s' hb hn hg k' hk=>by
     rw [hg c (by simp [Op.operands]),hct,hg x (by simp [Op.operands])];exact ⟨fun _=>hk,fun e=>(by cases e)⟩⟩
   | false=>exact ⟨_,h.2 rfl,fun s' hb hn hg k' hk=>by
     rw [hg c (by simp [Op.operands]),hct,hg y (by simp [Op.operands])];exact ⟨fun e=>(by cases e),fun _=>hk⟩⟩
  ·exact h.elim
 | load t x =>
  simp only [aP,hop] at h ⊢
  split at h
  ·rename_i ag hag
   obtain ⟨h0,h⟩:=h
   split at h
   ·rename_i nm off hx
    split at h
    ·rename_i c hcb
     exact ⟨_,h.2,fun s' hb hn hg k' hk=>by simp only [hag,hg x (by simp [Op.operands]),hx,hb.1 _ _ hcb];exact ⟨h0,h.1,hk⟩⟩
    ·exact h.elim
   ·rename_i cs hx
    exact ⟨_,h.2,fun s' hb hn hg k' hk=>by simp only [hag,hg x (by simp [Op.operands]),hx];exact ⟨h0,h.1,hk⟩⟩
   ·rename_i nm off hx
    split at h
    ·rename_i c hcb
     exact ⟨_,h.2,fun s' hb hn hg k' hk=>by simp only [hag,hg x (by simp [Op.operands]),hx,hb.2 _ _ hcb];exact ⟨h0,h.1,hk⟩⟩
    ·exact h.elim
   ·exact h.elim
  ·exact h.elim
 | fieldAddr t x i =>
  simp only [aP,hop] at h ⊢
  split at h
  ·rename_i off ft hf
   obtain ⟨h0,h⟩:=h
   split at h
   ·rename_i nm o' hx
    exact ⟨_,h,fun s' hb hn hg k' hk=>by simp only [hf,hg x (by simp [Op.operands]),hx];exact ⟨h0,hk⟩⟩
   ·rename_i cs hx
    exact ⟨_,h,fun s' hb hn hg k' hk=>by simp only [hf,hg x (by simp [Op.operands]),hx];exact ⟨h0,hk⟩⟩
   ·rename_i nm o' hx
    exact ⟨_,h,fun s' hb hn hg k' hk=>by simp only [hf,hg x (by simp [Op.operands]),hx];exact ⟨h0,hk⟩⟩
   ·exact h.elim
  ·exact h.elim
 | field t x i =>
  simp only [aP,hop] at h ⊢
  split at h
  ·rename_i off ft hf
   split at h
   ·rename_i ag hag
    exact ⟨_,h.2.2.2,fun s' hb hn hg k' hk=>by simp only [hf,hag,hg x (by simp [Op.operands])];exact ⟨h.1,h.2.1,h.2.2.1,hk⟩⟩
   ·exact h.elim
  ·exact h.elim
 | index t x ix =>
  simp only [aP,hop] at h ⊢
  split at h
  ·rename_i i hi
   split at h
   ·rename_i nn e hne
    split at h
    ·rename_i ag hag
     exact ⟨_,h.2.2.2.2.2,fun s' hb hn hg k' hk=>by simp only [hg x (by simp [Op.operands]),hg ix (by simp [Op.operands]),hi,hne,hag];exact ⟨h.1,h.2.1,h.2.2.1,h.2.2.2.1,h.2.2.2.2.1,hk⟩⟩
    ·exact h.elim
   ·rename_i hne
    split at h
    ·rename_i b hu hx
     obtain ⟨h0,c,hc,h⟩:=h
     exact ⟨_,h,fun s' hb hn hg k' hk=>by simp only [hg x (by simp [Op.operands]),hg ix (by simp [Op.operands]),hi,hne,hu,hx];exact ⟨h0,c,hc,hk⟩⟩
    ·exact h.elim
  ·exact h.elim
 | indexAddr t x ix =>
  simp only [aP,hop] at h ⊢
  split at h
  ·rename_i i hi
   split at h
   ·rename_i e he
    split at h
    ·rename_i xs hxs
     obtain ⟨h1,h2,h3,h4⟩:=h
     have hlt:i.toNat<xs.length:=by omega
     obtain ⟨h5,h6⟩:=h4 _ (List.getElem?_eq_getElem hlt)
     refine ⟨_,h6,fun s' hb hn hg k' hk=>?_⟩
     simp only [hg x (by simp [Op.operands]),hg ix (by simp [Op.operands]),hi,he,hxs]
     refine ⟨h1,h2,h3,fun x hx=>?_⟩
     rw [List.getElem?_eq_getElem hlt] at hx
     cases hx
     exact ⟨h5,hk⟩
    ·rename_i hxs
     split at h
     ·rename_i nm hx
      split at h
      ·rename_i c hc'
       obtain ⟨h1,h2,h3,h4,h5⟩:=h
       refine ⟨_,h5,fun s' hb hn hg k' hk=>?_⟩
       simp only [hg x (by simp [Op.operands]),hg ix (by simp [Op.operands]),hi,he,hxs,hx,hb.2 _ _ hc']
       exact ⟨h1,h2,h3,h4,hk⟩
      ·exact h.elim
     ·exact h.elim
   ·rename_i he
    split at h
    ·rename_i nn e hne
     obtain ⟨h1,h2,h3,h4,h⟩:=h
     split at h
     ·rename_i b o' hx
      exact ⟨_,h,fun s' hb hn hg k' hk=>by simp only [hg x (by simp [Op.operands]),hg ix (by simp [Op.operands]),hi,he,hne,hx];exact ⟨h1,h2,h3,h4,hk⟩⟩
     ·rename_i cs hx
      exact ⟨_,h,fun s' hb hn hg k' hk=>by simp only [hg x (by simp [Op.operands]),hg ix (by simp [Op.operands]),hi,he,hne,hx];exact ⟨h1,h2,h3,h4,hk⟩⟩
     ·rename_i b o' hx
      exact ⟨_,h,fun s' hb hn hg k' hk=>by simp only [hg x (by simp [Op.operands]),hg ix (by simp [Op.operands]),hi,he,hne,hx];exact ⟨h1,h2,h3,h4,hk⟩⟩
     ·exact h.elim
    ·exact h.elim
  ·exact h.elim
 | binOp op t x y u =>
  simp only [aP,hop] at h ⊢
  split at h
  ·rename_i b hb
   split at h
   ·rename_i a ha
    obtain ⟨v,hv,hk⟩:=Vj h
    exact ⟨v,hv,fun s' hb' hn hg k' hk'=>by simp only [hg x (by simp [Op.operands]),hg y (by simp [Op.operands]),ha,hb];exact hk (fun v=>k' (s'.put o.dst v)) hk'⟩
   ·exact h.elim
  ·rename_i ys hys
   split at h
   ·rename_i xs hxs
    split at h
    ·rename_i ks hks
     split at h
     ·rename_i r hr
      split at h
      ·exact ⟨_,h,fun s' hb' hn hg k' hk'=>by simp only [hg x (by simp [Op.operands]),hg y (by simp [Op.operands]),hxs,hys,hks,hr];exact hk'⟩
      ·exact ⟨_,h,fun s' hb' hn hg k' hk'=>by simp only [hg x (by simp [Op.operands]),hg y (by simp [Op.operands]),hxs,hys,hks,hr];exact hk'⟩
      ·exact h.elim
     ·exact h.elim
    ·exact h.elim
   ·exact h.elim
  ·rename_i hy
   simp [hop,uf,hy,V.notNil] at hnil
  ·exact h.elim
 | unOp op t x =>
  simp only [aP,hop] at h ⊢
  split at h
  ·rename_i a ha
   obtain ⟨v,hv,hk⟩:=XW h
   exact ⟨v,hv,fun s' hb' hn hg k' hk'=>by simp only [hg x (by simp [Op.operands]),ha];exact hk (fun v=>k' (s'.put o.dst v)) hk'⟩
  ·exact h.elim
 | convert t u x =>
  simp only [aP,hop] at h ⊢
  split at h
  ·rename_i kd q c hu hx
   exact ⟨_,h.2,fun s' hb' hn hg k' hk'=>by simp only [hg x (by simp [Op.operands]),hu,hx];exact ⟨h.1,hk'⟩⟩
  ·exact h.elim
 | build t ps =>
  simp only [aP,hop] at h ⊢
  obtain ⟨h1,h2,h⟩:=h
  split at h
  ·rename_i cs hcs
   refine ⟨_,h,fun s' hb' hn hg k' hk'=>?_⟩
   have e:(ps.toList.map fun x=>(x.1,s'.get x.2))=ps.toList.map fun x=>(x.1,s.get x.2):=List.map_congr_left fun x hx=>by
    rw [hg x.2 (by simp only [Op.operands,List.mem_toArray,List.mem_map];exact ⟨x,hx,rfl⟩)]
   simp only [e,hcs]
   exact ⟨h1,h2,hk'⟩
  ·exact h.elim
 | buildSlice t l ps =>
  have hl:l≠0:=by simpa [calm,hop] using hc
  simp only [aP,hop] at h ⊢
  split at h
  ·rename_i e he
   obtain ⟨h1,h2,h3,h4,h⟩:=h
   split at h
   ·rename_i xs hxs
    rw [if_neg hl] at h
    refine ⟨_,h.2,fun s' hb' hn hg k' hk'=>?_⟩
    have e' : (ps.toList.map fun x=>s'.get x.2)=ps.toList.map fun x=>s.get x.2:=List.map_congr_left fun x hx=>by
     rw [hg x.2 (by simp only [Op.operands,List.mem_toArray,List.mem_map];exact ⟨x,hx,rfl⟩)]
    simp only [he,e',hxs,if_neg hl]
    exact ⟨h1,h2,h3,h4,h.1,hk'⟩
   ·exact h.elim
  ·exact h.elim
 | slice t x lo hi mx =>
  cases mx with
  | some y=>simp [calm,hop] at hc
  | none =>
   cases lo with
   | none =>
    cases hi with
    | none =>
     simp only [aP,hop] at h ⊢
     split at h
     ·rename_i e xs l he hxs hl
      exact ⟨_,h.2.2.2.2.2,fun s' hb' hn hg k' hk'=>by simp only [hg x (by simp [Op.operands]),he,hxs,hl];exact ⟨h.1,h.2.1,h.2.2.1,h.2.2.2.1,h.2.2.2.2.1,hk'⟩⟩
     ·exact h.elim
    | some hi =>
     simp only [aP,hop] at h ⊢
     split at h
     ·rename_i e xs l he hxs hl
      split at h
      ·rename_i hh hhi
       exact ⟨_,h.2.2.2.2.2,fun s' hb' hn hg k' hk'=>by simp only [hg x (by simp [Op.operands]),hg hi (by simp [Op.operands]),he,hxs,hl,hhi];exact ⟨h.1,h.2.1,h.2.2.1,h.2.2.2.1,h.2.2.2.2.1,hk'⟩⟩
      ·exact h.elim
     ·exact h.elim
   | some lo =>
    cases hi with
    | none =>
     simp only [aP,hop] at h ⊢
     split at h
     ·rename_i e xs l he hxs hl
      exact ⟨_,h.2.2.2.2.2,fun s' hb' hn hg k' hk'=>by simp only [hg x (by simp [Op.operands]),hg lo (by simp [Op.operands]),he,hxs,hl];exact ⟨h.1,h.2.1,h.2.2.1,h.2.2.2.1,h.2.2.2.2.1,hk'⟩⟩
     ·exact h.elim
    | some hi =>
     simp only [aP,hop] at h ⊢
     split at h
     ·rename_i e xs l he hxs hl
      split at h
      ·rename_i hh hhi
       exact ⟨_,h.2.2.2.2.2,fun s' hb' hn hg k' hk'=>by simp only [hg x (by simp [Op.operands]),hg lo (by simp [Op.operands]),hg hi (by simp [Op.operands]),he,hxs,hl,hhi];exact ⟨h.1,h.2.1,h.2.2.1,h.2.2.2.1,h.2.2.2.2.1,hk'⟩⟩
      ·exact h.elim
     ·exact h.elim
 | extract x i =>
  simp only [aP,hop] at h ⊢
  split at h
  ·rename_i vs hx
   split at h
   ·rename_i v hv
    exact ⟨_,h,fun s' hb' hn hg k' hk'=>by simp only [hg x (by simp [Op.operands]),hx,hv];exact hk'⟩
   ·exact h.elim
  ·exact h.elim
 | nilCheck x =>
  simp only [aP,hop] at h ⊢
  split at h
  ·rename_i nm off hx
   exact ⟨_,h,fun s' hb' hn hg k' hk'=>by simp only [hg x (by simp [Op.operands]),hx];exact hk'⟩
  ·rename_i cs hx
   exact ⟨_,h,fun s' hb' hn hg k' hk'=>by simp only [hg x (by simp [Op.operands]),hx];exact hk'⟩
  ·rename_i nm off hx
   exact ⟨_,h,fun s' hb' hn hg k' hk'=>by simp only [hg x (by simp [Op.operands]),hx];exact hk'⟩
  ·exact h.elim
 | makeFunc fn fi cp =>
  cases fn with
  | func f =>
   simp only [aP,hop] at h ⊢
   refine ⟨_,h.2,fun s' hb hn hg k' hk=>⟨h.1,?_⟩⟩
   have e' : (cp.toList.map fun x=>s'.get x)=cp.toList.map fun x=>s.get x:=List.map_congr_left fun x hx=>by
    rw [hg x (by simp only [Op.operands,Array.mem_append];exact .inr (by simpa using hx))]
   rw [show cp.toList.map s'.get=cp.toList.map s.get from e'];exact hk
  | _=>simp [calm,hop] at hc
 | lookup t x ix ok =>
  simp only [aP,hop] at h ⊢
  split at h
  ·rename_i kd et nm hk1 hk2 hx
   split at h
   ·rename_i kd' kvs hb0
    obtain ⟨e1,h⟩:=h
    split at h
    ·rename_i kd2 a hix
     exact ⟨_,h.2.2,fun s' hb hn hg k' hk=>by simp only [hk1,hk2,hg x (by simp [Op.operands]),hx,hb.1 _ _ hb0,hg ix (by simp [Op.operands]),hix];exact ⟨e1,h.1,h.2.1,hk⟩⟩
    ·exact h.elim
   ·exact h.elim
  ·exact h.elim
 | call c =>
  have eargs:∀ s' : Sa,(∀ z∈(Op.call c).operands,s'.get z=s.get z)→c.args.toList.map s'.get=c.args.toList.map s.get:=fun s' hg =>
   List.map_congr_left fun x hx=>hg x (by simp only [Op.operands,Call.operands];simp;exact .inr (by simpa using hx))
  cases hcc:c.callee with
  | value f =>
   simp only [aP,hop,hcc] at h ⊢
   have hf:∀ s' : Sa,(∀ z∈(Op.call c).operands,s'.get z=s.get z)→s'.get f=s.get f:=fun s' hg=>hg f (by simp only [Op.operands,Call.operands,hcc];simp)
   split at h
   ·rename_i g x y hg'
    obtain ⟨h1,ds,rs,h2,h3,h4,h5⟩:=h
    exact ⟨_,h5,fun s' hb' hn hg k' hk'=>by simp only [hf s' hg,hg',eargs s' hg];exact ⟨h1,ds,rs,h2,h3,fun d hd=>by rw [hn];exact h4 d hd,hk'⟩⟩
   ·rename_i g cap hg'
    obtain ⟨h1,ds,rs,h2,h3,h4,h5⟩:=h
    exact ⟨_,h5,fun s' hb' hn hg k' hk'=>by simp only [hf s' hg,hg',eargs s' hg];exact ⟨h1,ds,rs,h2,h3,fun d hd=>by rw [hn];exact h4 d hd,hk'⟩⟩
   ·exact h.elim
   ·exact h.elim
  | invoke r nm=>simp [aP,hop,hcc] at h
  | builtin b =>
   cases b with
   | len =>
    simp only [aP,hop,hcc] at h ⊢
    split at h
    ·rename_i x t ts ha ht
     split at h
     ·rename_i e xs he hxs
      exact ⟨_,h,fun s' hb' hn hg k' hk'=>by rw [eargs s' hg];simp only [ha,ht,he,hxs];exact hk'⟩
     ·rename_i hno
      split at h
      ·rename_i b hu
       have hno' : fP P t=none:=by unfold fP;rw [hu]
       refine ⟨_,h,fun s' hb' hn hg k' hk'=>?_⟩
       rw [eargs s' hg]
       simp only [ha,ht,hu,hno']
       exact hk'
      ·rename_i nn e z hu
       have hno' : fP P t=none:=by unfold fP;rw [hu]
       refine ⟨_,h.2,fun s' hb' hn hg k' hk'=>?_⟩
       rw [eargs s' hg]
       simp only [ha,ht,hu,hno']
       exact ⟨h.1,hk'⟩
      ·rename_i nm _ _
       split at h
       ·rename_i e c he hvc
        refine ⟨_,h,fun s' hb' hn hg k' hk'=>?_⟩
        rw [eargs s' hg]
        have hu:P.underlying t=some (.slice e):=dH he
        simp only [ha,ht,he,sliceOf,hu,hb'.2 _ _ hvc]
        exact hk'
       ·exact h.elim
      ·exact h.elim
    ·exact h.elim
   | max =>
    simp only [aP,hop,hcc] at h ⊢
    split at h
    ·rename_i q a q2 b ha
     exact ⟨_,h.2,fun s' hb' hn hg k' hk'=>by rw [eargs s' hg];simp only [ha];exact ⟨h.1,hk'⟩⟩
    ·exact h.elim
   | min =>
    simp only [aP,hop,hcc] at h ⊢
    split at h
    ·rename_i q a q2 b ha
     exact ⟨_,h.2,fun s' hb' hn hg k' hk'=>by rw [eargs s' hg];simp only [ha];exact ⟨h.1,hk'⟩⟩
    ·exact h.elim
   | _=>simp [calm,hop,hcc] at hc
 | _=>simp [calm,hop] at hc
end Go.Ab
namespace Go.Ab
open Go Go.RowKit
variable {P:Program} {a:Act} {w:World} {n:Nat} {Mo:Cells} {m:Mp} {s:Sa} {p:Name} {k:Sa→Prop} {Q:Exit→Act→World→Prop} {sv:List Act} {ops:Array Oper}
theorem KA {o:Oper} (h:aP P (BG P) p o s k):aP P (lN P) p o s k:=by
 cases hop:o.op with
 | call c =>
  cases hcc:c.callee with
  | value f =>
   simp only [aP,hop,hcc] at h ⊢
   split at h
   ·obtain ⟨h1,ds,rs,h2,h3,h4⟩:=h
    exact ⟨h1,pJ (p:=[]) h3 h2 h4⟩
   ·obtain ⟨h1,ds,rs,h2,h3,h4⟩:=h
    exact ⟨h1,pJ (p:=[]) h3 h2 h4⟩
   ·exact h.elim
   ·exact h.elim
  | invoke r nm=>simp [aP,hop,hcc] at h
  | builtin b =>
   cases b with
   | len=>simpa only [aP,hop,hcc] using h
   | append=>simpa only [aP,hop,hcc] using h
   | max=>simpa only [aP,hop,hcc] using h
   | min=>simpa only [aP,hop,hcc] using h
   | _=>simp [aP,hop,hcc] at h
 | makeFunc fn fi ca=>cases fn with
  | func f=>simpa only [aP,hop] using h
  | _=>simp [aP,hop] at h
 | makeMap t r=>cases r with
  | none=>simpa only [aP,hop] using h
  | some y=>simp [aP,hop] at h
 | slice t x lo hi mx=>cases mx with
  | none=>simpa only [aP,hop] using h
  | some y=>simp [aP,hop] at h
 | _=>first | (simpa only [aP,hop] using h) | (simp [aP,hop] at h;done)
theorem zQ {i:Nat} {o:Oper} {K:Act→World→Prop} (hi:ops[i]? = some o) (hR:Rel Mo m s (a::sv) w)
  (hN:∀ m' s' v w',k s' → Rel Mo m' s' (a.put o.dst v::sv) w' → Step m s w m' s' w' → bC m' s' = bC m s→K (a.put o.dst v) w')
  (h:bG P (lN P) p ops [o] s k):wpOpIn (Wd (bC m s)) n P ops Q i K a w:=by
 simp only [bG] at h
 obtain ⟨hd0,h⟩:=h
 have hd:∀ (n' : Nat),n' = s.n→∀ d,o.dst=some d→d<n':=fun n' e d hd=>by rw [hd] at hd0;rw [e];exact hd0
 unfold wpOpIn
 simp only [hi]
 have run:∀ (s1:Sa),Rel Mo m s1 (a::sv) w→s1.n=s.n→Step m s w m s1 w→bC m s1=bC m s→aP P (lN P) p o s1 k →
   o.wpIn (Wd (bC m s)) n P a w K Q:=by
  intro s1 hR1 hn1 hs1 hr1 h1
  rw [← hr1]
  exact zM hR1 (hd _ hn1) (fun m' s' v w' hk hR' hs' hr'=>hN m' s' v w' hk hR' (hs1.trans hs') (hr'.trans hr1)) h1
 have skip:∀ (s1:Sa),Rel Mo m s1 (a::sv) w→s1.n=s.n→Step m s w m s1 w→bC m s1=bC m s→k (s1.put o.dst (.tup [])) →
   (∀ f,o.about P w a.eval=some f→(Wd (bC m s)).fn f)∧K (a.put o.dst undef) w:=by
  intro s1 hR1 hn1 hs1 hr1 h1
  refine ⟨fun _ _=>trivial,?_⟩
  have hR2:=hR1.put (dst:=o.dst) (hd _ hn1) (DZ (w:=w) (M:=Tot Mo s1.bx s1.ow m) (m:=m))
  exact hN m _ undef w h1 hR2 (rJ hs1) (by rw [Bo];exact hr1)
 split at h
 ·rename_i hg
  have hw:Region.wanted o (yielded ops a.tmps)=true:=by simp [Region.wanted,hg]
  rw [if_pos hw]
  exact run s hR rfl (Step.refl _ _ _) rfl h
 ·rename_i j want hg
  split at h
  ·rename_i t hjt
   split at h
   ·rename_i b hb
    have hv:=hR.get t
    rw [hb] at hv
    have hy:=uQ hjt hv.val.1
    have hw:Region.wanted o (yielded ops a.tmps)=(some b==some want):=by simp [Region.wanted,hg,hy]
    have hRl:=hR.literal hb
    have hst:Step m s w m (s.put (some t) (.d (.v (.bool b)))) w:=rJ (Step.refl _ _ _)
    cases b with
    | true =>
     have h:=h.1 rfl
     cases want with
     | true=>rw [if_pos (by rw [hw];rfl)];exact run _ hRl (by rfl) hst (by rfl) h
     | false=>rw [if_neg (by rw [hw];simp)];exact skip _ hRl (by rfl) hst (by rfl) h
    | false =>
     have h:=h.2 rfl
     cases want with
     | true=>rw [if_neg (by rw [hw];simp)];exact skip _ hRl (by rfl) hst (by rfl) h
     | false=>rw [if_pos (by rw [hw];rfl)];exact run _ hRl (by rfl) hst (by rfl) h
   ·rename_i hb
    have hv:=hR.get t
    rw [hb] at hv
    obtain ⟨cs,e,hs,_⟩:=hv.Bl
    have hcs:cs = #[]:=by simpa using hs
    subst hcs
    have hy:=rU hjt e
    rw [if_neg (by simp [Region.wanted,hg,hy])]
    exact skip s hR rfl (Step.refl _ _ _) rfl h
   ·exact h.elim
  ·exact h.elim
theorem iG {i:Nat} {o:Oper} {K:Act→World→Prop} (hi:ops[i]? = some o) (hR:Rel Mo m s (a::sv) w)
  (hN:∀ m' s' a' w',k s' → Rel Mo m' s' (a' :: sv) w' → Step m s w m' s' w' → bC m' s' = bC m s→a'.defers=a.defers→K a' w')
  (h:bG P (lN P) p ops [o] s k):wpOpIn (Wd (bC m s)) n P ops Q i K a w :=
 zQ hi hR (fun m' s' v w' h1 h2 h3 h4=>hN m' s' _ w' h1 h2 h3 h4 put_defers) h
structure Like (s s' : Sa):Prop where
 rd:s.rd=s'.rd
 n:s.n=s'.n
 sv:s.sv=s'.sv
 bx:s.bx=s'.bx
 lp:s.lp=s'.lp
 ow:s.ow=s'.ow
 ts:∀ t,lkT t s.ts=lkT t s'.ts
 vc:s.vc=s'.vc
theorem Like.refl (s:Sa):Like s s:=⟨rfl,rfl,rfl,rfl,rfl,rfl,fun _=>rfl,rfl⟩
theorem Like.trans {s s' s'' : Sa} (h:Like s s') (h' : Like s' s''):Like s s'':=⟨h.rd.trans h'.rd,h.n.trans h'.n,h.sv.trans h'.sv,h.bx.trans h'.bx,h.lp.trans h'.lp,h.ow.trans h'.ow,fun t=>(h.ts t).trans (h'.ts t),h.vc.trans h'.vc⟩
theorem Like.symm {s s' : Sa} (h:Like s s'):Like s' s:=⟨h.rd.symm,h.n.symm,h.sv.symm,h.bx.symm,h.lp.symm,h.ow.symm,fun t=>(h.ts t).symm,h.vc.symm⟩
theorem bK (t u:Nat) (v:V) (l:List (Nat×V)):lkT t (qp u v l)=if u=t then v else lkT t l:=by
 induction l with
 | nil=>simp [qp,lkT]
 | cons x l ih =>
  obtain ⟨y,z⟩:=x
  simp only [qp]
  split
  ·rename_i e;subst e;simp only [lkT];split <;> rfl
  ·rename_i e
   simp only [lkT,ih]
   split
   ·rename_i e2;subst e2;rw [if_neg (by intro e3;exact e e3.symm)]
   ·rfl
theorem Like.put {s s' : Sa} (h:Like s s') (d:Option Tmp) (v:V):Like (s.put d v) (s'.put d v):=by
 cases d with
 | none=>exact h
 | some d=>exact ⟨h.rd,h.n,h.sv,h.bx,h.lp,h.ow,fun t=>by simp only [Sa.put,bK,h.ts t],h.vc⟩
theorem Like.literal {t:Nat} {v:V} (h:lkT t s.ts=v):Like (s.put (some t) v) s:=⟨rfl,rfl,rfl,rfl,rfl,rfl,fun u=>by
 simp only [Sa.put,bK];split
 ·rename_i e;subst e;exact h.symm
 ·rfl,rfl⟩
theorem Like.wk {s s' : Sa} (h:Like s s'):Wk s s':=Wk.of h.rd.symm h.n.symm h.lp.symm (fun t=>.inl (h.ts t).symm) h.sv.symm (fun nm c hc=>by rw [h.bx];exact hc) (fun i hi=>by rw [h.ow];exact hi) (fun n c hn=>⟨by rw [h.vc];exact hn,fun hi=>by rw [← h.ow];exact hi⟩)
end Go.Ab
namespace Go.Ab
open Go Go.RowKit
variable {P:Program} {a:Act} {w:World} {n:Nat} {Mo:Cells} {m:Mp} {s:Sa} {p:Name} {k:Sa→Prop} {Q:Exit→Act→World→Prop} {sv:List Act} {ops:Array Oper}
def aft (o:Oper):List Nat:=(o.after.toList.filter (fun e=>Region.binds .any e)).map (fun e=>e.on)
def Zk:Operand→Option Nat | .tmp t=>some t | _=>none
def gI (ops:Array Oper) (o:Oper):List Nat:=o.op.operands.toList.filterMap Zk++(match o.guard with | some (j,_)=>((ops[j]?).bind (·.dst)).toList | none=>[])
def aI (ops:Array Oper) (i:Nat):Option Nat:=(ops[i]?).bind (·.dst)
theorem bY {i:Nat} {o:Oper} (h:ops[i]? = some o):aI ops i=o.dst:=by simp [aI,h]
def y5 (P:Program) (p:Name) (ops:Array Oper):List Nat→Sa→(Sa→Prop)→Prop
 | [],s,k=>k s
 | i::rest,s,k=>match ops[i]? with
  | some o=>uf s o.op=true∧bG P (BG P) p ops [o] s fun s'=>y5 P p ops rest s' k
  | none=>False
theorem lW.like {s s1 s' : Sa} (h:lW s s') (hl:Like s1 s):lW s1 s':=⟨fun nm c hc=>h.1 nm c (by rw [← hl.bx];exact hc),fun nm c hc=>h.2 nm c (by rw [← hl.vc];exact hc)⟩
theorem lW.XY {s s1 s' : Sa} (h:lW s s') (hl:Like s1 s'):lW s s1:=⟨fun nm c hc=>by rw [hl.bx];exact h.1 nm c hc,fun nm c hc=>by rw [hl.vc];exact h.2 nm c hc⟩
def lX (P:Program) (p:Name) (ops:Array Oper) (i:Nat) (v:V) (s:Sa):Prop :=
 ∃ o,ops[i]? = some o∧∀ s' : Sa,lW s s' → s'.n=s.n→(∀ t∈gI ops o,lkT t s'.ts=lkT t s.ts) →
  ∀ k' : Sa→Prop,(∀ s1,Like s1 s' → k' (s1.put o.dst v))→bG P (lN P) p ops [o] s' k'
theorem lX.like {i:Nat} {v:V} {s s1:Sa} (h:lX P p ops i v s) (hl:Like s1 s):lX P p ops i v s1:=by
 obtain ⟨o,ho,h⟩:=h
 exact ⟨o,ho,fun s' hb hn ht k' hk=>h s' (hb.like hl.symm) (hn.trans hl.n) (fun t htm=>(ht t htm).trans (hl.ts t)) k' hk⟩
theorem rX {o:Oper} {s s' : Sa} (h:∀ t∈gI ops o,lkT t s'.ts=lkT t s.ts):∀ x∈o.op.operands,s'.get x=s.get x:=by
 intro x hx
 cases x with
 | tmp t=>exact h t (List.mem_append_left _ (List.mem_filterMap.2 ⟨.tmp t,by simpa using hx,rfl⟩))
 | const v=>rfl
 | global g=>rfl
 | func g=>rfl
theorem IQ {i:Nat} {o:Oper} (hi:ops[i]? = some o) (hc:calm o.op=true) (hn:uf s o.op=true) (h:bG P (BG P) p ops [o] s k) :
  ∃ v s1,Like s1 s∧k (s1.put o.dst v)∧lX P p ops i v s:=by
 simp only [bG] at h
 obtain ⟨hd,h⟩:=h
 have run:∀ s1:Sa,Like s1 s→uf s1 o.op=true→aP P (BG P) p o s1 k→∃ v,k (s1.put o.dst v)∧∀ s2:Sa,lW s s2→s2.n=s.n→(∀ t∈gI ops o,lkT t s2.ts=lkT t s.ts)→∀ k' : Sa→Prop,k' (s2.put o.dst v)→aP P (lN P) p o s2 k':=by
  intro s1 hl hn1 h1
  obtain ⟨v,hv,hh⟩:=Kz hc hn1 h1
  refine ⟨v,hv,fun s2 hb hnn ht k' hk'=>KA (hh s2 (hb.like hl) (hnn.trans hl.n.symm) (fun x hx=>?_) k' hk')⟩
  exact rX (ops:=ops) (fun t htm=>(ht t htm).trans (hl.ts t).symm) x hx
 have nil1:∀ s1:Sa,Like s1 s→uf s1 o.op=true:=by
  intro s1 hl
  have:∀ x,s1.get x=s.get x:=fun x=>by cases x <;> first | exact hl.ts _ | rfl
  cases hop:o.op <;> simp only [uf,hop] at hn ⊢ <;> (rw [this];exact hn)
 split at h
 ·rename_i hg
  obtain ⟨v,hv,hh⟩:=run s (Like.refl s) hn h
  refine ⟨v,s,Like.refl s,hv,o,hi,fun s' hb hnn ht k' hk'=>?_⟩
  simp only [bG,hg]
  exact ⟨by rw [hnn];exact hd,hh s' hb hnn ht k' (hk' s' (Like.refl s'))⟩
 ·rename_i j want hg
  split at h
  ·rename_i t hjt
   have htr:t∈gI ops o:=List.mem_append_right _ (by rw [hg];simp only [hjt];simp)
   split at h
   ·rename_i b hb
    cases b with
    | true =>
     have h:=h.1 rfl
     have hl:=Like.literal hb
     cases want with
     | true =>
      obtain ⟨v,hv,hh⟩:=run _ hl (nil1 _ hl) (by simpa using h)
      refine ⟨v,_,hl,hv,o,hi,fun s' hb' hnn ht k' hk'=>?_⟩
      have hb2:=(ht t htr).trans hb
      simp only [bG,hg,hjt,hb2]
      refine ⟨by rw [hnn];exact hd,⟨fun _=>?_,fun e=>(by cases e)⟩⟩
      have hl2:=Like.literal hb2
      simp only [if_true]
      exact hh _ (hb'.XY hl2) (hl2.n.trans hnn) (fun t' ht'=>(hl2.ts t').trans (ht t' ht')) k' (hk' _ hl2)
     | false =>
      refine ⟨.tup [],_,hl,by simpa using h,o,hi,fun s' hb' hnn ht k' hk'=>?_⟩
      have hb2:=(ht t htr).trans hb
      simp only [bG,hg,hjt,hb2]
      refine ⟨by rw [hnn];exact hd,⟨fun _=>?_,fun e=>(by cases e)⟩⟩
      simpa using hk' _ (Like.literal hb2)
    | false =>
     have h:=h.2 rfl
     have hl:=Like.literal hb
     cases want with
     | false =>
      obtain ⟨v,hv,hh⟩:=run _ hl (nil1 _ hl) (by simpa using h)
      refine ⟨v,_,hl,hv,o,hi,fun s' hb' hnn ht k' hk'=>?_⟩
      have hb2:=(ht t htr).trans hb
      simp only [bG,hg,hjt,hb2]
      refine ⟨by rw [hnn];exact hd,⟨fun e=>(by cases e),fun _=>?_⟩⟩
      have hl2:=Like.literal hb2
      simp only [Bool.false_eq_true,if_false]
      exact hh _ (hb'.XY hl2) (hl2.n.trans hnn) (fun t' ht'=>(hl2.ts t').trans (ht t' ht')) k' (hk' _ hl2)
     | true =>
      refine ⟨.tup [],_,hl,by simpa using h,o,hi,fun s' hb' hnn ht k' hk'=>?_⟩
      have hb2:=(ht t htr).trans hb
      simp only [bG,hg,hjt,hb2]
      refine ⟨by rw [hnn];exact hd,⟨fun e=>(by cases e),fun _=>?_⟩⟩
      simpa using hk' _ (Like.literal hb2)
   ·rename_i hb
    refine ⟨.tup [],s,Like.refl s,h,o,hi,fun s' hb' hnn ht k' hk'=>?_⟩
    have hb2:=(ht t htr).trans hb
    simp only [bG,hg,hjt,hb2]
    exact ⟨by rw [hnn];exact hd,hk' _ (Like.refl s')⟩
   ·exact h.elim
  ·exact h.elim
def ay (ops:Array Oper) (s:Sa) (l:List (Nat×V)):Sa:=l.foldl (fun s x=>s.put (aI ops x.1) x.2) s
theorem Like.ay {s s' : Sa} (h:Like s s') (l:List (Nat×V)):Like (ay ops s l) (ay ops s' l):=by
 induction l generalizing s s' with
 | nil=>exact h
 | cons x l ih=>exact ih (h.put _ _)
theorem iH (l l' : List (Nat×V)):ay ops s (l++l')=ay ops (ay ops s l) l':=by simp [ay]
theorem aC (l:List (Nat×V)):(ay ops s l).rd=s.rd∧(ay ops s l).n=s.n∧(ay ops s l).sv=s.sv∧(ay ops s l).bx=s.bx∧(ay ops s l).lp=s.lp∧(ay ops s l).ow=s.ow:=by
 induction l generalizing s with
 | nil=>exact ⟨rfl,rfl,rfl,rfl,rfl,rfl⟩
 | cons x l ih =>
  have:=ih (s:=s.put (aI ops x.1) x.2)
  have e:∀ d v,(s.put d v).rd=s.rd∧(s.put d v).n=s.n∧(s.put d v).sv=s.sv∧(s.put d v).bx=s.bx∧(s.put d v).lp=s.lp∧(s.put d v).ow=s.ow:=fun d v=>by cases d <;> exact ⟨rfl,rfl,rfl,rfl,rfl,rfl⟩
  obtain ⟨e1,e2,e3,e4,e5,e6⟩:=e (aI ops x.1) x.2
  exact ⟨this.1.trans e1,this.2.1.trans e2,this.2.2.1.trans e3,this.2.2.2.1.trans e4,this.2.2.2.2.1.trans e5,this.2.2.2.2.2.trans e6⟩
theorem bM:∀ (l:List (Nat×V)) {s:Sa},(ay ops s l).vc=s.vc
 | [],s=>rfl
 | x::l,s=>by
  have e:(s.put (aI ops x.1) x.2).vc=s.vc:=by cases aI ops x.1 <;> rfl
  exact (bM l (s:=s.put (aI ops x.1) x.2)).trans e
theorem iI {t:Nat} {l:List (Nat×V)} (h:∀ x∈l,aI ops x.1≠some t):lkT t (ay ops s l).ts=lkT t s.ts:=by
 induction l generalizing s with
 | nil=>rfl
 | cons x l ih =>
  have e:ay ops s (x::l)=ay ops (s.put (aI ops x.1) x.2) l:=rfl
  rw [e,ih (fun y hy=>h y (List.mem_cons_of_mem _ hy))]
  have hx:=h x List.mem_cons_self
  cases hd:aI ops x.1 with
  | none=>rfl
  | some d=>rw [hd] at hx;simp only [Sa.put,bK];rw [if_neg (fun e=>hx (by rw [e]))]
def Apart (ops:Array Oper) (l:List (Nat×V)):Prop:=∀ x∈l,∀ y∈l,∀ t,aI ops x.1=some t→aI ops y.1=some t→x=y
theorem gu {t:Nat} {l:List (Nat×V)} (ha:Apart ops l) {x:Nat×V} (hx:x∈l) (hd:aI ops x.1=some t):lkT t (ay ops s l).ts=x.2:=by
 induction l generalizing s with
 | nil=>cases hx
 | cons y l ih =>
  have e:ay ops s (y::l)=ay ops (s.put (aI ops y.1) y.2) l:=rfl
  rw [e]
  by_cases hxl:x∈l
  ·exact ih (fun a ha' b hb=>ha a (List.mem_cons_of_mem _ ha') b (List.mem_cons_of_mem _ hb)) hxl
  ·have hxy:x=y:=by
    rcases List.mem_cons.1 hx with h | h
    ·exact h
    ·exact absurd h hxl
   subst hxy
   rw [iI (fun z hz e=>hxl (by rw [ha x List.mem_cons_self z (List.mem_cons_of_mem _ hz) t hd e];exact hz)),hd]
   simp [Sa.put,bK]
end Go.Ab
namespace Go.Ab
open Go Go.RowKit
variable {P:Program} {a:Act} {w:World} {n:Nat} {Mo:Cells} {m:Mp} {s:Sa} {p:Name} {k:Sa→Prop} {Q:Exit→Act→World→Prop} {sv:List Act} {ops:Array Oper}
inductive Seg where
 | calm (l:List Nat)
 | bar (i:Nat)
 | fresh (l:List Nat) (i j:Nat)
 | make (l:List Nat) (j:Nat)
 | beside (l1 l2 js:List Nat)
def Seg.idx:Seg→List Nat
 | .calm l=>l
 | .bar i=>[i]
 | .fresh l i j=>l++[i,j]
 | .make l j=>l++[j]
 | .beside l1 l2 js=>l1++(l2++js)
def flat:List Seg→List Nat
 | []=>[]
 | x::rest=>x.idx++flat rest
def hide (H:List Name) (s:Sa):Sa:={ s with bx:=s.bx.filter fun x=>!H.contains x.1,vc:=s.vc.filter fun x=>!H.contains x.1 }
def Sa.made (s:Sa) (nm:Name) (sz:Nat) (xs:List D):Sa:={ s with ow:=nm::s.ow,vc:=(nm,(sz,xs))::s.vc }
def callOf (o:Oper):Option (Tmp×Operand×List Operand):=match o.dst,o.guard,o.op with
 | some t,none,.call c=>match c.callee with
  | .value fv=>some (t,fv,c.args.toList)
  | _=>none
 | _,_,_=>none
def rY (ops:Array Oper) (i:Nat) (f:List Nat→Bool):Bool:=match ops[i]? with | some o=>f (aft o) | none=>false
theorem jT {i:Nat} {f:List Nat→Bool} (h:rY ops i f=true):∃ o,ops[i]? = some o∧f (aft o)=true:=by
 unfold rY at h
 split at h
 ·rename_i o ho;exact ⟨o,ho,h⟩
 ·cases h
def dU (ops:Array Oper) (l:List Nat) (i:Nat):Bool:=match ops[i]? with
 | some o=>calm o.op&&(o.dst.isSome&&l.all fun j=>j==i || (aI ops j != o.dst&&((gI ops o).all (fun t=>aI ops j != some t) || (aft o).contains j)))
 | none=>false
def fA (ops:Array Oper):List Nat→List Nat→Bool
 | _,[]=>true
 | done,i::rest=>rY ops i (fun l=>l.all done.contains)&&(!done.contains i&&fA ops (i::done) rest)
def jH (ops:Array Oper) (i:Nat):List Nat:=match ops[i]? with | some o=>aft o | none=>[]
def need (ops:Array Oper):List Nat→List Nat→List Nat
 | [],S=>S
 | j::rest,S=>need ops rest (if S.contains j then jH ops j++S else S)
theorem BH {q:Nat→Prop}:∀ {l S:List Nat},(∀ j∈S,q j)→(∀ j∈l,q j→∀ x∈jH ops j,q x)→∀ j∈need ops l S,q j:=by
 intro l
 induction l with
 | nil=>intro S h _ j hj;exact h j hj
 | cons i l ih =>
  intro S h hc j hj
  simp only [need] at hj
  refine ih ?_ (fun a ha=>hc a (List.mem_cons_of_mem _ ha)) j hj
  intro x hx
  split at hx
  ·rename_i hi
   rcases List.mem_append.1 hx with hx | hx
   ·exact hc i List.mem_cons_self (h i (by simpa using hi)) x hx
   ·exact h x hx
  ·exact h x hx
def readsOf (ops:Array Oper) (i:Nat):List Nat:=match ops[i]? with | some o=>gI ops o | none=>[]
def lkD (d:Option Tmp) (s:Sa):V:=match d with | some t=>lkT t s.ts | none=>.dead
def KC (ds:List Tmp) (s sj:Sa):V→Prop
 | .d _=>True
 | .nil=>True
 | .ref _=>True
 | .ptr n _=>∃ t o o',t ∉ ds∧lkT t s.ts = .ptr n o∧lkT t sj.ts = .ptr n o'
 | _=>False
def Nu (ops:Array Oper) (done l1 l2:List Nat) (j:Nat):Bool:=match ops[j]? with
 | some oj=>decide ((∀ q∈aft oj,q∈done∨q∈l1)∧(∀ q∈l1,q∈need ops (l1++l2).reverse (aft oj))∧j ∉ done∧j ∉ l1++l2∧∀ q∈l2,aI ops q≠oj.dst∧(∀ d∈oj.dst.toList,d ∉ readsOf ops q)∧∀ d∈(aI ops q).toList,d ∉ readsOf ops q)
 | none=>false
def ZU (ops:Array Oper) (l2:List Nat) (d:Option Tmp) (hb s sj:Sa) (val:Nat→V):Prop :=
 lW hb sj∧sj.n=s.n∧(∀ q∈l2,∀ u∈readsOf ops q,(∀ y∈l2,aI ops y≠some u)→lkT u sj.ts=lkT u s.ts)∧∀ q∈l2,KC (d.toList++l2.filterMap (aI ops)) s sj (val q)
def Ei (P:Program) (p:Name) (ops:Array Oper) (l2:List Nat) (hb:Sa) (val:Nat→V):List Nat→Sa→(Sa→Prop)→Prop
 | [],s,k=>k s
 | j::js,s,k=>match ops[j]? with
  | some oj=>(∀ q∈l2,∀ d,aI ops q=some d→lkT d s.ts = .dead)∧bG P (lN P) p ops [oj] s fun sj=>ZU ops l2 oj.dst hb s sj val∧Ei P p ops l2 hb val js sj k
  | none=>False
def iJ (ops:Array Oper) (later:List Nat):List Nat→List Nat→List Nat→List Nat→Bool
 | [],dn,l1,l2=>l1.isEmpty&&(fA ops dn l2&&later.all fun q=>rY ops q fun al=>al.any later.contains || l2.all (need ops l2.reverse al).contains)
 | j::js,dn,l1,l2=>fA ops dn (l1++l2)&&(Nu ops dn l1 l2 j&&((js++later).all (fun q=>rY ops q fun al=>al.any (js++later).contains || (need ops (l1++l2).reverse al).contains j)&&iJ ops later js (j::(l1.reverse++dn)) [] l2))
theorem kR {later:List Nat}:∀ {js dn l1 l2:List Nat},iJ ops later js dn l1 l2=true→fA ops dn (l1++l2)=true
 | [],dn,l1,l2,h=>by
  simp only [iJ,Bool.and_eq_true,List.isEmpty_iff] at h
  rw [h.1];exact h.2.1
 | j::js,dn,l1,l2,h=>by
  simp only [iJ,Bool.and_eq_true] at h
  exact h.1
theorem Vk {dn l1 l2:List Nat} {j:Nat} (h:Nu ops dn l1 l2 j=true):j ∉ dn∧j ∉ l1++l2∧j<ops.size:=by
 unfold Nu at h
 split at h
 ·rename_i oj hj
  have h6:=of_decide_eq_true h
  exact ⟨h6.2.2.1,h6.2.2.2.1,(Array.getElem?_eq_some_iff.1 hj).1⟩
 ·cases h
theorem jf {later:List Nat}:∀ {js dn l1 l2:List Nat},iJ ops later js dn l1 l2=true→∀ q∈js,q ∉ dn∧q ∉ l1++l2∧q<ops.size
 | [],dn,l1,l2,h,q,hq=>by cases hq
 | j::js,dn,l1,l2,h,q,hq=>by
  simp only [iJ,Bool.and_eq_true] at h
  rcases List.mem_cons.1 hq with e | hq
  ·subst e;exact Vk h.2.1
  ·obtain ⟨h1,h2,h3⟩:=jf h.2.2.2 q hq
   simp only [List.mem_cons,List.mem_append,List.mem_reverse,not_or,List.nil_append] at h1 h2
   exact ⟨h1.2.2,by simp only [List.mem_append,not_or];exact ⟨h1.2.1,h2⟩,h3⟩
def gB (P:Program) (p:Name) (ops:Array Oper):List Seg→Sa→(Sa→Prop)→Prop
 | [],s,k=>k s
 | .calm l::rest,s,k=>y5 P p ops l s fun s'=>gB P p ops rest s' k
 | .bar i::rest,s,k=>match ops[i]? with
  | some o=>bG P (lN P) p ops [o] s fun s'=>gB P p ops rest s' k
  | none=>False
 | .fresh l i j::rest,s,k=>match ops[i]?,ops[j]? with
  | some oi,some oj=>match oi.dst,oi.op,oj.op with
   | some t,.alloc ty,.store _ _ x=>s.refs (t::p)=false∧(aY P ty).notNil=true∧y5 P p ops l s fun s1=>(s1.get x).notNil=true∧bG P (lN P) p ops [oi] s1 fun s2=>bG P (lN P) p ops [oj] s2 fun s3=>gB P p ops rest s3 k
   | _,_,_=>False
  | _,_=>False
 | .make l j::rest,s,k=>match (ops[j]?).bind callOf with
  | some (t,fv,as)=>s.strip (t::p)=s∧y5 P p ops l s fun s1=>s1.strip (t::p)=s1∧t<s1.n∧∃ g ds sz xs,s1.get fv = .d (.v (.func (.func g) #[] #[]))∧callable P g=true∧eF V.toD (as.map s1.get)=some ds∧zO P g ds sz xs ∧
    gB P p ops rest ((s1.made (t::p) sz xs).put (some t) (.vsl (t::p))) k
  | none=>False
 | .beside l1 l2 js::rest,s,k=>(∀ q∈l2,∀ d,aI ops q=some d→lkT d s.ts = .dead)∧y5 P p ops l1 s fun s1=>∃ H,y5 P p ops l2 (hide H s1) fun s2=>Ei P p ops l2 (hide H s1) (fun q=>lkD (aI ops q) s2) js s1 fun sj =>
   gB P p ops rest (ay ops sj (l2.map fun q=>(q,lkD (aI ops q) s2))) k
def Gs (ops:Array Oper) (done l:List Nat) (i j:Nat):Bool:=match ops[i]?,ops[j]? with
 | some oi,some oj=>match oi.dst,oi.op,oj.op with
  | some t,.alloc _,.store _ (.tmp t') (.tmp x)=>decide (t' = t∧x≠t∧oi.guard=none∧oj.guard=none∧oj.dst=none∧(∀ q∈aft oi,q∈done)∧(∀ q∈aft oj,q∈done∨q∈l∨q=i)∧i∈aft oj ∧
    (∀ q∈l,aI ops q≠some t∧t ∉ readsOf ops q∧(aI ops q=some x→q∈aft oj))∧i ∉ done∧j ∉ done∧i ∉ l∧j ∉ l∧i≠j)
  | _,_,_=>false
 | _,_=>false
def Nv (ops:Array Oper) (done l:List Nat) (j:Nat):Bool:=match ops[j]? with
 | some oj=>match callOf oj with
  | some (t,_,_)=>decide ((∀ q∈aft oj,q∈done∨q∈l)∧(∀ q∈l,aI ops q≠some t∧t ∉ readsOf ops q∧((∀ u∈readsOf ops j,aI ops q≠some u)∨q∈aft oj))∧j ∉ done∧j ∉ l)
  | none=>false
 | none=>false
theorem zS {done l:List Nat} {j:Nat} (h:Nv ops done l j=true):∃ oj t fv as,ops[j]? = some oj∧callOf oj=some (t,fv,as) ∧
  (∀ q∈aft oj,q∈done∨q∈l)∧(∀ q∈l,aI ops q≠some t∧t ∉ readsOf ops q∧((∀ u∈readsOf ops j,aI ops q≠some u)∨q∈aft oj))∧j ∉ done∧j ∉ l:=by
 unfold Nv at h
 split at h
 ·rename_i oj hj
  split at h
  ·rename_i t fv as hc
   exact ⟨oj,t,fv,as,hj,hc,of_decide_eq_true h⟩
  ·cases h
 ·cases h
theorem KD {o:Oper} {t:Tmp} {fv:Operand} {as:List Operand} (h:callOf o=some (t,fv,as)):o.dst=some t∧o.guard=none∧∃ c,o.op = .call c∧c.callee = .value fv∧c.args.toList=as:=by
 unfold callOf at h
 split at h
 ·rename_i t' c h1 h2 h3
  split at h
  ·rename_i fv' hcl
   cases h
   exact ⟨h1,h2,c,h3,hcl,rfl⟩
  ·cases h
 ·cases h
def gG (ops:Array Oper):List Nat→List Seg→Bool
 | done,[]=>(List.range ops.size).all done.contains&&done.length==ops.size
 | done,.calm l::rest=>l.all (dU ops l)&&(fA ops done l&&((flat rest).all (fun i=>rY ops i fun al=>al.any (flat rest).contains || l.all (need ops l.reverse al).contains)&&gG ops (l.reverse++done) rest))
 | done,.bar i::rest=>fA ops done [i]&&((flat rest).all (fun j=>rY ops j fun al=>al.any (i::flat rest).contains)&&gG ops (i::done) rest)
 | done,.make l j::rest=>l.all (dU ops l)&&(fA ops done l&&(Nv ops done l j&&((flat rest).all (fun q=>rY ops q fun al=>al.any (flat rest).contains || (l++[j]).all (need ops (j::l.reverse) al).contains)&&gG ops (j::(l.reverse++done)) rest)))
 | done,.beside l1 l2 js::rest=>(l1++l2).all (dU ops (l1++l2))&&(!js.isEmpty&&(iJ ops (flat rest) js done l1 l2&&gG ops (js.reverse++((l1++l2).reverse++done)) rest))
 | done,.fresh l i j::rest=>l.all (dU ops l)&&(fA ops done l&&(Gs ops done l i j&&((flat rest).all (fun q=>rY ops q fun al=>al.any (flat rest).contains || (l++[i,j]).all al.contains)&&gG ops (j::i::(l.reverse++done)) rest)))
theorem bZ:∀ (pre:List Nat) {done post:List Nat} {i:Nat},fA ops done (pre++i::post)=true →
  (∃ o,ops[i]? = some o∧∀ j∈aft o,j∈done∨j∈pre)∧i ∉ done∧i ∉ pre:=by
 intro pre
 induction pre with
 | nil =>
  intro done post i h
  simp only [List.nil_append,fA,Bool.and_eq_true,Bool.not_eq_true',List.contains_eq_mem,decide_eq_false_iff_not] at h
  obtain ⟨o,ho,h1⟩:=jT h.1
  refine ⟨⟨o,ho,fun j hj=>.inl ?_⟩,h.2.1,by simp⟩
  simpa using List.all_eq_true.1 h1 j hj
 | cons x pre ih =>
  intro done post i h
  simp only [List.cons_append,fA,Bool.and_eq_true] at h
  obtain ⟨⟨o,ho,h1⟩,h2,h3⟩:=ih h.2.2
  refine ⟨⟨o,ho,fun j hj=>?_⟩,fun hc=>h2 (List.mem_cons_of_mem _ hc),?_⟩
  ·rcases h1 j hj with h | h
   ·rcases List.mem_cons.1 h with h | h
    ·exact .inr (by rw [h];exact List.mem_cons_self)
    ·exact .inl h
   ·exact .inr (List.mem_cons_of_mem _ h)
  ·intro hc
   rcases List.mem_cons.1 hc with h | h
   ·exact h2 (by rw [h];exact List.mem_cons_self)
   ·exact h3 h
theorem bF:∀ {l done:List Nat},fA ops done l=true→l.Nodup∧∀ i∈l,i ∉ done∧i<ops.size:=by
 intro l
 induction l with
 | nil=>intro done _;exact ⟨List.nodup_nil,by simp⟩
 | cons x l ih =>
  intro done h
  have h0:=h
  simp only [fA,Bool.and_eq_true,Bool.not_eq_true',List.contains_eq_mem,decide_eq_false_iff_not] at h
  obtain ⟨o,ho,_⟩:=jT h.1
  obtain ⟨h1,h2⟩:=ih h.2.2
  refine ⟨List.nodup_cons.2 ⟨fun hc=>(h2 x hc).1 List.mem_cons_self,h1⟩,fun i hi=>?_⟩
  rcases List.mem_cons.1 hi with e | e
  ·subst e;exact ⟨h.2.1,(Array.getElem?_eq_some_iff.1 ho).1⟩
  ·exact ⟨fun hc=>(h2 i e).1 (List.mem_cons_of_mem _ hc),(h2 i e).2⟩
theorem wP {done l:List Nat} {i j:Nat} (h:Gs ops done l i j=true):∃ oi oj t ty ty' x,ops[i]? = some oi∧ops[j]? = some oj∧oi.dst=some t∧oi.op = .alloc ty∧oj.op = .store ty' (.tmp t) (.tmp x)∧x≠t∧oi.guard=none∧oj.guard=none∧oj.dst=none ∧
  (∀ q∈aft oi,q∈done)∧(∀ q∈aft oj,q∈done∨q∈l∨q=i)∧i∈aft oj∧(∀ q∈l,aI ops q≠some t∧t ∉ readsOf ops q∧(aI ops q=some x→q∈aft oj))∧i ∉ done∧j ∉ done∧i ∉ l∧j ∉ l∧i≠j:=by
 unfold Gs at h
 split at h
 ·rename_i oi oj hi hj
  split at h
  ·rename_i t ty ty' t' x h1 h2 h3
   have h:=of_decide_eq_true h
   obtain ⟨rfl,h⟩:=h
   exact ⟨oi,oj,_,ty,ty',x,hi,hj,h1,h2,h3,h⟩
  ·cases h
 ·cases h
theorem cO:∀ {plan:List Seg} {done:List Nat},gG ops done plan=true→(∀ j∈flat plan,j ∉ done)∧(∀ j<ops.size,j∈done∨j∈flat plan)∧done.length+(flat plan).length=ops.size:=by
 intro plan
 induction plan with
 | nil =>
  intro done h
  simp only [gG,Bool.and_eq_true,beq_iff_eq] at h
  refine ⟨by simp [flat],fun j hj=>.inl ?_,by simpa [flat] using h.2⟩
  simpa using List.all_eq_true.1 h.1 j (List.mem_range.2 hj)
 | cons x rest ih =>
  intro done h
  cases x with
  | calm l =>
   simp only [gG,Bool.and_eq_true] at h
   obtain ⟨h1,h2,h3⟩:=ih h.2.2.2
   obtain ⟨h4,h5⟩:=bF h.2.1
   refine ⟨fun j hj=>?_,fun j hj=>?_,?_⟩
   ·simp only [flat,Seg.idx,List.mem_append] at hj
    rcases hj with hj | hj
    ·exact (h5 j hj).1
    ·exact fun hc=>h1 j hj (List.mem_append_right _ hc)
   ·simp only [flat,Seg.idx,List.mem_append]
    rcases h2 j hj with h | h
    ·simp only [List.mem_append,List.mem_reverse] at h
     rcases h with h | h
     ·exact .inr (.inl h)
     ·exact .inl h
    ·exact .inr (.inr h)
   ·simp only [flat,Seg.idx,List.length_append,List.length_reverse] at h3 ⊢; omega
  | bar i =>
   simp only [gG,Bool.and_eq_true] at h
   obtain ⟨h1,h2,h3⟩:=ih h.2.2
   obtain ⟨h4,h5⟩:=bF h.1
   refine ⟨fun j hj=>?_,fun j hj=>?_,?_⟩
   ·simp only [flat,Seg.idx,List.cons_append,List.nil_append,List.mem_cons] at hj
    rcases hj with hj | hj
    ·subst hj;exact (h5 j (by simp)).1
    ·exact fun hc=>h1 j hj (List.mem_cons_of_mem _ hc)
   ·simp only [flat,Seg.idx,List.cons_append,List.nil_append,List.mem_cons]
    rcases h2 j hj with h | h
    ·rcases List.mem_cons.1 h with h | h
     ·exact .inr (.inl h)
     ·exact .inl h
    ·exact .inr (.inr h)
   ·simp only [flat,Seg.idx,List.length_append,List.length_cons,List.length_nil] at h3 ⊢; omega
  | fresh l i j =>
   simp only [gG,Bool.and_eq_true] at h
   obtain ⟨h1,h2,h3⟩:=ih h.2.2.2.2
   obtain ⟨h4,h5⟩:=bF h.2.1
   obtain ⟨oi,oj,t,ty,ty',x,hi,hj,_,_,_,_,_,_,_,_,_,_,_,hid,hjd,hil,hjl,hij⟩:=wP h.2.2.1
   refine ⟨fun q hq=>?_,fun q hq=>?_,?_⟩
   ·simp only [flat,Seg.idx,List.mem_append,List.mem_cons,List.not_mem_nil,or_false] at hq
    rcases hq with (hq | hq | hq) | hq
    ·exact (h5 q hq).1
    ·subst hq;exact hid
    ·subst hq;exact hjd
    ·exact fun hc=>h1 q hq (by simp [hc])
   ·simp only [flat,Seg.idx,List.mem_append,List.mem_cons,List.not_mem_nil,or_false]
    rcases h2 q hq with h | h
    ·simp only [List.mem_cons,List.mem_append,List.mem_reverse] at h
     rcases h with h | h | h | h
     ·exact .inr (.inl (.inr (.inr h)))
     ·exact .inr (.inl (.inr (.inl h)))
     ·exact .inr (.inl (.inl h))
     ·exact .inl h
    ·exact .inr (.inr h)
   ·simp only [flat,Seg.idx,List.length_append,List.length_reverse,List.length_cons,List.length_nil] at h3 ⊢; omega
  | beside l1 l2 js =>
   simp only [gG,Bool.and_eq_true] at h
   obtain ⟨h1,h2,h3⟩:=ih h.2.2.2
   obtain ⟨h4,h5⟩:=bF (kR h.2.2.1)
   have hjd:=jf h.2.2.1
   refine ⟨fun q hq=>?_,fun q hq=>?_,?_⟩
   ·simp only [flat,Seg.idx,List.mem_append] at hq
    rcases hq with (hq | hq | hq) | hq
    ·exact (h5 q (List.mem_append_left _ hq)).1
    ·exact (h5 q (List.mem_append_right _ hq)).1
    ·exact (hjd q hq).1
    ·exact fun hc=>h1 q hq (by simp [hc])
   ·simp only [flat,Seg.idx,List.mem_append]
    rcases h2 q hq with h | h
    ·simp only [List.mem_append,List.mem_reverse] at h
     rcases h with h | (h | h) | h
     ·exact .inr (.inl (.inr (.inr h)))
     ·exact .inr (.inl (.inl h))
     ·exact .inr (.inl (.inr (.inl h)))
     ·exact .inl h
    ·exact .inr (.inr h)
   ·simp only [flat,Seg.idx,List.length_append,List.length_reverse] at h3 ⊢; omega
  | make l j =>
   simp only [gG,Bool.and_eq_true] at h
   obtain ⟨h1,h2,h3⟩:=ih h.2.2.2.2
   obtain ⟨h4,h5⟩:=bF h.2.1
   obtain ⟨oj,t,fv,as,hj,_,_,_,hjd,hjl⟩:=zS h.2.2.1
   refine ⟨fun q hq=>?_,fun q hq=>?_,?_⟩
   ·simp only [flat,Seg.idx,List.mem_append,List.mem_cons,List.not_mem_nil,or_false] at hq
    rcases hq with (hq | hq) | hq
    ·exact (h5 q hq).1
    ·subst hq;exact hjd
    ·exact fun hc=>h1 q hq (by simp [hc])
   ·simp only [flat,Seg.idx,List.mem_append,List.mem_cons,List.not_mem_nil,or_false]
    rcases h2 q hq with h | h
    ·simp only [List.mem_cons,List.mem_append,List.mem_reverse] at h
     rcases h with h | h | h
     ·exact .inr (.inl (.inr h))
     ·exact .inr (.inl (.inl h))
     ·exact .inl h
    ·exact .inr (.inr h)
   ·simp only [flat,Seg.idx,List.length_append,List.length_reverse,List.length_cons,List.length_nil] at h3 ⊢; omega
theorem og:∀ (l:List Nat) {s:Sa},(∀ i∈l,∃ o,ops[i]? = some o∧calm o.op=true)→y5 P p ops l s k →
  ∃ (ivs:List (Nat×V)) (s' : Sa),ivs.map Prod.fst=l∧Like s' (ay ops s ivs)∧k s' ∧ ∀ pre i v post,ivs=pre++(i,v)::post→lX P p ops i v (ay ops s pre):=by
 intro l
 induction l with
 | nil=>intro s _ h;exact ⟨[],s,rfl,Like.refl s,h,fun pre i v post e=>by simp at e⟩
 | cons i l ih =>
  intro s hc h
  obtain ⟨o,ho,hcalm⟩:=hc i List.mem_cons_self
  simp only [y5,ho] at h
  obtain ⟨v,s1,hl,hk,hf⟩:=IQ ho hcalm h.1 h.2
  obtain ⟨ivs,s',h1,h2,h3,h4⟩:=ih (fun j hj=>hc j (List.mem_cons_of_mem _ hj)) hk
  have e:∀ l',ay ops s ((i,v)::l')=ay ops (s.put o.dst v) l':=fun l'=>by show ay ops (s.put (aI ops i) v) l' = _;rw [bY ho]
  refine ⟨(i,v)::ivs,s',by simp [h1],?_,h3,fun pre j u post he=>?_⟩
  ·rw [e];exact h2.trans ((hl.put _ _).ay ivs)
  ·cases pre with
   | nil=>simp only [List.nil_append,List.cons.injEq,Prod.mk.injEq] at he;obtain ⟨⟨rfl,rfl⟩,_⟩:=he;exact hf
   | cons x pre =>
    simp only [List.cons_append,List.cons.injEq] at he
    obtain ⟨rfl,he⟩:=he
    rw [e]
    exact (h4 pre j u post he).like (((hl.put _ _).ay pre).symm)
end Go.Ab
namespace Go.Ab
open Go Go.RowKit
variable {P:Program} {a:Act} {w:World} {n:Nat} {Mo:Cells} {m:Mp} {s:Sa} {p:Name} {k:Sa→Prop} {Q:Exit→Act→World→Prop} {sv:List Act} {ops:Array Oper}
def Listed (ops:Array Oper) (listed:Array Bool) (D:Nat→Prop):Prop:=listed.size=ops.size∧∀ j<ops.size,(listed.getD j true=true↔D j)
theorem Listed.set {listed:Array Bool} {D:Nat→Prop} (h:Listed ops listed D) (i:Nat):Listed ops (listed.setIfInBounds i true) (fun j=>D j∨j=i):=by
 refine ⟨by simp [h.1],fun j hj=>?_⟩
 by_cases hij:i=j
 ·subst hij
  have:i<listed.size:=by rw [h.1];exact hj
  simp [this]
 ·rw [getD_set_ne true hij,h.2 j hj]
  constructor
  ·exact fun x=>.inl x
  ·rintro (x | x)
   ·exact x
   ·exact absurd x.symm hij
theorem Listed.false' {listed:Array Bool} {D:Nat→Prop} (h:Listed ops listed D) {j:Nat} (hj:j<ops.size):listed.getD j false=true↔D j:=by
 rw [← h.2 j hj]
 have:j<listed.size:=by rw [h.1];exact hj
 simp [this]
theorem Listed.congr {listed:Array Bool} {D D' : Nat→Prop} (h:Listed ops listed D) (e:∀ j,D j↔D' j):Listed ops listed D':=⟨h.1,fun j hj=>(h.2 j hj).trans (e j)⟩
theorem jw {listed:Array Bool} {D:Nat→Prop} (h:Listed ops listed D) {i:Nat} (hi:i∈Region.ready .any ops listed) :
  i<ops.size∧¬ D i∧∃ o,ops[i]? = some o∧∀ j∈aft o,listed.getD j false=true:=by
 obtain ⟨h1,o,ho,h2⟩:=mem_ready.1 hi
 have hlt:i<ops.size:=(Array.getElem?_eq_some_iff.1 ho).1
 refine ⟨hlt,fun hd=>?_,o,ho,fun j hj=>?_⟩
 ·rw [(h.2 i hlt).2 hd] at h1;cases h1
 ·simp only [aft,List.mem_map,List.mem_filter] at hj
  obtain ⟨e,⟨he,hb⟩,rfl⟩:=hj
  exact h2 e (by simpa using he) hb
theorem dR {listed:Array Bool} {D:Nat→Prop} (h:Listed ops listed D) {i:Nat} {o:Oper} (ho:ops[i]? = some o) (hd : ¬ D i) (ha:∀ j∈aft o,j<ops.size∧D j) :
  i∈Region.ready .any ops listed:=by
 have hlt:i<ops.size:=(Array.getElem?_eq_some_iff.1 ho).1
 refine mem_ready.2 ⟨?_,o,ho,fun e he hb=>?_⟩
 ·cases hx:listed.getD i true
  ·rfl
  ·exact absurd ((h.2 i hlt).1 hx) hd
 ·obtain ⟨h1,h2⟩:=ha e.on (by simp only [aft,List.mem_map,List.mem_filter];exact ⟨e,⟨by simpa using he,hb⟩,rfl⟩)
  exact (h.false' h1).2 h2
def kS (P:Program) (ops:Array Oper) (Q:Exit→Act→World→Prop) (n:Nat) (Mo:Cells) (m:Mp) (s:Sa) (ds:List Deferred) (sv:List Act) (w:World) (fuel:Nat) (D:Nat→Prop) (k:Sa→Prop):Prop :=
 ∀ m' s' a' w' listed,k s' → Rel Mo m' s' (a' :: sv) w' → Step m s w m' s' w' → bC m' s' = bC m s→a'.defers=ds→Listed ops listed D→wpAnyIn (Wd (bC m s)) n P .any ops Q fuel listed a' w'
theorem wQ {L ivs:List (Nat×V)} (ha:Apart ops ivs) (h:∀ x,x∈L↔x∈ivs):Like (ay ops s L) (ay ops s ivs):=by
 obtain ⟨a1,a2,a3,a4,a5,a6⟩:=aC (ops:=ops) (s:=s) L
 obtain ⟨b1,b2,b3,b4,b5,b6⟩:=aC (ops:=ops) (s:=s) ivs
 refine ⟨a1.trans b1.symm,a2.trans b2.symm,a3.trans b3.symm,a4.trans b4.symm,a5.trans b5.symm,a6.trans b6.symm,fun t=>?_,(bM L).trans (bM ivs).symm⟩
 have hL:Apart ops L:=fun x hx y hy=>ha x ((h x).1 hx) y ((h y).1 hy)
 by_cases hex:∃ x∈ivs,aI ops x.1=some t
 ·obtain ⟨x,hx,hd⟩:=hex
  rw [gu ha hx hd,gu hL ((h x).2 hx) hd]
 ·rw [iI (fun x hx hd=>hex ⟨x,(h x).1 hx,hd⟩),iI (fun x hx hd=>hex ⟨x,hx,hd⟩)]
theorem rZ {α:Type} (l:List α) (q:α→Prop) (h:∃ x∈l,q x):∃ pre x post,l=pre++x::post∧q x∧∀ y∈pre,¬ q y:=by
 induction l with
 | nil=>obtain ⟨x,hx,_⟩:=h;cases hx
 | cons a l ih =>
  by_cases ha:q a
  ·exact ⟨[],a,l,rfl,ha,by simp⟩
  ·obtain ⟨x,hx,hq⟩:=h
   rcases List.mem_cons.1 hx with e | e
   ·subst e;exact absurd hq ha
   ·obtain ⟨pre,x,post,e1,e2,e3⟩:=ih ⟨x,e,hq⟩
    refine ⟨a::pre,x,post,by rw [e1];rfl,e2,fun y hy=>?_⟩
    rcases List.mem_cons.1 hy with h | h
    ·subst h;exact ha
    ·exact e3 y h
theorem Ej {l done later:List Nat} {ivs:List (Nat×V)} (hl:ivs.map Prod.fst=l) (hcalm:∀ i∈l,dU ops l i=true) (hord:fA ops done l=true)
  (hlater:∀ i∈later,rY ops i (fun al=>al.any later.contains || l.all (need ops l.reverse al).contains)=true) (hfresh:∀ j∈later,j ∉ done∧j ∉ l) (hcov:∀ j<ops.size,j∈done∨j∈l∨j∈later)
  (hdone:∀ j∈done,j<ops.size)
  (hfact:∀ pre i v post,ivs=pre++(i,v)::post→lX P p ops i v (ay ops s pre)) {fuel:Nat} {ds:List Deferred}
  (hN:kS P ops Q n Mo m s ds sv w fuel (fun j=>j∈done∨j∈l) (fun s'=>Like s' (ay ops s ivs))) :
  ∀ (N:Nat) (L:List (Nat×V)) (todo:List Nat) (listed:Array Bool) (m' : Mp) (s' : Sa) (a' : Act) (w' : World),todo.length=N→todo.Nodup→(∀ j∈todo,j∈l)→(∀ x∈L,x∈ivs∧x.1 ∉ todo)→(∀ x∈ivs,x.1 ∉ todo→x∈L) →
   Like s' (ay ops s L)→Rel Mo m' s' (a' :: sv) w' → Step m s w m' s' w' → bC m' s' = bC m s→a'.defers=ds→(∀ j∈l,j ∉ todo→∀ q∈jH ops j,q∈done∨(q∈l∧q ∉ todo))→Listed ops listed (fun j=>j∈done∨(j∈l∧j ∉ todo)) →
   wpAnyIn (Wd (bC m s)) n P .any ops Q (fuel+N) listed a' w':=by
 obtain ⟨hnd,hin⟩:=bF hord
 have hndf:(ivs.map Prod.fst).Nodup:=by rw [hl];exact hnd
 have fst_in:∀ x∈ivs,x.1∈l:=fun x hx=>by rw [← hl];exact List.mem_map.2 ⟨x,hx,rfl⟩
 have same:∀ x∈ivs,∀ y∈ivs,x.1=y.1→x=y:=by
  intro x hx y hy e
  obtain ⟨i,hi,rfl⟩:=List.getElem_of_mem hx
  obtain ⟨j,hj,rfl⟩:=List.getElem_of_mem hy
  have:=(List.getElem_inj (xs:=ivs.map Prod.fst) (h₀:=by simpa using hi) (h₁:=by simpa using hj) hndf).1 (by simpa using e)
  subst this;rfl
 have apart:Apart ops ivs:=by
  intro x hx y hy t h1 h2
  refine same x hx y hy ?_
  have hc:=hcalm x.1 (fst_in x hx)
  unfold dU at hc
  split at hc
  ·rename_i o ho
   simp only [Bool.and_eq_true] at hc
   have:=List.all_eq_true.1 hc.2.2 y.1 (fst_in y hy)
   simp only [Bool.or_eq_true,beq_iff_eq,Bool.and_eq_true,bne_iff_ne] at this
   rcases this with h | ⟨h,_⟩
   ·exact h.symm
   ·exact absurd (by rw [h2,← bY ho,h1]) h
  ·cases hc
 intro N
 induction N with
 | zero =>
  intro L todo listed m' s' a' w' hlen _ _ hL hL' hlike hR hst hrd hds _ hlisted
  have:todo=[]:=List.eq_nil_of_length_eq_zero hlen
  subst this
  refine hN m' s' a' w' listed ?_ hR hst hrd hds (hlisted.congr fun j=>by simp)
  exact hlike.trans (wQ apart fun x=>⟨fun hx=>(hL x hx).1,fun hx=>hL' x hx (by simp)⟩)
 | succ N ih =>
  intro L todo listed m' s' a' w' hlen htn htl hL hL' hlike hR hst hrd hds hclo hlisted
  have split_of:∀ i∈todo,∃ pre v post o,ivs=pre++(i,v)::post∧ops[i]? = some o∧(∀ j∈aft o,j∈done∨j∈pre.map Prod.fst)∧i ∉ done∧i ∉ pre.map Prod.fst:=by
   intro i hi
   have hil:=htl i hi
   rw [← hl] at hil
   obtain ⟨x,hx,rfl⟩:=List.mem_map.1 hil
   obtain ⟨pre,post,e⟩:=List.append_of_mem hx
   have hl2:l=pre.map Prod.fst++x.1::post.map Prod.fst:=by rw [← hl,e];simp
   rw [hl2] at hord
   obtain ⟨⟨o,ho,h1⟩,h2,h3⟩:=bZ _ hord
   exact ⟨pre,x.2,post,o,e,ho,h1,h2,h3⟩
  refine ⟨fun hr=>?_,fun i hi=>?_⟩
  ·exfalso
   have htne:∃ i,i∈todo:=by
    cases todo with
    | nil=>simp at hlen
    | cons i t=>exact ⟨i,List.mem_cons_self⟩
   obtain ⟨i0,hi0⟩:=htne
   obtain ⟨x0,hx0,e0⟩:=List.mem_map.1 (by rw [hl];exact htl i0 hi0:i0∈ivs.map Prod.fst)
   obtain ⟨pre,x,post,e1,e2,e3⟩:=rZ ivs (fun x=>x.1∈todo) ⟨x0,hx0,by rw [e0];exact hi0⟩
   have hl2:l=pre.map Prod.fst++x.1::post.map Prod.fst:=by rw [← hl,e1];simp
   have hord2:=hord
   rw [hl2] at hord2
   obtain ⟨⟨o,ho,h1⟩,h2,h3⟩:=bZ _ hord2
   have:x.1∈Region.ready .any ops listed:=dR hlisted ho (by rintro (h | h);exact h2 h;exact h.2 e2) (fun j hj=>by
    rcases h1 j hj with h | h
    ·exact ⟨hdone j h,.inl h⟩
    ·obtain ⟨y,hy,rfl⟩:=List.mem_map.1 h
     have hyi:y∈ivs:=by rw [e1];exact List.mem_append_left _ hy
     exact ⟨(hin _ (fst_in y hyi)).2,.inr ⟨fst_in y hyi,e3 y hy⟩⟩)
   rw [hr] at this;cases this
  ·obtain ⟨hlt,hnD,o,ho,haft⟩:=jw hlisted hi
   have hnd' : i ∉ done:=fun h=>hnD (.inl h)
   have hit:i∈todo:=by
    rcases hcov i hlt with h | h | h
    ·exact absurd h hnd'
    ·exact Classical.byContradiction fun hc=>hnD (.inr ⟨h,hc⟩)
    ·exfalso
     obtain ⟨o',ho',hb⟩:=jT (hlater i h)
     rw [ho] at ho'; cases ho'
     simp only [Bool.or_eq_true] at hb
     rcases hb with hb | hb
     ·obtain ⟨j,hj,hjl⟩:=List.any_eq_true.1 hb
      have hjl' : j∈later:=by simpa using hjl
      have h1:=haft j hj
      have hjs:j<ops.size:=by
       have:j<listed.size:=by
        rcases Nat.lt_or_ge j listed.size with h' | h'
        ·exact h'
        ·simp [Array.getElem?_eq_none h'] at h1
       rw [← hlisted.1];exact this
      rcases (hlisted.false' hjs).1 h1 with h2 | h2
      ·exact (hfresh j hjl').1 h2
      ·exact (hfresh j hjl').2 h2.1
     ·have htne:∃ i,i∈todo:=by
       cases todo with
       | nil=>simp at hlen
       | cons i t=>exact ⟨i,List.mem_cons_self⟩
      obtain ⟨j,hj⟩:=htne
      have hja:=List.all_eq_true.1 hb j (htl j hj)
      have hlt' : ∀ q,listed.getD q false=true→q<ops.size:=fun q h1=>by
       have:q<listed.size:=by
        rcases Nat.lt_or_ge q listed.size with h' | h'
        ·exact h'
        ·simp [Array.getElem?_eq_none h'] at h1
       rw [← hlisted.1];exact this
      have h1:=BH (ops:=ops) (q:=fun q=>q∈done∨(q∈l∧q ∉ todo)) (l:=l.reverse) (S:=aft o)
       (fun q hq=>(hlisted.false' (hlt' q (haft q hq))).1 (haft q hq))
       (fun q hq hqq x hx=>by
        have hql:q∈l:=by simpa using hq
        rcases hqq with hqq | hqq
        ·exact absurd hqq (hin q hql).1
        ·exact hclo q hql hqq.2 x hx) j (by simpa using hja)
      rcases h1 with h2 | h2
      ·exact (hin j (htl j hj)).1 h2
      ·exact h2.2 hj
   obtain ⟨pre,v,post,o',e1,ho',hpre,_,hipre⟩:=split_of i hit
   rw [ho] at ho'; cases ho'
   obtain ⟨o2,ho2,hf⟩:=hfact pre i v post e1
   rw [ho] at ho2;cases ho2
   have hivs:(i,v)∈ivs:=by rw [e1];simp
   have hcal:=hcalm i (htl i hit)
   unfold dU at hcal
   rw [ho] at hcal
   simp only [Bool.and_eq_true] at hcal
   have hpi:∀ y∈pre,y∈ivs:=fun y hy=>by rw [e1];exact List.mem_append_left _ hy
   have hreads:∀ t∈gI ops o,lkT t s'.ts=lkT t (ay ops s pre).ts:=by
    intro t ht
    rw [hlike.ts t]
    have hpap:Apart ops pre:=fun x hx y hy=>apart x (hpi x hx) y (hpi y hy)
    have hLap:Apart ops L:=fun x hx y hy=>apart x (hL x hx).1 y (hL y hy).1
    by_cases hex:∃ y∈ivs,aI ops y.1=some t∧y.1≠i
    ·obtain ⟨y,hy,hyd,hyi⟩:=hex
     have h2:=List.all_eq_true.1 hcal.2.2 y.1 (fst_in y hy)
     simp only [Bool.or_eq_true,beq_iff_eq,Bool.and_eq_true] at h2
     have hya:y.1∈aft o:=by
      rcases h2 with h2 | ⟨_,h2 | h2⟩
      ·exact absurd h2 hyi
      ·have:=List.all_eq_true.1 h2 t ht
       simp [hyd] at this
      ·simpa using h2
     have hyL:y∈L:=by
      refine hL' y hy fun hyt=>?_
      rcases (hlisted.false' (hin y.1 (fst_in y hy)).2).1 (haft y.1 hya) with h | h
      ·exact (hin y.1 (fst_in y hy)).1 h
      ·exact h.2 hyt
     have hyp:y∈pre:=by
      rcases hpre y.1 hya with h | h
      ·exact absurd h (hin y.1 (fst_in y hy)).1
      ·obtain ⟨z,hz,e⟩:=List.mem_map.1 h
       rw [← same z (hpi z hz) y hy e];exact hz
     rw [gu hLap hyL hyd,gu hpap hyp hyd]
    ·rw [iI (fun y hy hd=>?_),iI (fun y hy hd=>?_)]
     ·by_cases hyi:y.1=i
      ·exact hipre (List.mem_map.2 ⟨y,hy,hyi⟩)
      ·exact hex ⟨y,hpi y hy,hd,hyi⟩
     ·by_cases hyi:y.1=i
      ·exact (hL y hy).2 (by rw [hyi];exact hit)
      ·exact hex ⟨y,(hL y hy).1,hd,hyi⟩
   obtain ⟨b1,b2,b3,b4,b5,b6⟩:=aC (ops:=ops) (s:=s) pre
   obtain ⟨c1,c2,c3,c4,c5,c6⟩:=aC (ops:=ops) (s:=s) L
   have hev:=hf s' (.of_eq (hlike.bx.trans (c4.trans b4.symm)) (hlike.vc.trans ((bM L).trans (bM pre).symm))) (hlike.n.trans (c2.trans b2.symm)) hreads (fun s2=>∃ s1,Like s1 s' ∧ s2=s1.put o.dst v) (fun s1 h1=>⟨s1,h1,rfl⟩)
   rw [← hrd]
   refine iG ho hR ?_ hev
   rintro m2 s2 a2 w2 ⟨s1,hs1,rfl⟩ hR2 hst2 hrd2 hds2
   rw [hrd]
   refine ih (L++[(i,v)]) (todo.erase i) _ m2 _ a2 w2 (by rw [List.length_erase_of_mem hit];omega) (htn.erase i) (fun j hj=>htl j (List.mem_of_mem_erase hj)) ?_ ?_ ?_ hR2 (hst.trans hst2) (hrd2.trans hrd) (hds2.trans hds) ?_ ?_
   ·intro x hx
    rcases List.mem_append.1 hx with h | h
    ·exact ⟨(hL x h).1,fun hc=>(hL x h).2 (List.mem_of_mem_erase hc)⟩
    ·simp only [List.mem_singleton] at h;subst h
     exact ⟨hivs,fun hc=>by rw [htn.mem_erase_iff] at hc;exact hc.1 rfl⟩
   ·intro x hx hxt
    by_cases hxi:x.1=i
    ·exact List.mem_append_right _ (by rw [same x hx _ hivs hxi];simp)
    ·exact List.mem_append_left _ (hL' x hx fun hc=>hxt ((htn.mem_erase_iff).2 ⟨hxi,hc⟩))
   ·rw [iH]
    show Like _ ((ay ops s L).put (aI ops i) v)
    rw [bY ho]
    exact (hs1.trans hlike).put _ _
   ·intro j hj hjt q hq
    have hkeep:∀ q,(q∈done∨(q∈l∧q ∉ todo))→q∈done∨(q∈l∧q ∉ todo.erase i):=fun q h=>h.imp id fun h=>⟨h.1,fun hc=>h.2 (List.mem_of_mem_erase hc)⟩
    by_cases hji:j=i
    ·subst hji
     have hq' : q∈aft o:=by simpa [jH,ho] using hq
     refine hkeep q ((hlisted.false' ?_).1 (haft q hq'))
     have h1:=haft q hq'
     have:q<listed.size:=by
      rcases Nat.lt_or_ge q listed.size with h' | h'
      ·exact h'
      ·simp [Array.getElem?_eq_none h'] at h1
     rw [← hlisted.1];exact this
    ·exact hkeep q (hclo j hj (fun hc=>hjt ((htn.mem_erase_iff).2 ⟨hji,hc⟩)) q hq)
   ·refine (hlisted.set i).congr fun j=>?_
    constructor
    ·rintro ((h | h) | h)
     ·exact .inl h
     ·exact .inr ⟨h.1,fun hc=>h.2 (List.mem_of_mem_erase hc)⟩
     ·subst h;exact .inr ⟨htl j hit,fun hc=>by rw [htn.mem_erase_iff] at hc;exact hc.1 rfl⟩
    ·rintro (h | h)
     ·exact .inl (.inl h)
     ·by_cases hji:j=i
      ·exact .inr hji
      ·exact .inl (.inr ⟨h.1,fun hc=>h.2 ((htn.mem_erase_iff).2 ⟨hji,hc⟩)⟩)
theorem Rl {q:V→Bool} {t:Nat} {v:V}:∀ {l:List (Nat×V)},(l.any fun x=>q x.2)=false→q v=false→((qp t v l).any fun x=>q x.2)=false:=by
 intro l
 induction l with
 | nil=>intro _ hv;simp [qp,hv]
 | cons y l ih =>
  obtain ⟨a,b⟩:=y
  intro h hv
  simp only [List.any_cons,Bool.or_eq_false_iff] at h
  simp only [qp]
  split
  ·simp only [List.any_cons,Bool.or_eq_false_iff];exact ⟨hv,h.2⟩
  ·simp only [List.any_cons,Bool.or_eq_false_iff];exact ⟨h.1,ih h.2 hv⟩
theorem Rn {f:Name} {d:Option Tmp} {v:V} (h:s.refs f=false) (hv:v.refs f=false):(s.put d v).refs f=false:=by
 cases d with
 | none=>exact h
 | some d =>
  simp only [Sa.refs,Bool.or_eq_false_iff] at h ⊢
  exact ⟨⟨Rl h.1.1 hv,h.1.2⟩,h.2⟩
theorem Gt {f:Name}:∀ {L:List (Nat×V)} {s:Sa},s.refs f=false→(∀ x∈L,x.2.refs f=false)→(ay ops s L).refs f=false:=by
 intro L
 induction L with
 | nil=>intro s h _;exact h
 | cons x L ih=>intro s h hL;exact ih (Rn h (hL x List.mem_cons_self)) (fun y hy=>hL y (List.mem_cons_of_mem _ hy))
def stP (ops:Array Oper) (s:Sa) (t:Nat) (f:Name) (z c:V) (ph:Nat) (L:List (Nat×V)):Sa :=
 match ph with
 | 0=>ay ops s L
 | 1=>{ (ay ops s L) with bx:=(f,z)::s.bx,ts:=qp t (.ptr f 0) (ay ops s L).ts }
 | _=>{ (ay ops s L) with bx:=(f,c)::s.bx,ts:=qp t (.ptr f 0) (ay ops s L).ts }
theorem Uk {t:Nat} {f:Name} {z c:V} {ph:Nat} {L:List (Nat×V)} {u:Nat} (hu:u≠t):lkT u (stP ops s t f z c ph L).ts=lkT u (ay ops s L).ts:=by
 match ph with
 | 0=>rfl
 | 1=>simp only [stP,bK,if_neg (Ne.symm hu)]
 | n+2=>simp only [stP,bK,if_neg (Ne.symm hu)]
theorem Vl {t:Nat} {f:Name} {z c:V} {ph:Nat} {L:List (Nat×V)} {q:Nat} {v:V} (hq:aI ops q≠some t):Like ((stP ops s t f z c ph L).put (aI ops q) v) (stP ops s t f z c ph (L++[(q,v)])):=by
 have e:ay ops s (L++[(q,v)])=(ay ops s L).put (aI ops q) v:=by rw [iH];rfl
 have eb:=(aC (ops:=ops) (s:=s) L).2.2.2.1
 cases hd:aI ops q with
 | none =>
  rw [hd] at e
  have e' : ay ops s (L++[(q,v)])=ay ops s L:=e
  match ph with
  | 0=>simp only [stP,e'];exact Like.refl _
  | 1=>simp only [stP,e'];exact Like.refl _
  | n+2=>simp only [stP,e'];exact Like.refl _
 | some d =>
  rw [hd] at e hq
  have hdt:d≠t:=fun h=>hq (by rw [h])
  match ph with
  | 0=>simp only [stP,e];exact Like.refl _
  | 1 =>
   simp only [stP,e]
   refine ⟨rfl,rfl,rfl,rfl,rfl,rfl,fun u=>?_,rfl⟩
   simp only [Sa.put,bK]
   split <;> split <;> simp_all
  | n+2 =>
   simp only [stP,e]
   refine ⟨rfl,rfl,rfl,rfl,rfl,rfl,fun u=>?_,rfl⟩
   simp only [Sa.put,bK]
   split <;> split <;> simp_all
theorem Gu {l done later:List Nat} {ivs:List (Nat×V)} {i j t x:Nat} {ty ty' : TypeId} {oi oj:Oper} {s1:Sa} {KK:Sa→Prop} (hl:ivs.map Prod.fst=l) (hcalm:∀ i∈l,dU ops l i=true) (hord:fA ops done l=true)
  (hi:ops[i]? = some oi) (hj:ops[j]? = some oj) (hid:oi.dst=some t) (hio:oi.op = .alloc ty) (hjo:oj.op = .store ty' (.tmp t) (.tmp x)) (hxt:x≠t) (hig:oi.guard=none) (hjg:oj.guard=none) (hjd:oj.dst=none)
  (hia:∀ q∈aft oi,q∈done) (hja:∀ q∈aft oj,q∈done∨q∈l∨q=i) (hij:i∈aft oj) (hls:∀ q∈l,aI ops q≠some t∧t ∉ readsOf ops q∧(aI ops q=some x→q∈aft oj)) (hi1:i ∉ done) (hj1:j ∉ done) (hi2:i ∉ l) (hj2:j ∉ l) (hne:i≠j)
  (hlater:∀ q∈later,rY ops q (fun al=>al.any later.contains || (l++[i,j]).all al.contains)=true) (hfresh:∀ q∈later,q ∉ done∧q ∉ l∧q≠i∧q≠j) (hcov:∀ q<ops.size,q∈done∨q∈l∨q=i∨q=j∨q∈later)
  (hdone:∀ q∈done,q<ops.size)
  (hfact:∀ pre i v post,ivs=pre++(i,v)::post→lX P p ops i v (ay ops s pre)) (hs1:Like s1 (ay ops s ivs)) (href:s.refs (t::p)=false) (hz:(aY P ty).notNil=true) (hxn:(s1.get (.tmp x)).notNil=true)
  (hev:bG P (lN P) p ops [oi] s1 fun s2=>bG P (lN P) p ops [oj] s2 KK) {fuel:Nat} {ds:List Deferred}
  (hN:kS P ops Q n Mo m s ds sv w fuel (fun q=>q∈done∨q∈l∨q=i∨q=j) (fun s'=>∃ s3,Like s' s3∧KK s3)) :
  ∀ (N ph:Nat) (L:List (Nat×V)) (todo:List Nat) (listed:Array Bool) (m' : Mp) (s' : Sa) (a' : Act) (w' : World),ph≤2→N=todo.length+(2 - ph)→todo.Nodup→(∀ j∈todo,j∈l)→(∀ x∈L,x∈ivs∧x.1 ∉ todo)→(∀ x∈ivs,x.1 ∉ todo→x∈L) →
   Like s' (stP ops s t (t::p) (aY P ty) (bf 0 (s1.get (.tmp x)) (aY P ty)) ph L)→Rel Mo m' s' (a' :: sv) w' → Step m s w m' s' w' → bC m' s' = bC m s→a'.defers=ds →
   Listed ops listed (fun q=>q∈done∨(q∈l∧q ∉ todo)∨(q=i∧1≤ph)∨(q=j∧2≤ph)) →
   wpAnyIn (Wd (bC m s)) n P .any ops Q (fuel+N) listed a' w':=by
 obtain ⟨hnd,hin⟩:=bF hord
 have hndf:(ivs.map Prod.fst).Nodup:=by rw [hl];exact hnd
 have fst_in:∀ x∈ivs,x.1∈l:=fun x hx=>by rw [← hl];exact List.mem_map.2 ⟨x,hx,rfl⟩
 have same:∀ x∈ivs,∀ y∈ivs,x.1=y.1→x=y:=by
  intro x hx y hy e
  obtain ⟨i,hi,rfl⟩:=List.getElem_of_mem hx
  obtain ⟨j,hj,rfl⟩:=List.getElem_of_mem hy
  have:=(List.getElem_inj (xs:=ivs.map Prod.fst) (h₀:=by simpa using hi) (h₁:=by simpa using hj) hndf).1 (by simpa using e)
  subst this;rfl
 have calm_inv:∀ q∈l,∃ o,ops[q]? = some o∧o.dst.isSome=true∧∀ r∈l,r=q∨(aI ops r≠o.dst∧((∀ u∈gI ops o,aI ops r≠some u)∨r∈aft o)):=by
  intro q hq
  have hc:=hcalm q hq
  unfold dU at hc
  split at hc
  ·rename_i o ho
   simp only [Bool.and_eq_true] at hc
   refine ⟨o,ho,hc.2.1,fun r hr=>?_⟩
   have:=List.all_eq_true.1 hc.2.2 r hr
   simp only [Bool.or_eq_true,beq_iff_eq,Bool.and_eq_true,bne_iff_ne] at this
   rcases this with h | ⟨h,h2⟩
   ·exact .inl h
   ·refine .inr ⟨h,h2.imp (fun h2 u hu=>?_) (fun h2=>by simpa using h2)⟩
    simpa using List.all_eq_true.1 h2 u hu
  ·cases hc
 have apart:Apart ops ivs:=by
  intro x hx y hy u h1 h2
  refine same x hx y hy ?_
  obtain ⟨o,ho,_,hc⟩:=calm_inv x.1 (fst_in x hx)
  rcases hc y.1 (fst_in y hy) with h | ⟨h,_⟩
  ·exact h.symm
  ·exact absurd (by rw [h2,← bY ho,h1]) h
 have hA:=hev
 simp only [bG,hid,hig,aP,hio,eH hz,Option.getD_some] at hA
 obtain ⟨hA0,hA1,hA2,hA3,hA4,hB⟩:=hA
 have hget:∀ (σ:Sa) (v:V),(σ.put (some t) v).get (.tmp x)=σ.get (.tmp x):=fun σ v=>by
  simp only [Sa.put,Sa.get,bK,if_neg (Ne.symm hxt)]
 have hgt:∀ (σ:Sa) (v:V),(σ.put (some t) v).get (.tmp t)=v:=fun σ v=>by
  simp only [Sa.put,Sa.get,bK,if_true]
 simp only [hjd,hjg,hjo,hgt,hget] at hB
 have hxn' : (({ s1 with bx:=(t::p,aY P ty)::s1.bx }:Sa).get (.tmp x)).notNil=true:=hxn
 simp only [eH hxn'] at hB
 have hlk1:aj (t::p) (({ s1 with bx:=(t::p,aY P ty)::s1.bx }:Sa).put (some t) (.ptr (t::p) 0)).bx=some (aY P ty):=by simp [Sa.put,aj]
 simp only [hlk1] at hB
 obtain ⟨-,hB1,hB2,hB3,hB4,hB5⟩:=hB
 have hv_refs:∀ x∈ivs,x.2.refs (t::p)=false:=by
  intro y hy
  obtain ⟨o,ho,hd,_⟩:=calm_inv y.1 (fst_in y hy)
  obtain ⟨d,hd⟩:=Option.isSome_iff_exists.1 hd
  have e1:=gu (s:=s) apart hy ((bY ho).trans hd)
  rw [← e1,← hs1.ts d]
  have h3:=hA3
  simp only [Sa.refs,Bool.or_eq_false_iff,List.any_eq_false] at h3
  exact rD (fun v=>v.refs (t::p)=false) (by simp [V.refs]) _ (fun z hz=>Bool.eq_false_iff.2 (h3.1.1 z hz)) d
 have hsb:aj (t::p) s.bx=none:=by
  rw [hs1.bx,(aC (ops:=ops) (s:=s) ivs).2.2.2.1] at hA4;exact hA4
 have hsn:s1.n=s.n:=by rw [hs1.n,(aC (ops:=ops) (s:=s) ivs).2.1]
 intro N
 induction N with
 | zero =>
  intro ph L todo listed m' s' a' w' hph hlen _ _ hL hL' hlike hR hst hrd hds hlisted
  have h1:todo=[]:=List.eq_nil_of_length_eq_zero (by omega)
  have h2:ph=2:=by omega
  subst h1 h2
  refine hN m' s' a' w' listed ⟨_,?_,hB5⟩ hR hst hrd hds (hlisted.congr fun q=>by simp)
  refine hlike.trans ?_
  have hls:=wQ (s:=s) apart (L:=L) fun x=>⟨fun hx=>(hL x hx).1,fun hx=>hL' x hx (by simp)⟩
  have hl2:=hls.trans hs1.symm
  simp only [stP,Sa.put]
  refine ⟨hl2.rd,hl2.n,hl2.sv,?_,hl2.lp,hl2.ow,fun u=>?_,hl2.vc⟩
  ·show (t::p,_)::s.bx=cZ (t::p) _ ((t::p,aY P ty)::s1.bx)
   rw [hs1.bx,(aC (ops:=ops) (s:=s) ivs).2.2.2.1]
   simp [cZ,Sa.get]
  ·simp only [bK,hl2.ts u]
 | succ N ih =>
  intro ph L todo listed m' s' a' w' hph hlen htn htl hL hL' hlike hR hst hrd hds hlisted
  have split_of:∀ i∈todo,∃ pre v post o,ivs=pre++(i,v)::post∧ops[i]? = some o∧(∀ j∈aft o,j∈done∨j∈pre.map Prod.fst)∧i ∉ done∧i ∉ pre.map Prod.fst:=by
   intro i hi
   have hil:=htl i hi
   rw [← hl] at hil
   obtain ⟨x,hx,rfl⟩:=List.mem_map.1 hil
   obtain ⟨pre,post,e⟩:=List.append_of_mem hx
   have hl2:l=pre.map Prod.fst++x.1::post.map Prod.fst:=by rw [← hl,e];simp
   rw [hl2] at hord
   obtain ⟨⟨o,ho,h1⟩,h2,h3⟩:=bZ _ hord
   exact ⟨pre,x.2,post,o,e,ho,h1,h2,h3⟩
  have hlt' : ∀ q,listed.getD q false=true→q<ops.size:=fun q h1=>by
   have:q<listed.size:=by
    rcases Nat.lt_or_ge q listed.size with h' | h'
    ·exact h'
    ·simp [Array.getElem?_eq_none h'] at h1
   rw [← hlisted.1];exact this
  have hlD:∀ q,listed.getD q false=true→q∈done∨(q∈l∧q ∉ todo)∨(q=i∧1≤ph)∨(q=j∧2≤ph):=fun q h=>(hlisted.false' (hlt' q h)).1 h
  have hil:i<ops.size:=(Array.getElem?_eq_some_iff.1 hi).1
  have hjl:j<ops.size:=(Array.getElem?_eq_some_iff.1 hj).1
  obtain ⟨m2,hR2,hst2,hrd2⟩:=hlike.wk Mo m' _ w' hR
  have hst3:=hst.trans hst2
  have hrd3:=hrd2.trans hrd
  refine ⟨fun hr=>?_,fun r hr=>?_⟩
  ·exfalso
   cases htd:todo with
   | cons i0 tl =>
    have hi0:i0∈todo:=by rw [htd];exact List.mem_cons_self
    obtain ⟨x0,hx0,e0⟩:=List.mem_map.1 (by rw [hl];exact htl i0 hi0:i0∈ivs.map Prod.fst)
    obtain ⟨pre,y,post,e1,e2,e3⟩:=rZ ivs (fun x=>x.1∈todo) ⟨x0,hx0,by rw [e0];exact hi0⟩
    have hl2:l=pre.map Prod.fst++y.1::post.map Prod.fst:=by rw [← hl,e1];simp
    have hord2:=hord
    rw [hl2] at hord2
    obtain ⟨⟨o,ho,h1⟩,h2,h3⟩:=bZ _ hord2
    have hyl:=htl y.1 e2
    have:y.1∈Region.ready .any ops listed:=dR hlisted ho (by
     rintro (h | h | h | h)
     ·exact h2 h
     ·exact h.2 e2
     ·exact hi2 (h.1 ▸ hyl)
     ·exact hj2 (h.1 ▸ hyl)) (fun j hj=>by
     rcases h1 j hj with h | h
     ·exact ⟨hdone j h,.inl h⟩
     ·obtain ⟨y',hy,rfl⟩:=List.mem_map.1 h
      have hyi:y' ∈ ivs:=by rw [e1];exact List.mem_append_left _ hy
      exact ⟨(hin _ (fst_in y' hyi)).2,.inr (.inl ⟨fst_in y' hyi,e3 y' hy⟩)⟩)
    rw [hr] at this;cases this
   | nil =>
    subst htd
    by_cases hp0:ph=0
    ·have:i∈Region.ready .any ops listed:=dR hlisted hi (by
      rintro (h | h | h | h)
      ·exact hi1 h
      ·exact hi2 h.1
      ·omega
      ·exact hne h.1) (fun q hq=>⟨hdone q (hia q hq),.inl (hia q hq)⟩)
     rw [hr] at this;cases this
    ·have hp1:ph=1:=by simp at hlen;omega
     have:j∈Region.ready .any ops listed:=dR hlisted hj (by
      rintro (h | h | h | h)
      ·exact hj1 h
      ·exact hj2 h.1
      ·exact hne h.1.symm
      ·omega) (fun q hq=>by
      rcases hja q hq with h | h | h
      ·exact ⟨hdone q h,.inl h⟩
      ·exact ⟨(hin q h).2,.inr (.inl ⟨h,by simp⟩)⟩
      ·subst h;exact ⟨hil,.inr (.inr (.inl ⟨rfl,by omega⟩))⟩)
     rw [hr] at this;cases this
  ·obtain ⟨hlt,hnD,o,ho,haft⟩:=jw hlisted hr
   have hcase:r∈todo∨(r=i∧ph=0)∨(r=j∧ph=1):=by
    rcases hcov r hlt with h | h | h | h | h
    ·exact absurd (.inl h) hnD
    ·exact .inl (Classical.byContradiction fun hc=>hnD (.inr (.inl ⟨h,hc⟩)))
    ·exact .inr (.inl ⟨h,Classical.byContradiction fun hc=>hnD (.inr (.inr (.inl ⟨h,by omega⟩)))⟩)
    ·refine .inr (.inr ⟨h,?_⟩)
     have h2 : ¬ 2≤ph:=fun hc=>hnD (.inr (.inr (.inr ⟨h,hc⟩)))
     rw [h,hj] at ho;cases ho
     rcases hlD i (haft i hij) with h' | h' | h' | h'
     ·exact absurd h' hi1
     ·exact absurd h'.1 hi2
     ·omega
     ·exact absurd h'.1 hne
    ·exfalso
     obtain ⟨o',ho',hb⟩:=jT (hlater r h)
     rw [ho] at ho'; cases ho'
     simp only [Bool.or_eq_true] at hb
     rcases hb with hb | hb
     ·obtain ⟨q,hq,hql⟩:=List.any_eq_true.1 hb
      have hql' : q∈later:=by simpa using hql
      obtain ⟨f1,f2,f3,f4⟩:=hfresh q hql'
      rcases hlD q (haft q hq) with h' | h' | h' | h'
      ·exact f1 h'
      ·exact f2 h'.1
      ·exact f3 h'.1
      ·exact f4 h'.1
     ·have hall:=List.all_eq_true.1 hb
      have ha:∀ q∈l++[i,j],q∈aft o:=fun q hq=>by simpa using hall q hq
      have hj9:=hlD j (haft j (ha j (by simp)))
      have hp2:ph=2:=by
       rcases hj9 with h' | h' | h' | h'
       ·exact absurd h' hj1
       ·exact absurd h'.1 hj2
       ·exact absurd h'.1.symm hne
       ·omega
      cases htd:todo with
      | nil=>rw [htd,hp2] at hlen;simp at hlen
      | cons q tl =>
       have hqt:q∈todo:=by rw [htd];exact List.mem_cons_self
       have hql:=htl q hqt
       rcases hlD q (haft q (ha q (by simp [hql]))) with h' | h' | h' | h'
       ·exact (hin q hql).1 h'
       ·exact h'.2 hqt
       ·exact hi2 (h'.1 ▸ hql)
       ·exact hj2 (h'.1 ▸ hql)
   rcases hcase with hit | ⟨rfl,hp0⟩ | ⟨rfl,hp1⟩
   ·
    obtain ⟨pre,v,post,o',e1,ho',hpre,hnd',hipre⟩:=split_of r hit
    rw [ho] at ho'; cases ho'
    obtain ⟨o2,ho2,hf⟩:=hfact pre r v post e1
    rw [ho] at ho2;cases ho2
    have hivs:(r,v)∈ivs:=by rw [e1];simp
    obtain ⟨o3,ho3,_,hcal⟩:=calm_inv r (htl r hit)
    rw [ho] at ho3;cases ho3
    have hpi:∀ y∈pre,y∈ivs:=fun y hy=>by rw [e1];exact List.mem_append_left _ hy
    obtain ⟨hrt,hrr,_⟩:=hls r (htl r hit)
    have hreads:∀ u∈gI ops o,lkT u (stP ops s t (t::p) (aY P ty) (bf 0 (s1.get (.tmp x)) (aY P ty)) ph L).ts=lkT u (ay ops s pre).ts:=by
     intro u hu
     have hut:u≠t:=fun e=>hrr (by rw [← e];simp only [readsOf,ho];exact hu)
     rw [Uk hut]
     have hpap:Apart ops pre:=fun x hx y hy=>apart x (hpi x hx) y (hpi y hy)
     have hLap:Apart ops L:=fun x hx y hy=>apart x (hL x hx).1 y (hL y hy).1
     by_cases hex:∃ y∈ivs,aI ops y.1=some u∧y.1≠r
     ·obtain ⟨y,hy,hyd,hyi⟩:=hex
      have hya:y.1∈aft o:=by
       rcases hcal y.1 (fst_in y hy) with h2 | ⟨_,h2 | h2⟩
       ·exact absurd h2 hyi
       ·exact absurd hyd (h2 u hu)
       ·exact h2
      have hyL:y∈L:=by
       refine hL' y hy fun hyt=>?_
       have hyl:=fst_in y hy
       rcases hlD y.1 (haft y.1 hya) with h | h | h | h
       ·exact (hin y.1 hyl).1 h
       ·exact h.2 hyt
       ·exact hi2 (h.1 ▸ hyl)
       ·exact hj2 (h.1 ▸ hyl)
      have hyp:y∈pre:=by
       rcases hpre y.1 hya with h | h
       ·exact absurd h (hin y.1 (fst_in y hy)).1
       ·obtain ⟨z,hz,e⟩:=List.mem_map.1 h
        rw [← same z (hpi z hz) y hy e];exact hz
      rw [gu hLap hyL hyd,gu hpap hyp hyd]
     ·rw [iI (fun y hy hd=>?_),iI (fun y hy hd=>?_)]
      ·by_cases hyi:y.1=r
       ·exact hipre (List.mem_map.2 ⟨y,hy,hyi⟩)
       ·exact hex ⟨y,hpi y hy,hd,hyi⟩
      ·by_cases hyi:y.1=r
       ·exact (hL y hy).2 (by rw [hyi];exact hit)
       ·exact hex ⟨y,(hL y hy).1,hd,hyi⟩
    obtain ⟨b1,b2,b3,b4,b5,b6⟩:=aC (ops:=ops) (s:=s) pre
    obtain ⟨c1,c2,c3,c4,c5,c6⟩:=aC (ops:=ops) (s:=s) L
    have hbe:lW (ay ops s pre) (stP ops s t (t::p) (aY P ty) (bf 0 (s1.get (.tmp x)) (aY P ty)) ph L):=by
     refine ⟨?_,fun nm c hc=>by
      rw [bM pre] at hc
      match ph with
      | 0=>exact (congrArg (aj nm) (bM L)).trans hc
      | 1=>exact (congrArg (aj nm) (bM L)).trans hc
      | n+2=>exact (congrArg (aj nm) (bM L)).trans hc⟩
     intro nm c hc
     rw [b4] at hc
     have hnf:t::p≠nm:=fun e=>by rw [← e,hsb] at hc;cases hc
     match ph with
     | 0=>simp only [stP,c4];exact hc
     | 1=>simp only [stP,aj,if_neg hnf];exact hc
     | n+2=>simp only [stP,aj,if_neg hnf];exact hc
    have hn9:(stP ops s t (t::p) (aY P ty) (bf 0 (s1.get (.tmp x)) (aY P ty)) ph L).n=(ay ops s pre).n:=by
     rw [b2]
     match ph with
     | 0=>exact c2
     | 1=>exact c2
     | n+2=>exact c2
    have hev:=hf _ hbe hn9 hreads (fun s2=>∃ s1',Like s1' (stP ops s t (t::p) (aY P ty) (bf 0 (s1.get (.tmp x)) (aY P ty)) ph L)∧s2=s1'.put o.dst v) (fun s1 h1=>⟨s1,h1,rfl⟩)
    rw [← hrd3]
    refine iG ho hR2 ?_ hev
    rintro m4 s4 a4 w4 ⟨s1',hs1',rfl⟩ hR4 hst4 hrd4 hds4
    rw [hrd3]
    refine ih ph (L++[(r,v)]) (todo.erase r) _ m4 _ a4 w4 hph (by rw [List.length_erase_of_mem hit];have:=List.length_pos_of_mem hit;omega) (htn.erase r) (fun j hj=>htl j (List.mem_of_mem_erase hj)) ?_ ?_ ?_ hR4 (hst3.trans hst4) (hrd4.trans hrd3) (hds4.trans hds) ?_
    ·intro x hx
     rcases List.mem_append.1 hx with h | h
     ·exact ⟨(hL x h).1,fun hc=>(hL x h).2 (List.mem_of_mem_erase hc)⟩
     ·simp only [List.mem_singleton] at h;subst h
      exact ⟨hivs,fun hc=>by rw [htn.mem_erase_iff] at hc;exact hc.1 rfl⟩
    ·intro x hx hxt
     by_cases hxi:x.1=r
     ·exact List.mem_append_right _ (by rw [same x hx _ hivs hxi];simp)
     ·exact List.mem_append_left _ (hL' x hx fun hc=>hxt ((htn.mem_erase_iff).2 ⟨hxi,hc⟩))
    ·rw [← bY ho]
     exact (hs1'.put _ _).trans (Vl hrt)
    ·refine (hlisted.set r).congr fun q=>?_
     constructor
     ·rintro ((h | h | h | h) | h)
      ·exact .inl h
      ·exact .inr (.inl ⟨h.1,fun hc=>h.2 (List.mem_of_mem_erase hc)⟩)
      ·exact .inr (.inr (.inl h))
      ·exact .inr (.inr (.inr h))
      ·subst h;exact .inr (.inl ⟨htl q hit,fun hc=>by rw [htn.mem_erase_iff] at hc;exact hc.1 rfl⟩)
     ·rintro (h | h | h | h)
      ·exact .inl (.inl h)
      ·by_cases hji:q=r
       ·exact .inr hji
       ·exact .inl (.inr (.inl ⟨h.1,fun hc=>h.2 ((htn.mem_erase_iff).2 ⟨hji,hc⟩)⟩))
      ·exact .inl (.inr (.inr (.inl h)))
      ·exact .inl (.inr (.inr (.inr h)))
   ·
    subst hp0
    rw [hi] at ho;cases ho
    obtain ⟨c1,c2,c3,c4,c5,c6⟩:=aC (ops:=ops) (s:=s) L
    have hev9:bG P (lN P) p ops [oi] (ay ops s L) (fun s2=>s2=stP ops s t (t::p) (aY P ty) (bf 0 (s1.get (.tmp x)) (aY P ty)) 1 L):=by
     simp only [bG,hid,hig,aP,hio,eH hz,Option.getD_some]
     refine ⟨by rw [c2,← hsn];exact hA0,hA1,hA2,Gt href (fun y hy=>hv_refs y (hL y hy).1),by rw [c4];exact hsb,?_⟩
     simp only [stP,Sa.put,c4]
    rw [← hrd3]
    refine iG hi hR2 ?_ hev9
    rintro m4 s4 a4 w4 rfl hR4 hst4 hrd4 hds4
    rw [hrd3]
    refine ih 1 L todo _ m4 _ a4 w4 (by omega) (by omega) htn htl hL hL' (Like.refl _) hR4 (hst3.trans hst4) (hrd4.trans hrd3) (hds4.trans hds) ?_
    refine (hlisted.set r).congr fun q=>?_
    constructor
    ·rintro ((h | h | h | h) | h)
     ·exact .inl h
     ·exact .inr (.inl h)
     ·omega
     ·omega
     ·exact .inr (.inr (.inl ⟨h,by omega⟩))
    ·rintro (h | h | h | h)
     ·exact .inl (.inl h)
     ·exact .inl (.inr (.inl h))
     ·exact .inr h.1
     ·omega
   ·
    subst hp1
    rw [hj] at ho;cases ho
    obtain ⟨c1,c2,c3,c4,c5,c6⟩:=aC (ops:=ops) (s:=s) L
    have hLap:Apart ops L:=fun x hx y hy=>apart x (hL x hx).1 y (hL y hy).1
    have hxv:lkT x (ay ops s L).ts=s1.get (.tmp x):=by
     show _=lkT x s1.ts
     rw [hs1.ts x]
     by_cases hex:∃ y∈ivs,aI ops y.1=some x
     ·obtain ⟨y,hy,hyd⟩:=hex
      have hyl:=fst_in y hy
      have hyL:y∈L:=by
       refine hL' y hy fun hyt=>?_
       rcases hlD y.1 (haft y.1 ((hls y.1 hyl).2.2 hyd)) with h | h | h | h
       ·exact (hin y.1 hyl).1 h
       ·exact h.2 hyt
       ·exact hi2 (h.1 ▸ hyl)
       ·exact hj2 (h.1 ▸ hyl)
      rw [gu hLap hyL hyd,gu apart hy hyd]
     ·rw [iI (fun y hy hd=>hex ⟨y,(hL y hy).1,hd⟩),iI (fun y hy hd=>hex ⟨y,hy,hd⟩)]
    have hev9:bG P (lN P) p ops [oj] (stP ops s t (t::p) (aY P ty) (bf 0 (s1.get (.tmp x)) (aY P ty)) 1 L) (fun s2=>s2=stP ops s t (t::p) (aY P ty) (bf 0 (s1.get (.tmp x)) (aY P ty)) 2 L):=by
     have g1:(stP ops s t (t::p) (aY P ty) (bf 0 (s1.get (.tmp x)) (aY P ty)) 1 L).get (.tmp t) = .ptr (t::p) 0:=by simp only [stP,Sa.get,bK,if_true]
     have g2:(stP ops s t (t::p) (aY P ty) (bf 0 (s1.get (.tmp x)) (aY P ty)) 1 L).get (.tmp x)=s1.get (.tmp x):=by
      rw [← hxv];exact Uk hxt
     have g3:aj (t::p) (stP ops s t (t::p) (aY P ty) (bf 0 (s1.get (.tmp x)) (aY P ty)) 1 L).bx=some (aY P ty):=by simp [stP,aj]
     simp only [bG,hjd,hjg,aP,hjo,g1,g2,g3,eH hxn]
     refine ⟨trivial,hB1,hB2,hB3,hB4,?_⟩
     simp only [stP,Sa.put,cZ,if_true]
    rw [← hrd3]
    refine iG hj hR2 ?_ hev9
    rintro m4 s4 a4 w4 rfl hR4 hst4 hrd4 hds4
    rw [hrd3]
    refine ih 2 L todo _ m4 _ a4 w4 (by omega) (by omega) htn htl hL hL' (Like.refl _) hR4 (hst3.trans hst4) (hrd4.trans hrd3) (hds4.trans hds) ?_
    refine (hlisted.set r).congr fun q=>?_
    constructor
    ·rintro ((h | h | h | h) | h)
     ·exact .inl h
     ·exact .inr (.inl h)
     ·exact .inr (.inr (.inl ⟨h.1,by omega⟩))
     ·exact .inr (.inr (.inr ⟨h.1,by omega⟩))
     ·exact .inr (.inr (.inr ⟨h,by omega⟩))
    ·rintro (h | h | h | h)
     ·exact .inl (.inl h)
     ·exact .inl (.inr (.inl h))
     ·exact .inl (.inr (.inr (.inl ⟨h.1,by omega⟩)))
     ·exact .inr h.1
theorem Nw {f:Name} {d:Option Tmp} {v:V} (h:s.strip f=s) (hv:v.strip f=v):(s.put d v).strip f=s.put d v:=by
 cases d with
 | none=>exact h
 | some d =>
  have h1:qV (V.strip f) s.ts=s.ts:=congrArg Sa.ts h
  have e:∀ l:List (Nat×V),qV (V.strip f) l=l→qV (V.strip f) (qp d v l)=qp d v l:=by
   intro l
   induction l with
   | nil=>intro _;simp [qp,qV,hv]
   | cons x l ih =>
    obtain ⟨a,b⟩:=x
    intro hl
    simp only [qV,List.map_cons,List.cons.injEq,Prod.mk.injEq,true_and] at hl
    simp only [qp]
    split
    ·simp only [qV,List.map_cons,hv];exact congrArg _ hl.2
    ·simp only [qV,List.map_cons,hl.1];exact congrArg _ (ih hl.2)
  have h2:=e _ h1
  show ({ s.strip f with ts:=qV (V.strip f) (qp d v s.ts) }:Sa)=_
  rw [h2,h];rfl
theorem Em {f:Name}:∀ {L:List (Nat×V)} {s:Sa},s.strip f=s→(∀ x∈L,x.2.strip f=x.2)→(ay ops s L).strip f=ay ops s L:=by
 intro L
 induction L with
 | nil=>intro s h _;exact h
 | cons x L ih=>intro s h hL;exact ih (Nw h (hL x List.mem_cons_self)) (fun y hy=>hL y (List.mem_cons_of_mem _ hy))
theorem Ro {f:Name} {u:Nat} (h:s.strip f=s):(lkT u s.ts).strip f=lkT u s.ts:=by
 have h1:qV (V.strip f) s.ts=s.ts:=congrArg Sa.ts h
 have h2:=iC (V.strip f) (by simp [V.strip]) u s.ts
 rw [h1] at h2;exact h2.symm
theorem Rq {f:Name} (h:s.strip f=s):aj f s.vc=none:=by
 have h1:s.vc.filter (fun x=>x.1 != f)=s.vc:=congrArg Sa.vc h
 rw [← h1,dN (q:=fun j=>j != f)];simp
theorem zT {f:Name} {sz:Nat} {xs:List D} (h:s.strip f=s):s.bH f sz xs=s.made f sz xs:=by
 unfold Sa.bH Sa.made;rw [h]
def stM (ops:Array Oper) (s:Sa) (t:Nat) (f:Name) (sz:Nat) (xs:List D) (ph:Nat) (L:List (Nat×V)):Sa :=
 match ph with
 | 0=>ay ops s L
 | _=>{ (ay ops s L) with ow:=f::s.ow,vc:=(f,(sz,xs))::s.vc,ts:=qp t (.vsl f) (ay ops s L).ts }
theorem XZ {t:Nat} {f:Name} {sz:Nat} {xs:List D} {ph:Nat} {L:List (Nat×V)} {u:Nat} (hu:u≠t):lkT u (stM ops s t f sz xs ph L).ts=lkT u (ay ops s L).ts:=by
 match ph with
 | 0=>rfl
 | n+1=>simp only [stM,bK,if_neg (Ne.symm hu)]
theorem Vm {t:Nat} {f:Name} {sz:Nat} {xs:List D} {ph:Nat} {L:List (Nat×V)} {q:Nat} {v:V} (hq:aI ops q≠some t):Like ((stM ops s t f sz xs ph L).put (aI ops q) v) (stM ops s t f sz xs ph (L++[(q,v)])):=by
 have e:ay ops s (L++[(q,v)])=(ay ops s L).put (aI ops q) v:=by rw [iH];rfl
 cases hd:aI ops q with
 | none =>
  rw [hd] at e
  have e' : ay ops s (L++[(q,v)])=ay ops s L:=e
  match ph with
  | 0=>simp only [stM,e'];exact Like.refl _
  | n+1=>simp only [stM,e'];exact Like.refl _
 | some d =>
  rw [hd] at e hq
  have hdt:d≠t:=fun h=>hq (by rw [h])
  match ph with
  | 0=>simp only [stM,e];exact Like.refl _
  | n+1 =>
   simp only [stM,e]
   refine ⟨rfl,rfl,rfl,rfl,rfl,rfl,fun u=>?_,rfl⟩
   simp only [Sa.put,bK]
   split <;> split <;> simp_all
theorem KE {l done later:List Nat} {ivs:List (Nat×V)} {j t:Nat} {oj:Oper} {fv:Operand} {as:List Operand} {g:FuncId} {ds xs:List D} {sz:Nat} {s1:Sa} (hl:ivs.map Prod.fst=l) (hcalm:∀ i∈l,dU ops l i=true) (hord:fA ops done l=true)
  (hj:ops[j]? = some oj) (hco:callOf oj=some (t,fv,as))
  (hja:∀ q∈aft oj,q∈done∨q∈l) (hls:∀ q∈l,aI ops q≠some t∧t ∉ readsOf ops q∧((∀ u∈readsOf ops j,aI ops q≠some u)∨q∈aft oj)) (hj1:j ∉ done) (hj2:j ∉ l)
  (hlater:∀ q∈later,rY ops q (fun al=>al.any later.contains || (l++[j]).all (need ops (j::l.reverse) al).contains)=true) (hfresh:∀ q∈later,q ∉ done∧q ∉ l∧q≠j) (hcov:∀ q<ops.size,q∈done∨q∈l∨q=j∨q∈later)
  (hdone:∀ q∈done,q<ops.size)
  (hfact:∀ pre i v post,ivs=pre++(i,v)::post→lX P p ops i v (ay ops s pre)) (hs1:Like s1 (ay ops s ivs)) (hst0:s.strip (t::p)=s) (hst1:s1.strip (t::p)=s1) (htn0:t<s1.n)
  (hfv:s1.get fv = .d (.v (.func (.func g) #[] #[]))) (hcal:callable P g=true) (hds:eF V.toD (as.map s1.get)=some ds) (hmk:zO P g ds sz xs) {fuel:Nat} {dd:List Deferred}
  (hN:kS P ops Q n Mo m s dd sv w fuel (fun q=>q∈done∨q∈l∨q=j) (fun s'=>Like s' ((s1.made (t::p) sz xs).put (some t) (.vsl (t::p))))) :
  ∀ (N ph:Nat) (L:List (Nat×V)) (todo:List Nat) (listed:Array Bool) (m' : Mp) (s' : Sa) (a' : Act) (w' : World),ph≤1→N=todo.length+(1 - ph)→todo.Nodup→(∀ j∈todo,j∈l)→(∀ x∈L,x∈ivs∧x.1 ∉ todo)→(∀ x∈ivs,x.1 ∉ todo→x∈L) →
   Like s' (stM ops s t (t::p) sz xs ph L)→Rel Mo m' s' (a' :: sv) w' → Step m s w m' s' w' → bC m' s' = bC m s→a'.defers=dd →
   (∀ q,((q∈l∧q ∉ todo)∨(q=j∧1≤ph))→∀ x∈jH ops q,x∈done∨(x∈l∧x ∉ todo)∨(x=j∧1≤ph))→Listed ops listed (fun q=>q∈done∨(q∈l∧q ∉ todo)∨(q=j∧1≤ph)) →
   wpAnyIn (Wd (bC m s)) n P .any ops Q (fuel+N) listed a' w':=by
 obtain ⟨hjd,hjg,cl,hjo,hcl,has⟩:=KD hco
 obtain ⟨hnd,hin⟩:=bF hord
 have hndf:(ivs.map Prod.fst).Nodup:=by rw [hl];exact hnd
 have fst_in:∀ x∈ivs,x.1∈l:=fun x hx=>by rw [← hl];exact List.mem_map.2 ⟨x,hx,rfl⟩
 have same:∀ x∈ivs,∀ y∈ivs,x.1=y.1→x=y:=by
  intro x hx y hy e
  obtain ⟨i,hi,rfl⟩:=List.getElem_of_mem hx
  obtain ⟨j,hj,rfl⟩:=List.getElem_of_mem hy
  have:=(List.getElem_inj (xs:=ivs.map Prod.fst) (h₀:=by simpa using hi) (h₁:=by simpa using hj) hndf).1 (by simpa using e)
  subst this;rfl
 have calm_inv:∀ q∈l,∃ o,ops[q]? = some o∧o.dst.isSome=true∧∀ r∈l,r=q∨(aI ops r≠o.dst∧((∀ u∈gI ops o,aI ops r≠some u)∨r∈aft o)):=by
  intro q hq
  have hc:=hcalm q hq
  unfold dU at hc
  split at hc
  ·rename_i o ho
   simp only [Bool.and_eq_true] at hc
   refine ⟨o,ho,hc.2.1,fun r hr=>?_⟩
   have:=List.all_eq_true.1 hc.2.2 r hr
   simp only [Bool.or_eq_true,beq_iff_eq,Bool.and_eq_true,bne_iff_ne] at this
   rcases this with h | ⟨h,h2⟩
   ·exact .inl h
   ·refine .inr ⟨h,h2.imp (fun h2 u hu=>?_) (fun h2=>by simpa using h2)⟩
    simpa using List.all_eq_true.1 h2 u hu
  ·cases hc
 have apart:Apart ops ivs:=by
  intro x hx y hy u h1 h2
  refine same x hx y hy ?_
  obtain ⟨o,ho,_,hc⟩:=calm_inv x.1 (fst_in x hx)
  rcases hc y.1 (fst_in y hy) with h | ⟨h,_⟩
  ·exact h.symm
  ·exact absurd (by rw [h2,← bY ho,h1]) h
 have hv_strip:∀ x∈ivs,x.2.strip (t::p)=x.2:=by
  intro y hy
  obtain ⟨o,ho,hd,_⟩:=calm_inv y.1 (fst_in y hy)
  obtain ⟨d,hd⟩:=Option.isSome_iff_exists.1 hd
  have e1:=gu (s:=s) apart hy ((bY ho).trans hd)
  rw [← e1,← hs1.ts d]
  exact Ro hst1
 have hvn:aj (t::p) s.vc=none:=Rq hst0
 have hsn:s1.n=s.n:=by rw [hs1.n,(aC (ops:=ops) (s:=s) ivs).2.1]
 intro N
 induction N with
 | zero =>
  intro ph L todo listed m' s' a' w' hph hlen _ _ hL hL' hlike hR hst hrd hdd hclo hlisted
  have h1:todo=[]:=List.eq_nil_of_length_eq_zero (by omega)
  have h2:ph=1:=by omega
  subst h1 h2
  refine hN m' s' a' w' listed ?_ hR hst hrd hdd (hlisted.congr fun q=>by simp)
  refine hlike.trans ?_
  have hls:=wQ (s:=s) apart (L:=L) fun x=>⟨fun hx=>(hL x hx).1,fun hx=>hL' x hx (by simp)⟩
  have hl2:=hls.trans hs1.symm
  have e1:=(aC (ops:=ops) (s:=s) ivs)
  simp only [stM,Sa.put,Sa.made]
  refine ⟨hl2.rd,hl2.n,hl2.sv,hl2.bx,hl2.lp,?_,fun u=>?_,?_⟩
  ·show (t::p)::s.ow=(t::p)::s1.ow
   rw [hs1.ow,e1.2.2.2.2.2]
  ·simp only [bK,hl2.ts u]
  ·show (t::p,(sz,xs))::s.vc=(t::p,(sz,xs))::s1.vc
   rw [hs1.vc,bM ivs]
 | succ N ih =>
  intro ph L todo listed m' s' a' w' hph hlen htn htl hL hL' hlike hR hst hrd hdd hclo hlisted
  have split_of:∀ i∈todo,∃ pre v post o,ivs=pre++(i,v)::post∧ops[i]? = some o∧(∀ j∈aft o,j∈done∨j∈pre.map Prod.fst)∧i ∉ done∧i ∉ pre.map Prod.fst:=by
   intro i hi
   have hil:=htl i hi
   rw [← hl] at hil
   obtain ⟨x,hx,rfl⟩:=List.mem_map.1 hil
   obtain ⟨pre,post,e⟩:=List.append_of_mem hx
   have hl2:l=pre.map Prod.fst++x.1::post.map Prod.fst:=by rw [← hl,e];simp
   rw [hl2] at hord
   obtain ⟨⟨o,ho,h1⟩,h2,h3⟩:=bZ _ hord
   exact ⟨pre,x.2,post,o,e,ho,h1,h2,h3⟩
  have hlt' : ∀ q,listed.getD q false=true→q<ops.size:=fun q h1=>by
   have:q<listed.size:=by
    rcases Nat.lt_or_ge q listed.size with h' | h'
    ·exact h'
    ·simp [Array.getElem?_eq_none h'] at h1
   rw [← hlisted.1];exact this
  have hlD:∀ q,listed.getD q false=true→q∈done∨(q∈l∧q ∉ todo)∨(q=j∧1≤ph):=fun q h=>(hlisted.false' (hlt' q h)).1 h
  have hjl:j<ops.size:=(Array.getElem?_eq_some_iff.1 hj).1
  obtain ⟨m2,hR2,hst2,hrd2⟩:=hlike.wk Mo m' _ w' hR
  have hst3:=hst.trans hst2
  have hrd3:=hrd2.trans hrd
  refine ⟨fun hr=>?_,fun r hr=>?_⟩
  ·exfalso
   cases htd:todo with
   | cons i0 tl =>
    have hi0:i0∈todo:=by rw [htd];exact List.mem_cons_self
    obtain ⟨x0,hx0,e0⟩:=List.mem_map.1 (by rw [hl];exact htl i0 hi0:i0∈ivs.map Prod.fst)
    obtain ⟨pre,y,post,e1,e2,e3⟩:=rZ ivs (fun x=>x.1∈todo) ⟨x0,hx0,by rw [e0];exact hi0⟩
    have hl2:l=pre.map Prod.fst++y.1::post.map Prod.fst:=by rw [← hl,e1];simp
    have hord2:=hord
    rw [hl2] at hord2
    obtain ⟨⟨o,ho,h1⟩,h2,h3⟩:=bZ _ hord2
    have hyl:=htl y.1 e2
    have:y.1∈Region.ready .any ops listed:=dR hlisted ho (by
     rintro (h | h | h)
     ·exact h2 h
     ·exact h.2 e2
     ·exact hj2 (h.1 ▸ hyl)) (fun j hj=>by
     rcases h1 j hj with h | h
     ·exact ⟨hdone j h,.inl h⟩
     ·obtain ⟨y',hy,rfl⟩:=List.mem_map.1 h
      have hyi:y' ∈ ivs:=by rw [e1];exact List.mem_append_left _ hy
      exact ⟨(hin _ (fst_in y' hyi)).2,.inr (.inl ⟨fst_in y' hyi,e3 y' hy⟩)⟩)
    rw [hr] at this;cases this
   | nil =>
    subst htd
    have hp0:ph=0:=by simp at hlen;omega
    have:j∈Region.ready .any ops listed:=dR hlisted hj (by
     rintro (h | h | h)
     ·exact hj1 h
     ·exact hj2 h.1
     ·omega) (fun q hq=>by
     rcases hja q hq with h | h
     ·exact ⟨hdone q h,.inl h⟩
     ·exact ⟨(hin q h).2,.inr (.inl ⟨h,by simp⟩)⟩)
    rw [hr] at this;cases this
  ·obtain ⟨hlt,hnD,o,ho,haft⟩:=jw hlisted hr
   have hcase:r∈todo∨(r=j∧ph=0):=by
    rcases hcov r hlt with h | h | h | h
    ·exact absurd (.inl h) hnD
    ·exact .inl (Classical.byContradiction fun hc=>hnD (.inr (.inl ⟨h,hc⟩)))
    ·exact .inr ⟨h,Classical.byContradiction fun hc=>hnD (.inr (.inr ⟨h,by omega⟩))⟩
    ·exfalso
     obtain ⟨o',ho',hb⟩:=jT (hlater r h)
     rw [ho] at ho'; cases ho'
     simp only [Bool.or_eq_true] at hb
     rcases hb with hb | hb
     ·obtain ⟨q,hq,hql⟩:=List.any_eq_true.1 hb
      have hql' : q∈later:=by simpa using hql
      obtain ⟨f1,f2,f3⟩:=hfresh q hql'
      rcases hlD q (haft q hq) with h' | h' | h'
      ·exact f1 h'
      ·exact f2 h'.1
      ·exact f3 h'.1
     ·have hall:=List.all_eq_true.1 hb
      have hnd9:=BH (ops:=ops) (q:=fun q=>q∈done∨(q∈l∧q ∉ todo)∨(q=j∧1≤ph)) (l:=j::l.reverse) (S:=aft o) (fun q hq=>hlD q (haft q hq)) (fun q hq hqq x hx=>by
       have hql:q=j∨q∈l:=by simpa using hq
       rcases hqq with hqq | hqq
       ·rcases hql with e | e
        ·exact absurd (e ▸ hqq) hj1
        ·exact absurd hqq (hin q e).1
       ·exact hclo q hqq x hx)
      have ha:∀ q∈l++[j],q∈done∨(q∈l∧q ∉ todo)∨(q=j∧1≤ph):=fun q hq=>hnd9 q (by simpa using hall q hq)
      have hj9:=ha j (by simp)
      have hp2:ph=1:=by
       rcases hj9 with h' | h' | h'
       ·exact absurd h' hj1
       ·exact absurd h'.1 hj2
       ·omega
      cases htd:todo with
      | nil=>rw [htd,hp2] at hlen;simp at hlen
      | cons q tl =>
       have hqt:q∈todo:=by rw [htd];exact List.mem_cons_self
       have hql:=htl q hqt
       rcases ha q (by simp [hql]) with h' | h' | h'
       ·exact (hin q hql).1 h'
       ·exact h'.2 hqt
       ·exact hj2 (h'.1 ▸ hql)
   rcases hcase with hit | ⟨rfl,hp0⟩
   ·
    obtain ⟨pre,v,post,o',e1,ho',hpre,hnd',hipre⟩:=split_of r hit
    rw [ho] at ho'; cases ho'
    obtain ⟨o2,ho2,hf⟩:=hfact pre r v post e1
    rw [ho] at ho2;cases ho2
    have hivs:(r,v)∈ivs:=by rw [e1];simp
    obtain ⟨o3,ho3,_,hcal⟩:=calm_inv r (htl r hit)
    rw [ho] at ho3;cases ho3
    have hpi:∀ y∈pre,y∈ivs:=fun y hy=>by rw [e1];exact List.mem_append_left _ hy
    obtain ⟨hrt,hrr,_⟩:=hls r (htl r hit)
    have hreads:∀ u∈gI ops o,lkT u (stM ops s t (t::p) sz xs ph L).ts=lkT u (ay ops s pre).ts:=by
     intro u hu
     have hut:u≠t:=fun e=>hrr (by rw [← e];simp only [readsOf,ho];exact hu)
     rw [XZ hut]
     have hpap:Apart ops pre:=fun x hx y hy=>apart x (hpi x hx) y (hpi y hy)
     have hLap:Apart ops L:=fun x hx y hy=>apart x (hL x hx).1 y (hL y hy).1
     by_cases hex:∃ y∈ivs,aI ops y.1=some u∧y.1≠r
     ·obtain ⟨y,hy,hyd,hyi⟩:=hex
      have hya:y.1∈aft o:=by
       rcases hcal y.1 (fst_in y hy) with h2 | ⟨_,h2 | h2⟩
       ·exact absurd h2 hyi
       ·exact absurd hyd (h2 u hu)
       ·exact h2
      have hyL:y∈L:=by
       refine hL' y hy fun hyt=>?_
       have hyl:=fst_in y hy
       rcases hlD y.1 (haft y.1 hya) with h | h | h
       ·exact (hin y.1 hyl).1 h
       ·exact h.2 hyt
       ·exact hj2 (h.1 ▸ hyl)
      have hyp:y∈pre:=by
       rcases hpre y.1 hya with h | h
       ·exact absurd h (hin y.1 (fst_in y hy)).1
       ·obtain ⟨z,hz,e⟩:=List.mem_map.1 h
        rw [← same z (hpi z hz) y hy e];exact hz
      rw [gu hLap hyL hyd,gu hpap hyp hyd]
     ·rw [iI (fun y hy hd=>?_),iI (fun y hy hd=>?_)]
      ·by_cases hyi:y.1=r
       ·exact hipre (List.mem_map.2 ⟨y,hy,hyi⟩)
       ·exact hex ⟨y,hpi y hy,hd,hyi⟩
      ·by_cases hyi:y.1=r
       ·exact (hL y hy).2 (by rw [hyi];exact hit)
       ·exact hex ⟨y,(hL y hy).1,hd,hyi⟩
    obtain ⟨b1,b2,b3,b4,b5,b6⟩:=aC (ops:=ops) (s:=s) pre
    obtain ⟨c1,c2,c3,c4,c5,c6⟩:=aC (ops:=ops) (s:=s) L
    have hbe:lW (ay ops s pre) (stM ops s t (t::p) sz xs ph L):=by
     refine ⟨fun nm c hc=>?_,fun nm c hc=>?_⟩
     ·rw [b4] at hc
      match ph with
      | 0=>simp only [stM,c4];exact hc
      | n+1=>simp only [stM,c4];exact hc
     ·rw [bM pre] at hc
      have hnf:t::p≠nm:=fun e=>by rw [← e,hvn] at hc;cases hc
      match ph with
      | 0=>exact (congrArg (aj nm) (bM L)).trans hc
      | n+1=>simp only [stM,aj,if_neg hnf];exact hc
    have hn9:(stM ops s t (t::p) sz xs ph L).n=(ay ops s pre).n:=by
     rw [b2]
     match ph with
     | 0=>exact c2
     | n+1=>exact c2
    have hev:=hf _ hbe hn9 hreads (fun s2=>∃ s1',Like s1' (stM ops s t (t::p) sz xs ph L)∧s2=s1'.put o.dst v) (fun s1 h1=>⟨s1,h1,rfl⟩)
    rw [← hrd3]
    refine iG ho hR2 ?_ hev
    rintro m4 s4 a4 w4 ⟨s1',hs1',rfl⟩ hR4 hst4 hrd4 hds4
    rw [hrd3]
    refine ih ph (L++[(r,v)]) (todo.erase r) _ m4 _ a4 w4 hph (by rw [List.length_erase_of_mem hit];have:=List.length_pos_of_mem hit;omega) (htn.erase r) (fun j hj=>htl j (List.mem_of_mem_erase hj)) ?_ ?_ ?_ hR4 (hst3.trans hst4) (hrd4.trans hrd3) (hds4.trans hdd) ?_ ?_
    ·intro x hx
     rcases List.mem_append.1 hx with h | h
     ·exact ⟨(hL x h).1,fun hc=>(hL x h).2 (List.mem_of_mem_erase hc)⟩
     ·simp only [List.mem_singleton] at h;subst h
      exact ⟨hivs,fun hc=>by rw [htn.mem_erase_iff] at hc;exact hc.1 rfl⟩
    ·intro x hx hxt
     by_cases hxi:x.1=r
     ·exact List.mem_append_right _ (by rw [same x hx _ hivs hxi];simp)
     ·exact List.mem_append_left _ (hL' x hx fun hc=>hxt ((htn.mem_erase_iff).2 ⟨hxi,hc⟩))
    ·rw [← bY ho]
     exact (hs1'.put _ _).trans (Vm hrt)
    ·have hkeep:∀ x,(x∈done∨(x∈l∧x ∉ todo)∨(x=j∧1≤ph))→x∈done∨(x∈l∧x ∉ todo.erase r)∨(x=j∧1≤ph):=fun x h=>h.imp id fun h=>h.imp (fun h=>⟨h.1,fun hc=>h.2 (List.mem_of_mem_erase hc)⟩) id
     intro q hq x hx
     by_cases hqr:q=r
     ·subst hqr
      have hx' : x∈aft o:=by simpa [jH,ho] using hx
      exact hkeep x (hlD x (haft x hx'))
     ·refine hkeep x (hclo q ?_ x hx)
      rcases hq with h | h
      ·exact .inl ⟨h.1,fun hc=>h.2 ((htn.mem_erase_iff).2 ⟨hqr,hc⟩)⟩
      ·exact .inr h
    ·refine (hlisted.set r).congr fun q=>?_
     constructor
     ·rintro ((h | h | h) | h)
      ·exact .inl h
      ·exact .inr (.inl ⟨h.1,fun hc=>h.2 (List.mem_of_mem_erase hc)⟩)
      ·exact .inr (.inr h)
      ·subst h;exact .inr (.inl ⟨htl q hit,fun hc=>by rw [htn.mem_erase_iff] at hc;exact hc.1 rfl⟩)
     ·rintro (h | h | h)
      ·exact .inl (.inl h)
      ·by_cases hji:q=r
       ·exact .inr hji
       ·exact .inl (.inr (.inl ⟨h.1,fun hc=>h.2 ((htn.mem_erase_iff).2 ⟨hji,hc⟩)⟩))
      ·exact .inl (.inr (.inr h))
   ·
    subst hp0
    rw [hj] at ho;cases ho
    obtain ⟨c1,c2,c3,c4,c5,c6⟩:=aC (ops:=ops) (s:=s) L
    have hLap:Apart ops L:=fun x hx y hy=>apart x (hL x hx).1 y (hL y hy).1
    have hreads:∀ u∈gI ops oj,lkT u (ay ops s L).ts=lkT u s1.ts:=by
     intro u hu
     have hu' : u∈readsOf ops r:=by simp only [readsOf,hj];exact hu
     rw [hs1.ts u]
     by_cases hex:∃ y∈ivs,aI ops y.1=some u
     ·obtain ⟨y,hy,hyd⟩:=hex
      have hyl:=fst_in y hy
      have hyL:y∈L:=by
       refine hL' y hy fun hyt=>?_
       have hya:y.1∈aft oj:=by
        rcases (hls y.1 hyl).2.2 with h | h
        ·exact absurd hyd (h u hu')
        ·exact h
       rcases hlD y.1 (haft y.1 hya) with h | h | h
       ·exact (hin y.1 hyl).1 h
       ·exact h.2 hyt
       ·exact hj2 (h.1 ▸ hyl)
      rw [gu hLap hyL hyd,gu apart hy hyd]
     ·rw [iI (fun y hy hd=>hex ⟨y,(hL y hy).1,hd⟩),iI (fun y hy hd=>hex ⟨y,hy,hd⟩)]
    have hget:=rX (ops:=ops) (s:=s1) (s':=ay ops s L) (o:=oj) hreads
    have hfv' : (ay ops s L).get fv = .d (.v (.func (.func g) #[] #[])):=by rw [hget fv (by simp [hjo,Op.operands,Call.operands,hcl]),hfv]
    have hds' : eF V.toD (cl.args.toList.map (ay ops s L).get)=some ds:=by
     rw [← hds,← has]
     congr 1
     refine List.map_congr_left fun x hx=>hget x ?_
     simp [hjo,Op.operands,Call.operands,hcl]
     first | exact .inr hx | exact .inr (by simpa using hx) | simpa using hx
    have hstL:(ay ops s L).strip (t::p)=ay ops s L:=Em hst0 (fun y hy=>hv_strip y (hL y hy).1)
    have hev9:bG P (lN P) p ops [oj] (ay ops s L) (fun s2=>s2=stM ops s t (t::p) sz xs 1 L):=by
     simp only [bG,hjd,hjg,aP,hjo,hcl,hfv',Option.getD_some]
     refine ⟨by rw [c2,← hsn];exact htn0,hcal,hmk [] _ _ (t::p) _ hds' ?_⟩
     rw [zT hstL]
     refine ⟨fun d hd=>?_,?_⟩
     ·cases hd
      show t<(ay ops s L).n
      rw [c2,← hsn];exact htn0
     ·simp only [stM,Sa.put,Sa.made,c6,bM L]
    rw [← hrd3]
    refine iG hj hR2 ?_ hev9
    rintro m4 s4 a4 w4 rfl hR4 hst4 hrd4 hds4
    rw [hrd3]
    refine ih 1 L todo _ m4 _ a4 w4 (by omega) (by omega) htn htl hL hL' (Like.refl _) hR4 (hst3.trans hst4) (hrd4.trans hrd3) (hds4.trans hdd) (fun q hq x hx=>?_) ?_
    ·have hkeep:∀ x,(x∈done∨(x∈l∧x ∉ todo)∨(x=r∧1≤0))→x∈done∨(x∈l∧x ∉ todo)∨(x=r∧1≤1):=fun x h=>h.imp id fun h=>h.imp id fun h=>⟨h.1,by omega⟩
     rcases hq with h | h
     ·exact hkeep x (hclo q (.inl h) x hx)
     ·have hx' : x∈aft oj:=by rw [h.1] at hx;simpa [jH,hj] using hx
      exact hkeep x (hlD x (haft x hx'))
    refine (hlisted.set r).congr fun q=>?_
    constructor
    ·rintro ((h | h | h) | h)
     ·exact .inl h
     ·exact .inr (.inl h)
     ·omega
     ·exact .inr (.inr ⟨h,by omega⟩)
    ·rintro (h | h | h)
     ·exact .inl (.inl h)
     ·exact .inl (.inr (.inl h))
     ·exact .inr h.1
end Go.Ab
