import Derived.Test.YtleeccmcgophfaaGreatPC
set_option linter.all false
namespace Go.Ab
open Go Go.RowKit
variable {P:Program} {w:World} {n:Nat} {Mo:Cells} {m:Mp} {s:Sa} {p:Name} {k:Sa → Prop}
def PCall (P:Program) (g:FuncId) (args:List V) (s:Sa) (k:V → Sa → Prop) : Prop:=∃ ds rs,toDs V.toD args=some ds ∧ PureOK P g ds rs ∧ k (mkRes (rs.map .d)) s
theorem PCall_pure {f:FuncId} {args:List V} {ds rs:List D} {k:V → Sa → Prop} (h:PureOK P f ds rs) (hd:toDs V.toD args=some ds) (hk:k (mkRes (rs.map .d)) s) : PCall P f args s k:=⟨ds,rs,hd,h,hk⟩
def semsP (P:Program) : Sems:={ call:=fun _ g args s k=>PCall P g args s k,yld:=fun _ _ _ _ _=>False,code:=fun _ _ _ _=>False }
def calm:Op → Bool
 | .move _ | .assign _ | .pick _ _ _ | .load _ _ | .fieldAddr _ _ _ | .field _ _ _ | .index _ _ _ | .indexAddr _ _ _ | .binOp _ _ _ _ _ | .unOp _ _ _ | .convert _ _ _ | .build _ _ | .slice _ _ _ _ none | .extract _ _ | .nilCheck _=>true
 | .buildSlice _ l _=>l != 0
 | .call c=>match c.callee with | .builtin .len=>true | .builtin .max=>true | .builtin .min=>true | .value _=>true | _=>false
 | .makeFunc (.func _) f _=>f.isEmpty
 | .lookup _ _ _ _=>true
 | _=>false
theorem binV_ex {t:TypeId} {op:BinOp} {x y:Value} {k:V → Prop} (h:binV P t op x y k) : ∃ v,k v ∧ ∀ k' : V → Prop,k' v → binV P t op x y k':=by
 unfold binV at h ⊢
 split at h
 ·cases op <;> simp only at h ⊢ <;> first
   | exact ⟨_,h.2,fun k' hk=>⟨h.1,hk⟩⟩
   | exact ⟨_,h.2.2,fun k' hk=>⟨h.1,h.2.1,hk⟩⟩
   | (simp only [cmpInt,arith] at h ⊢; exact ⟨_,h.2,fun k' hk=>⟨h.1,hk⟩⟩)
   | (simp only [cmpInt,arith] at h ⊢; exact h.2.elim)
 ·cases op <;> simp only at h ⊢ <;> first
   | exact ⟨_,h.2,fun k' hk=>⟨h.1,hk⟩⟩
   | exact h.2.elim
 ·cases op <;> simp only at h ⊢ <;> first
   | exact ⟨_,h,fun k' hk=>hk⟩
   | exact h.elim
 ·exact h.elim
theorem unV_ex {op:UnOp} {x:Value} {k:V → Prop} (h:unV op x k) : ∃ v,k v ∧ ∀ k' : V → Prop,k' v → unV op x k':=by
 unfold unV at h ⊢
 split at h
 ·exact ⟨_,h,fun k' hk=>hk⟩
 ·exact ⟨_,h,fun k' hk=>hk⟩
 ·exact h.elim
def V.notNil:V → Bool
 | .nil=>false
 | _=>true
def nilOK (s:Sa) : Op → Bool
 | .binOp _ _ _ y _=>(s.get y).notNil
 | .assign x=>(s.get x).notNil
 | _=>true
def BxExt (s s' : Sa) : Prop:=(∀ nm c,lookN nm s.bx=some c → lookN nm s'.bx=some c) ∧ ∀ nm c,lookN nm s.vc=some c → lookN nm s'.vc=some c
theorem BxExt.of_eq {s s' : Sa} (h:s'.bx=s.bx) (h' : s'.vc=s.vc) : BxExt s s':=⟨fun nm c hc=>by rw [h]; exact hc,fun nm c hc=>by rw [h']; exact hc⟩
theorem claim_notNil {s:Sa} {i:Name} {sz:Option Nat} {v:V} (h:v.notNil=true) : s.claim i sz v=(v,s):=by
 unfold Sa.claim
 split
 ·simp [V.notNil] at h
 ·rfl
theorem calm_congr {o:Oper} (hc:calm o.op=true) (hnil:nilOK s o.op=true) (h:evOp P (semsP P) p o s k) : ∃ v,k (s.put o.dst v) ∧
  ∀ s' : Sa,BxExt s s' → s'.n=s.n → (∀ x ∈ o.op.operands,s'.get x=s.get x) → ∀ k' : Sa → Prop,k' (s'.put o.dst v) → evOp P (semsP P) p o s' k':=by
 cases hop:o.op with
 | move x =>
  simp only [evOp,hop] at h ⊢
  exact ⟨_,h,fun s' hb hn hg k' hk=>by rw [hg x (by simp [Op.operands])]; exact hk⟩
 | assign x =>
  simp only [nilOK,hop] at hnil
  simp only [evOp,hop] at h ⊢
  rw [claim_notNil hnil] at h
  exact ⟨_,h,fun s' hb hn hg k' hk=>by
   have e:=hg x (by simp [Op.operands])
   rw [claim_notNil (by rw [e]; exact hnil),e]; exact hk⟩
 | pick c x y =>
  simp only [evOp,hop] at h ⊢
  split at h
  ·rename_i t hct
   cases t with
   | true=>exact ⟨_,h.1 rfl,fun s' hb hn hg k' hk=>by
     rw [hg c (by simp [Op.operands]),hct,hg x (by simp [Op.operands])]; exact ⟨fun _=>hk,fun e=>(by cases e)⟩⟩
   | false=>exact ⟨_,h.2 rfl,fun s' hb hn hg k' hk=>by
     rw [hg c (by simp [Op.operands]),hct,hg y (by simp [Op.operands])]; exact ⟨fun e=>(by cases e),fun _=>hk⟩⟩
  ·exact h.elim
 | load t x =>
  simp only [evOp,hop] at h ⊢
  split at h
  ·rename_i ag hag
   obtain ⟨h0,h⟩:=h
   split at h
   ·rename_i nm off hx
    split at h
    ·rename_i c hcb
     exact ⟨_,h.2,fun s' hb hn hg k' hk=>by simp only [hag,hg x (by simp [Op.operands]),hx,hb.1 _ _ hcb]; exact ⟨h0,h.1,hk⟩⟩
    ·exact h.elim
   ·rename_i cs hx
    exact ⟨_,h.2,fun s' hb hn hg k' hk=>by simp only [hag,hg x (by simp [Op.operands]),hx]; exact ⟨h0,h.1,hk⟩⟩
   ·rename_i nm off hx
    split at h
    ·rename_i c hcb
     exact ⟨_,h.2,fun s' hb hn hg k' hk=>by simp only [hag,hg x (by simp [Op.operands]),hx,hb.2 _ _ hcb]; exact ⟨h0,h.1,hk⟩⟩
    ·exact h.elim
   ·exact h.elim
  ·exact h.elim
 | fieldAddr t x i =>
  simp only [evOp,hop] at h ⊢
  split at h
  ·rename_i off ft hf
   obtain ⟨h0,h⟩:=h
   split at h
   ·rename_i nm o' hx
    exact ⟨_,h,fun s' hb hn hg k' hk=>by simp only [hf,hg x (by simp [Op.operands]),hx]; exact ⟨h0,hk⟩⟩
   ·rename_i cs hx
    exact ⟨_,h,fun s' hb hn hg k' hk=>by simp only [hf,hg x (by simp [Op.operands]),hx]; exact ⟨h0,hk⟩⟩
   ·rename_i nm o' hx
    exact ⟨_,h,fun s' hb hn hg k' hk=>by simp only [hf,hg x (by simp [Op.operands]),hx]; exact ⟨h0,hk⟩⟩
   ·exact h.elim
  ·exact h.elim
 | field t x i =>
  simp only [evOp,hop] at h ⊢
  split at h
  ·rename_i off ft hf
   split at h
   ·rename_i ag hag
    exact ⟨_,h.2.2.2,fun s' hb hn hg k' hk=>by simp only [hf,hag,hg x (by simp [Op.operands])]; exact ⟨h.1,h.2.1,h.2.2.1,hk⟩⟩
   ·exact h.elim
  ·exact h.elim
 | index t x ix =>
  simp only [evOp,hop] at h ⊢
  split at h
  ·rename_i i hi
   split at h
   ·rename_i nn e hne
    split at h
    ·rename_i ag hag
     exact ⟨_,h.2.2.2.2.2,fun s' hb hn hg k' hk=>by simp only [hg x (by simp [Op.operands]),hg ix (by simp [Op.operands]),hi,hne,hag]; exact ⟨h.1,h.2.1,h.2.2.1,h.2.2.2.1,h.2.2.2.2.1,hk⟩⟩
    ·exact h.elim
   ·exact h.elim
  ·exact h.elim
 | indexAddr t x ix =>
  simp only [evOp,hop] at h ⊢
  split at h
  ·rename_i i hi
   split at h
   ·rename_i e he
    split at h
    ·rename_i xs hxs
     obtain ⟨h1,h2,h3,h4⟩:=h
     have hlt:i.toNat < xs.length:=by omega
     obtain ⟨h5,h6⟩:=h4 _ (List.getElem?_eq_getElem hlt)
     refine ⟨_,h6,fun s' hb hn hg k' hk=>?_⟩
     simp only [hg x (by simp [Op.operands]),hg ix (by simp [Op.operands]),hi,he,hxs]
     refine ⟨h1,h2,h3,fun x hx=>?_⟩
     rw [List.getElem?_eq_getElem hlt] at hx
     cases hx
     exact ⟨h5,hk⟩
    ·rename_i hxs
     split at h
     ·rename_i nm hx
      split at h
      ·rename_i c hc'
       obtain ⟨h1,h2,h3,h4,h5⟩:=h
       refine ⟨_,h5,fun s' hb hn hg k' hk=>?_⟩
       simp only [hg x (by simp [Op.operands]),hg ix (by simp [Op.operands]),hi,he,hxs,hx,hb.2 _ _ hc']
       exact ⟨h1,h2,h3,h4,hk⟩
      ·exact h.elim
     ·exact h.elim
   ·rename_i he
    split at h
    ·rename_i nn e hne
     obtain ⟨h1,h2,h3,h4,h⟩:=h
     split at h
     ·rename_i b o' hx
      exact ⟨_,h,fun s' hb hn hg k' hk=>by simp only [hg x (by simp [Op.operands]),hg ix (by simp [Op.operands]),hi,he,hne,hx]; exact ⟨h1,h2,h3,h4,hk⟩⟩
     ·rename_i cs hx
      exact ⟨_,h,fun s' hb hn hg k' hk=>by simp only [hg x (by simp [Op.operands]),hg ix (by simp [Op.operands]),hi,he,hne,hx]; exact ⟨h1,h2,h3,h4,hk⟩⟩
     ·rename_i b o' hx
      exact ⟨_,h,fun s' hb hn hg k' hk=>by simp only [hg x (by simp [Op.operands]),hg ix (by simp [Op.operands]),hi,he,hne,hx]; exact ⟨h1,h2,h3,h4,hk⟩⟩
     ·exact h.elim
    ·exact h.elim
  ·exact h.elim
 | binOp op t x y u =>
  simp only [evOp,hop] at h ⊢
  split at h
  ·rename_i b hb
   split at h
   ·rename_i a ha
    obtain ⟨v,hv,hk⟩:=binV_ex h
    exact ⟨v,hv,fun s' hb' hn hg k' hk'=>by simp only [hg x (by simp [Op.operands]),hg y (by simp [Op.operands]),ha,hb]; exact hk (fun v=>k' (s'.put o.dst v)) hk'⟩
   ·exact h.elim
  ·rename_i ys hys
   split at h
   ·rename_i xs hxs
    split at h
    ·rename_i ks hks
     split at h
     ·rename_i r hr
      split at h
      ·exact ⟨_,h,fun s' hb' hn hg k' hk'=>by simp only [hg x (by simp [Op.operands]),hg y (by simp [Op.operands]),hxs,hys,hks,hr]; exact hk'⟩
      ·exact ⟨_,h,fun s' hb' hn hg k' hk'=>by simp only [hg x (by simp [Op.operands]),hg y (by simp [Op.operands]),hxs,hys,hks,hr]; exact hk'⟩
      ·exact h.elim
     ·exact h.elim
    ·exact h.elim
   ·exact h.elim
  ·rename_i hy
   simp [hop,nilOK,hy,V.notNil] at hnil
  ·exact h.elim
 | unOp op t x =>
  simp only [evOp,hop] at h ⊢
  split at h
  ·rename_i a ha
   obtain ⟨v,hv,hk⟩:=unV_ex h
   exact ⟨v,hv,fun s' hb' hn hg k' hk'=>by simp only [hg x (by simp [Op.operands]),ha]; exact hk (fun v=>k' (s'.put o.dst v)) hk'⟩
  ·exact h.elim
 | convert t u x =>
  simp only [evOp,hop] at h ⊢
  split at h
  ·rename_i kd q c hu hx
   exact ⟨_,h.2,fun s' hb' hn hg k' hk'=>by simp only [hg x (by simp [Op.operands]),hu,hx]; exact ⟨h.1,hk'⟩⟩
  ·exact h.elim
 | build t ps =>
  simp only [evOp,hop] at h ⊢
  obtain ⟨h1,h2,h⟩:=h
  split at h
  ·rename_i cs hcs
   refine ⟨_,h,fun s' hb' hn hg k' hk'=>?_⟩
   have e:(ps.toList.map fun x=>(x.1,s'.get x.2))=ps.toList.map fun x=>(x.1,s.get x.2):=List.map_congr_left fun x hx=>by
    rw [hg x.2 (by simp only [Op.operands,List.mem_toArray,List.mem_map]; exact ⟨x,hx,rfl⟩)]
   simp only [e,hcs]
   exact ⟨h1,h2,hk'⟩
  ·exact h.elim
 | buildSlice t l ps =>
  have hl:l ≠ 0:=by simpa [calm,hop] using hc
  simp only [evOp,hop] at h ⊢
  split at h
  ·rename_i e he
   obtain ⟨h1,h2,h3,h4,h⟩:=h
   split at h
   ·rename_i xs hxs
    rw [if_neg hl] at h
    refine ⟨_,h.2,fun s' hb' hn hg k' hk'=>?_⟩
    have e' : (ps.toList.map fun x=>s'.get x.2)=ps.toList.map fun x=>s.get x.2:=List.map_congr_left fun x hx=>by
     rw [hg x.2 (by simp only [Op.operands,List.mem_toArray,List.mem_map]; exact ⟨x,hx,rfl⟩)]
    simp only [he,e',hxs,if_neg hl]
    exact ⟨h1,h2,h3,h4,h.1,hk'⟩
   ·exact h.elim
  ·exact h.elim
 | slice t x lo hi mx =>
  cases mx with
  | some y=>simp [calm,hop] at hc
  | none =>
   cases lo with
   | none =>
    cases hi with
    | none =>
     simp only [evOp,hop] at h ⊢
     split at h
     ·rename_i e xs l he hxs hl
      exact ⟨_,h.2.2.2.2.2,fun s' hb' hn hg k' hk'=>by simp only [hg x (by simp [Op.operands]),he,hxs,hl]; exact ⟨h.1,h.2.1,h.2.2.1,h.2.2.2.1,h.2.2.2.2.1,hk'⟩⟩
     ·exact h.elim
    | some hi =>
     simp only [evOp,hop] at h ⊢
     split at h
     ·rename_i e xs l he hxs hl
      split at h
      ·rename_i hh hhi
       exact ⟨_,h.2.2.2.2.2,fun s' hb' hn hg k' hk'=>by simp only [hg x (by simp [Op.operands]),hg hi (by simp [Op.operands]),he,hxs,hl,hhi]; exact ⟨h.1,h.2.1,h.2.2.1,h.2.2.2.1,h.2.2.2.2.1,hk'⟩⟩
      ·exact h.elim
     ·exact h.elim
   | some lo =>
    cases hi with
    | none =>
     simp only [evOp,hop] at h ⊢
     split at h
     ·rename_i e xs l he hxs hl
      exact ⟨_,h.2.2.2.2.2,fun s' hb' hn hg k' hk'=>by simp only [hg x (by simp [Op.operands]),hg lo (by simp [Op.operands]),he,hxs,hl]; exact ⟨h.1,h.2.1,h.2.2.1,h.2.2.2.1,h.2.2.2.2.1,hk'⟩⟩
     ·exact h.elim
    | some hi =>
     simp only [evOp,hop] at h ⊢
     split at h
     ·rename_i e xs l he hxs hl
      split at h
      ·rename_i hh hhi
       exact ⟨_,h.2.2.2.2.2,fun s' hb' hn hg k' hk'=>by simp only [hg x (by simp [Op.operands]),hg lo (by simp [Op.operands]),hg hi (by simp [Op.operands]),he,hxs,hl,hhi]; exact ⟨h.1,h.2.1,h.2.2.1,h.2.2.2.1,h.2.2.2.2.1,hk'⟩⟩
      ·exact h.elim
     ·exact h.elim
 | extract x i =>
  simp only [evOp,hop] at h ⊢
  split at h
  ·rename_i vs hx
   split at h
   ·rename_i v hv
    exact ⟨_,h,fun s' hb' hn hg k' hk'=>by simp only [hg x (by simp [Op.operands]),hx,hv]; exact hk'⟩
   ·exact h.elim
  ·exact h.elim
 | nilCheck x =>
  simp only [evOp,hop] at h ⊢
  split at h
  ·rename_i nm off hx
   exact ⟨_,h,fun s' hb' hn hg k' hk'=>by simp only [hg x (by simp [Op.operands]),hx]; exact hk'⟩
  ·rename_i cs hx
   exact ⟨_,h,fun s' hb' hn hg k' hk'=>by simp only [hg x (by simp [Op.operands]),hx]; exact hk'⟩
  ·rename_i nm off hx
   exact ⟨_,h,fun s' hb' hn hg k' hk'=>by simp only [hg x (by simp [Op.operands]),hx]; exact hk'⟩
  ·exact h.elim
 | makeFunc fn fi cp =>
  cases fn with
  | func f =>
   simp only [evOp,hop] at h ⊢
   refine ⟨_,h.2,fun s' hb hn hg k' hk=>⟨h.1,?_⟩⟩
   have e' : (cp.toList.map fun x=>s'.get x)=cp.toList.map fun x=>s.get x:=List.map_congr_left fun x hx=>by
    rw [hg x (by simp only [Op.operands,Array.mem_append]; exact .inr (by simpa using hx))]
   rw [show cp.toList.map s'.get=cp.toList.map s.get from e']; exact hk
  | _=>simp [calm,hop] at hc
 | lookup t x ix ok =>
  simp only [evOp,hop] at h ⊢
  split at h
  ·rename_i kd et nm hk1 hk2 hx
   split at h
   ·rename_i kd' kvs hb0
    obtain ⟨e1,h⟩:=h
    split at h
    ·rename_i kd2 a hix
     exact ⟨_,h.2.2,fun s' hb hn hg k' hk=>by simp only [hk1,hk2,hg x (by simp [Op.operands]),hx,hb.1 _ _ hb0,hg ix (by simp [Op.operands]),hix]; exact ⟨e1,h.1,h.2.1,hk⟩⟩
    ·exact h.elim
   ·exact h.elim
  ·exact h.elim
 | call c =>
  have eargs:∀ s' : Sa,(∀ z ∈ (Op.call c).operands,s'.get z=s.get z) → c.args.toList.map s'.get=c.args.toList.map s.get:=fun s' hg =>
   List.map_congr_left fun x hx=>hg x (by simp only [Op.operands,Call.operands]; simp; exact .inr (by simpa using hx))
  cases hcc:c.callee with
  | value f =>
   simp only [evOp,hop,hcc] at h ⊢
   have hf:∀ s' : Sa,(∀ z ∈ (Op.call c).operands,s'.get z=s.get z) → s'.get f=s.get f:=fun s' hg=>hg f (by simp only [Op.operands,Call.operands,hcc]; simp)
   split at h
   ·rename_i g x y hg'
    obtain ⟨h1,ds,rs,h2,h3,h4,h5⟩:=h
    exact ⟨_,h5,fun s' hb' hn hg k' hk'=>by simp only [hf s' hg,hg',eargs s' hg]; exact ⟨h1,ds,rs,h2,h3,fun d hd=>by rw [hn]; exact h4 d hd,hk'⟩⟩
   ·rename_i g cap hg'
    obtain ⟨h1,ds,rs,h2,h3,h4,h5⟩:=h
    exact ⟨_,h5,fun s' hb' hn hg k' hk'=>by simp only [hf s' hg,hg',eargs s' hg]; exact ⟨h1,ds,rs,h2,h3,fun d hd=>by rw [hn]; exact h4 d hd,hk'⟩⟩
   ·exact h.elim
   ·exact h.elim
  | invoke r nm=>simp [evOp,hop,hcc] at h
  | builtin b =>
   cases b with
   | len =>
    simp only [evOp,hop,hcc] at h ⊢
    split at h
    ·rename_i x t ts ha ht
     split at h
     ·rename_i e xs he hxs
      exact ⟨_,h,fun s' hb' hn hg k' hk'=>by rw [eargs s' hg]; simp only [ha,ht,he,hxs]; exact hk'⟩
     ·rename_i hno
      split at h
      ·rename_i b hu
       have hno' : telem P t=none:=by unfold telem; rw [hu]
       refine ⟨_,h,fun s' hb' hn hg k' hk'=>?_⟩
       rw [eargs s' hg]
       simp only [ha,ht,hu,hno']
       exact hk'
      ·rename_i nn e z hu
       have hno' : telem P t=none:=by unfold telem; rw [hu]
       refine ⟨_,h.2,fun s' hb' hn hg k' hk'=>?_⟩
       rw [eargs s' hg]
       simp only [ha,ht,hu,hno']
       exact ⟨h.1,hk'⟩
      ·rename_i nm _ _
       split at h
       ·rename_i e c he hvc
        refine ⟨_,h,fun s' hb' hn hg k' hk'=>?_⟩
        rw [eargs s' hg]
        have hu:P.underlying t=some (.slice e):=telem_inv he
        simp only [ha,ht,he,sliceOf,hu,hb'.2 _ _ hvc]
        exact hk'
       ·exact h.elim
      ·exact h.elim
    ·exact h.elim
   | max =>
    simp only [evOp,hop,hcc] at h ⊢
    split at h
    ·rename_i q a q2 b ha
     exact ⟨_,h.2,fun s' hb' hn hg k' hk'=>by rw [eargs s' hg]; simp only [ha]; exact ⟨h.1,hk'⟩⟩
    ·exact h.elim
   | min =>
    simp only [evOp,hop,hcc] at h ⊢
    split at h
    ·rename_i q a q2 b ha
     exact ⟨_,h.2,fun s' hb' hn hg k' hk'=>by rw [eargs s' hg]; simp only [ha]; exact ⟨h.1,hk'⟩⟩
    ·exact h.elim
   | _=>simp [calm,hop,hcc] at hc
 | _=>simp [calm,hop] at hc
end Go.Ab
namespace Go.Ab
open Go Go.RowKit
variable {P:Program} {a:Act} {w:World} {n:Nat} {Mo:Cells} {m:Mp} {s:Sa} {p:Name} {k:Sa → Prop} {Q:Exit → Act → World → Prop} {sv:List Act} {ops:Array Oper}
theorem evOp_semsP {o:Oper} (h:evOp P (semsP P) p o s k) : evOp P (sems P) p o s k:=by
 cases hop:o.op with
 | call c =>
  cases hcc:c.callee with
  | value f =>
   simp only [evOp,hop,hcc] at h ⊢
   split at h
   ·obtain ⟨h1,ds,rs,h2,h3,h4⟩:=h
    exact ⟨h1,TCall_pure (p:=[]) h3 h2 h4⟩
   ·obtain ⟨h1,ds,rs,h2,h3,h4⟩:=h
    exact ⟨h1,TCall_pure (p:=[]) h3 h2 h4⟩
   ·exact h.elim
   ·exact h.elim
  | invoke r nm=>simp [evOp,hop,hcc] at h
  | builtin b =>
   cases b with
   | len=>simpa only [evOp,hop,hcc] using h
   | append=>simpa only [evOp,hop,hcc] using h
   | max=>simpa only [evOp,hop,hcc] using h
   | min=>simpa only [evOp,hop,hcc] using h
   | _=>simp [evOp,hop,hcc] at h
 | makeFunc fn fi ca=>cases fn with
  | func f=>simpa only [evOp,hop] using h
  | _=>simp [evOp,hop] at h
 | makeMap t r=>cases r with
  | none=>simpa only [evOp,hop] using h
  | some y=>simp [evOp,hop] at h
 | slice t x lo hi mx=>cases mx with
  | none=>simpa only [evOp,hop] using h
  | some y=>simp [evOp,hop] at h
 | _=>first | (simpa only [evOp,hop] using h) | (simp [evOp,hop] at h; done)
theorem op1_sound {i:Nat} {o:Oper} {K:Act → World → Prop} (hi:ops[i]? = some o) (hR:Rel Mo m s (a :: sv) w)
  (hN:∀ m' s' a' w',k s' → Rel Mo m' s' (a' :: sv) w' → Step m s w m' s' w' → rdOf m' s' = rdOf m s → a'.defers=a.defers → K a' w')
  (h:evOps P (sems P) p ops [o] s k) : wpOpIn (Wd (rdOf m s)) n P ops Q i K a w:=by
 simp only [evOps] at h
 obtain ⟨hd0,h⟩:=h
 have hd:∀ (n' : Nat),n' = s.n → ∀ d,o.dst=some d → d < n':=fun n' e d hd=>by rw [hd] at hd0; rw [e]; exact hd0
 unfold wpOpIn
 simp only [hi]
 have run:∀ (s1:Sa),Rel Mo m s1 (a :: sv) w → s1.n=s.n → Step m s w m s1 w → rdOf m s1=rdOf m s → evOp P (sems P) p o s1 k →
   o.wpIn (Wd (rdOf m s)) n P a w K Q:=by
  intro s1 hR1 hn1 hs1 hr1 h1
  rw [← hr1]
  exact evOp_sound hR1 (hd _ hn1) (fun m' s' v w' hk hR' hs' hr'=>hN m' s' _ w' hk hR' (hs1.trans hs') (hr'.trans hr1) put_defers) h1
 have skip:∀ (s1:Sa),Rel Mo m s1 (a :: sv) w → s1.n=s.n → Step m s w m s1 w → rdOf m s1=rdOf m s → k (s1.put o.dst (.tup [])) →
   (∀ f,o.about P w a.eval=some f → (Wd (rdOf m s)).fn f) ∧ K (a.put o.dst undef) w:=by
  intro s1 hR1 hn1 hs1 hr1 h1
  refine ⟨fun _ _=>trivial,?_⟩
  have hR2:=hR1.put (dst:=o.dst) (hd _ hn1) (rep_undef (w:=w) (M:=Tot Mo s1.bx s1.ow m) (m:=m))
  exact hN m _ _ w h1 hR2 (step_put hs1) (by rw [rdOf_put]; exact hr1) put_defers
 split at h
 ·rename_i hg
  have hw:Region.wanted o (yielded ops a.tmps)=true:=by simp [Region.wanted,hg]
  rw [if_pos hw]
  exact run s hR rfl (Step.refl _ _ _) rfl h
 ·rename_i j want hg
  split at h
  ·rename_i t hjt
   split at h
   ·rename_i b hb
    have hv:=hR.get t
    rw [hb] at hv
    have hy:=yielded_bool hjt hv.val.1
    have hw:Region.wanted o (yielded ops a.tmps)=(some b == some want):=by simp [Region.wanted,hg,hy]
    have hRl:=hR.literal hb
    have hst:Step m s w m (s.put (some t) (.d (.v (.bool b)))) w:=step_put (Step.refl _ _ _)
    cases b with
    | true =>
     have h:=h.1 rfl
     cases want with
     | true=>rw [if_pos (by rw [hw]; rfl)]; exact run _ hRl (by rfl) hst (by rfl) h
     | false=>rw [if_neg (by rw [hw]; simp)]; exact skip _ hRl (by rfl) hst (by rfl) h
    | false =>
     have h:=h.2 rfl
     cases want with
     | true=>rw [if_neg (by rw [hw]; simp)]; exact skip _ hRl (by rfl) hst (by rfl) h
     | false=>rw [if_pos (by rw [hw]; rfl)]; exact run _ hRl (by rfl) hst (by rfl) h
   ·rename_i hb
    have hv:=hR.get t
    rw [hb] at hv
    obtain ⟨cs,e,hs,_⟩:=hv.tup_inv
    have hcs:cs = #[]:=by simpa using hs
    subst hcs
    have hy:=yielded_undef hjt e
    rw [if_neg (by simp [Region.wanted,hg,hy])]
    exact skip s hR rfl (Step.refl _ _ _) rfl h
   ·exact h.elim
  ·exact h.elim
structure Like (s s' : Sa) : Prop where
 rd:s.rd=s'.rd
 n:s.n=s'.n
 sv:s.sv=s'.sv
 bx:s.bx=s'.bx
 lp:s.lp=s'.lp
 ow:s.ow=s'.ow
 ts:∀ t,lkT t s.ts=lkT t s'.ts
 vc:s.vc=s'.vc
theorem Like.refl (s:Sa) : Like s s:=⟨rfl,rfl,rfl,rfl,rfl,rfl,fun _=>rfl,rfl⟩
theorem Like.trans {s s' s'' : Sa} (h:Like s s') (h' : Like s' s'') : Like s s'':=⟨h.rd.trans h'.rd,h.n.trans h'.n,h.sv.trans h'.sv,h.bx.trans h'.bx,h.lp.trans h'.lp,h.ow.trans h'.ow,fun t=>(h.ts t).trans (h'.ts t),h.vc.trans h'.vc⟩
theorem Like.symm {s s' : Sa} (h:Like s s') : Like s' s:=⟨h.rd.symm,h.n.symm,h.sv.symm,h.bx.symm,h.lp.symm,h.ow.symm,fun t=>(h.ts t).symm,h.vc.symm⟩
theorem lkT_setT' (t u:Nat) (v:V) (l:List (Nat × V)) : lkT t (setT u v l)=if u=t then v else lkT t l:=by
 induction l with
 | nil=>simp [setT,lkT]
 | cons x l ih =>
  obtain ⟨y,z⟩:=x
  simp only [setT]
  split
  ·rename_i e; subst e; simp only [lkT]; split <;> rfl
  ·rename_i e
   simp only [lkT,ih]
   split
   ·rename_i e2; subst e2; rw [if_neg (by intro e3; exact e e3.symm)]
   ·rfl
theorem Like.put {s s' : Sa} (h:Like s s') (d:Option Tmp) (v:V) : Like (s.put d v) (s'.put d v):=by
 cases d with
 | none=>exact h
 | some d=>exact ⟨h.rd,h.n,h.sv,h.bx,h.lp,h.ow,fun t=>by simp only [Sa.put,lkT_setT',h.ts t],h.vc⟩
theorem Like.literal {t:Nat} {v:V} (h:lkT t s.ts=v) : Like (s.put (some t) v) s:=⟨rfl,rfl,rfl,rfl,rfl,rfl,fun u=>by
 simp only [Sa.put,lkT_setT']; split
 ·rename_i e; subst e; exact h.symm
 ·rfl,rfl⟩
theorem Like.wk {s s' : Sa} (h:Like s s') : Wk s s':=Wk.of h.rd.symm h.n.symm h.lp.symm (fun t=>.inl (h.ts t).symm) h.sv.symm (fun nm c hc=>by rw [h.bx]; exact hc) (fun i hi=>by rw [h.ow]; exact hi) (fun n c hn=>⟨by rw [h.vc]; exact hn,fun hi=>by rw [← h.ow]; exact hi⟩)
end Go.Ab
namespace Go.Ab
open Go Go.RowKit
variable {P:Program} {a:Act} {w:World} {n:Nat} {Mo:Cells} {m:Mp} {s:Sa} {p:Name} {k:Sa → Prop} {Q:Exit → Act → World → Prop} {sv:List Act} {ops:Array Oper}
def aft (o:Oper) : List Nat:=(o.after.toList.filter (fun e=>Region.binds .any e)).map (fun e=>e.on)
def tmpOf:Operand → Option Nat | .tmp t=>some t | _=>none
def opReads (ops:Array Oper) (o:Oper) : List Nat:=o.op.operands.toList.filterMap tmpOf ++ (match o.guard with | some (j,_)=>((ops[j]?).bind (·.dst)).toList | none=>[])
def dstOf (ops:Array Oper) (i:Nat) : Option Nat:=(ops[i]?).bind (·.dst)
theorem dstOf_eq {i:Nat} {o:Oper} (h:ops[i]? = some o) : dstOf ops i=o.dst:=by simp [dstOf,h]
def evSeg (P:Program) (p:Name) (ops:Array Oper) : List Nat → Sa → (Sa → Prop) → Prop
 | [],s,k=>k s
 | i :: rest,s,k=>match ops[i]? with
  | some o=>nilOK s o.op=true ∧ evOps P (semsP P) p ops [o] s fun s'=>evSeg P p ops rest s' k
  | none=>False
theorem BxExt.like {s s1 s' : Sa} (h:BxExt s s') (hl:Like s1 s) : BxExt s1 s':=⟨fun nm c hc=>h.1 nm c (by rw [← hl.bx]; exact hc),fun nm c hc=>h.2 nm c (by rw [← hl.vc]; exact hc)⟩
theorem BxExt.liker {s s1 s' : Sa} (h:BxExt s s') (hl:Like s1 s') : BxExt s s1:=⟨fun nm c hc=>by rw [hl.bx]; exact h.1 nm c hc,fun nm c hc=>by rw [hl.vc]; exact h.2 nm c hc⟩
def OpFact (P:Program) (p:Name) (ops:Array Oper) (i:Nat) (v:V) (s:Sa) : Prop :=
 ∃ o,ops[i]? = some o ∧ ∀ s' : Sa,BxExt s s' → s'.n=s.n → (∀ t ∈ opReads ops o,lkT t s'.ts=lkT t s.ts) →
  ∀ k' : Sa → Prop,(∀ s1,Like s1 s' → k' (s1.put o.dst v)) → evOps P (sems P) p ops [o] s' k'
theorem OpFact.like {i:Nat} {v:V} {s s1:Sa} (h:OpFact P p ops i v s) (hl:Like s1 s) : OpFact P p ops i v s1:=by
 obtain ⟨o,ho,h⟩:=h
 exact ⟨o,ho,fun s' hb hn ht k' hk=>h s' (hb.like hl.symm) (hn.trans hl.n) (fun t htm=>(ht t htm).trans (hl.ts t)) k' hk⟩
theorem reads_get {o:Oper} {s s' : Sa} (h:∀ t ∈ opReads ops o,lkT t s'.ts=lkT t s.ts) : ∀ x ∈ o.op.operands,s'.get x=s.get x:=by
 intro x hx
 cases x with
 | tmp t=>exact h t (List.mem_append_left _ (List.mem_filterMap.2 ⟨.tmp t,by simpa using hx,rfl⟩))
 | const v=>rfl
 | global g=>rfl
 | func g=>rfl
theorem evSeg_op {i:Nat} {o:Oper} (hi:ops[i]? = some o) (hc:calm o.op=true) (hn:nilOK s o.op=true) (h:evOps P (semsP P) p ops [o] s k) :
  ∃ v s1,Like s1 s ∧ k (s1.put o.dst v) ∧ OpFact P p ops i v s:=by
 simp only [evOps] at h
 obtain ⟨hd,h⟩:=h
 have run:∀ s1:Sa,Like s1 s → nilOK s1 o.op=true → evOp P (semsP P) p o s1 k → ∃ v,k (s1.put o.dst v) ∧ ∀ s2:Sa,BxExt s s2 → s2.n=s.n → (∀ t ∈ opReads ops o,lkT t s2.ts=lkT t s.ts) → ∀ k' : Sa → Prop,k' (s2.put o.dst v) → evOp P (sems P) p o s2 k':=by
  intro s1 hl hn1 h1
  obtain ⟨v,hv,hh⟩:=calm_congr hc hn1 h1
  refine ⟨v,hv,fun s2 hb hnn ht k' hk'=>evOp_semsP (hh s2 (hb.like hl) (hnn.trans hl.n.symm) (fun x hx=>?_) k' hk')⟩
  exact reads_get (ops:=ops) (fun t htm=>(ht t htm).trans (hl.ts t).symm) x hx
 have nil1:∀ s1:Sa,Like s1 s → nilOK s1 o.op=true:=by
  intro s1 hl
  have:∀ x,s1.get x=s.get x:=fun x=>by cases x <;> first | exact hl.ts _ | rfl
  cases hop:o.op <;> simp only [nilOK,hop] at hn ⊢ <;> (rw [this]; exact hn)
 split at h
 ·rename_i hg
  obtain ⟨v,hv,hh⟩:=run s (Like.refl s) hn h
  refine ⟨v,s,Like.refl s,hv,o,hi,fun s' hb hnn ht k' hk'=>?_⟩
  simp only [evOps,hg]
  exact ⟨by rw [hnn]; exact hd,hh s' hb hnn ht k' (hk' s' (Like.refl s'))⟩
 ·rename_i j want hg
  split at h
  ·rename_i t hjt
   have htr:t ∈ opReads ops o:=List.mem_append_right _ (by rw [hg]; simp only [hjt]; simp)
   split at h
   ·rename_i b hb
    cases b with
    | true =>
     have h:=h.1 rfl
     have hl:=Like.literal hb
     cases want with
     | true =>
      obtain ⟨v,hv,hh⟩:=run _ hl (nil1 _ hl) (by simpa using h)
      refine ⟨v,_,hl,hv,o,hi,fun s' hb' hnn ht k' hk'=>?_⟩
      have hb2:=(ht t htr).trans hb
      simp only [evOps,hg,hjt,hb2]
      refine ⟨by rw [hnn]; exact hd,⟨fun _=>?_,fun e=>(by cases e)⟩⟩
      have hl2:=Like.literal hb2
      simp only [if_true]
      exact hh _ (hb'.liker hl2) (hl2.n.trans hnn) (fun t' ht'=>(hl2.ts t').trans (ht t' ht')) k' (hk' _ hl2)
     | false =>
      refine ⟨.tup [],_,hl,by simpa using h,o,hi,fun s' hb' hnn ht k' hk'=>?_⟩
      have hb2:=(ht t htr).trans hb
      simp only [evOps,hg,hjt,hb2]
      refine ⟨by rw [hnn]; exact hd,⟨fun _=>?_,fun e=>(by cases e)⟩⟩
      simpa using hk' _ (Like.literal hb2)
    | false =>
     have h:=h.2 rfl
     have hl:=Like.literal hb
     cases want with
     | false =>
      obtain ⟨v,hv,hh⟩:=run _ hl (nil1 _ hl) (by simpa using h)
      refine ⟨v,_,hl,hv,o,hi,fun s' hb' hnn ht k' hk'=>?_⟩
      have hb2:=(ht t htr).trans hb
      simp only [evOps,hg,hjt,hb2]
      refine ⟨by rw [hnn]; exact hd,⟨fun e=>(by cases e),fun _=>?_⟩⟩
      have hl2:=Like.literal hb2
      simp only [Bool.false_eq_true,if_false]
      exact hh _ (hb'.liker hl2) (hl2.n.trans hnn) (fun t' ht'=>(hl2.ts t').trans (ht t' ht')) k' (hk' _ hl2)
     | true =>
      refine ⟨.tup [],_,hl,by simpa using h,o,hi,fun s' hb' hnn ht k' hk'=>?_⟩
      have hb2:=(ht t htr).trans hb
      simp only [evOps,hg,hjt,hb2]
      refine ⟨by rw [hnn]; exact hd,⟨fun e=>(by cases e),fun _=>?_⟩⟩
      simpa using hk' _ (Like.literal hb2)
   ·rename_i hb
    refine ⟨.tup [],s,Like.refl s,h,o,hi,fun s' hb' hnn ht k' hk'=>?_⟩
    have hb2:=(ht t htr).trans hb
    simp only [evOps,hg,hjt,hb2]
    exact ⟨by rw [hnn]; exact hd,hk' _ (Like.refl s')⟩
   ·exact h.elim
  ·exact h.elim
def putAll (ops:Array Oper) (s:Sa) (l:List (Nat × V)) : Sa:=l.foldl (fun s x=>s.put (dstOf ops x.1) x.2) s
theorem Like.putAll {s s' : Sa} (h:Like s s') (l:List (Nat × V)) : Like (putAll ops s l) (putAll ops s' l):=by
 induction l generalizing s s' with
 | nil=>exact h
 | cons x l ih=>exact ih (h.put _ _)
theorem putAll_append (l l' : List (Nat × V)) : putAll ops s (l ++ l')=putAll ops (putAll ops s l) l':=by simp [putAll]
theorem putAll_fields (l:List (Nat × V)) : (putAll ops s l).rd=s.rd ∧ (putAll ops s l).n=s.n ∧ (putAll ops s l).sv=s.sv ∧ (putAll ops s l).bx=s.bx ∧ (putAll ops s l).lp=s.lp ∧ (putAll ops s l).ow=s.ow:=by
 induction l generalizing s with
 | nil=>exact ⟨rfl,rfl,rfl,rfl,rfl,rfl⟩
 | cons x l ih =>
  have:=ih (s:=s.put (dstOf ops x.1) x.2)
  have e:∀ d v,(s.put d v).rd=s.rd ∧ (s.put d v).n=s.n ∧ (s.put d v).sv=s.sv ∧ (s.put d v).bx=s.bx ∧ (s.put d v).lp=s.lp ∧ (s.put d v).ow=s.ow:=fun d v=>by cases d <;> exact ⟨rfl,rfl,rfl,rfl,rfl,rfl⟩
  obtain ⟨e1,e2,e3,e4,e5,e6⟩:=e (dstOf ops x.1) x.2
  exact ⟨this.1.trans e1,this.2.1.trans e2,this.2.2.1.trans e3,this.2.2.2.1.trans e4,this.2.2.2.2.1.trans e5,this.2.2.2.2.2.trans e6⟩
theorem putAll_vc:∀ (l:List (Nat × V)) {s:Sa},(putAll ops s l).vc=s.vc
 | [],s=>rfl
 | x :: l,s=>by
  have e:(s.put (dstOf ops x.1) x.2).vc=s.vc:=by cases dstOf ops x.1 <;> rfl
  exact (putAll_vc l (s:=s.put (dstOf ops x.1) x.2)).trans e
theorem lk_not {t:Nat} {l:List (Nat × V)} (h:∀ x ∈ l,dstOf ops x.1 ≠ some t) : lkT t (putAll ops s l).ts=lkT t s.ts:=by
 induction l generalizing s with
 | nil=>rfl
 | cons x l ih =>
  have e:putAll ops s (x :: l)=putAll ops (s.put (dstOf ops x.1) x.2) l:=rfl
  rw [e,ih (fun y hy=>h y (List.mem_cons_of_mem _ hy))]
  have hx:=h x List.mem_cons_self
  cases hd:dstOf ops x.1 with
  | none=>rfl
  | some d=>rw [hd] at hx; simp only [Sa.put,lkT_setT']; rw [if_neg (fun e=>hx (by rw [e]))]
def Apart (ops:Array Oper) (l:List (Nat × V)) : Prop:=∀ x ∈ l,∀ y ∈ l,∀ t,dstOf ops x.1=some t → dstOf ops y.1=some t → x=y
theorem lk_mem {t:Nat} {l:List (Nat × V)} (ha:Apart ops l) {x:Nat × V} (hx:x ∈ l) (hd:dstOf ops x.1=some t) : lkT t (putAll ops s l).ts=x.2:=by
 induction l generalizing s with
 | nil=>cases hx
 | cons y l ih =>
  have e:putAll ops s (y :: l)=putAll ops (s.put (dstOf ops y.1) y.2) l:=rfl
  rw [e]
  by_cases hxl:x ∈ l
  ·exact ih (fun a ha' b hb=>ha a (List.mem_cons_of_mem _ ha') b (List.mem_cons_of_mem _ hb)) hxl
  ·have hxy:x=y:=by
    rcases List.mem_cons.1 hx with h | h
    ·exact h
    ·exact absurd h hxl
   subst hxy
   rw [lk_not (fun z hz e=>hxl (by rw [ha x List.mem_cons_self z (List.mem_cons_of_mem _ hz) t hd e]; exact hz)),hd]
   simp [Sa.put,lkT_setT']
end Go.Ab
namespace Go.Ab
open Go Go.RowKit
variable {P:Program} {a:Act} {w:World} {n:Nat} {Mo:Cells} {m:Mp} {s:Sa} {p:Name} {k:Sa → Prop} {Q:Exit → Act → World → Prop} {sv:List Act} {ops:Array Oper}
inductive Seg where
 | calm (l:List Nat)
 | bar (i:Nat)
 | fresh (l:List Nat) (i j:Nat)
 | make (l:List Nat) (j:Nat)
def Seg.idx:Seg → List Nat
 | .calm l=>l
 | .bar i=>[i]
 | .fresh l i j=>l ++ [i,j]
 | .make l j=>l ++ [j]
def flat:List Seg → List Nat
 | []=>[]
 | x :: rest=>x.idx ++ flat rest
def Sa.made (s:Sa) (nm:Name) (sz:Nat) (xs:List D) : Sa:={ s with ow:=nm :: s.ow,vc:=(nm,(sz,xs)) :: s.vc }
def callOf (o:Oper) : Option (Tmp × Operand × List Operand):=match o.dst,o.guard,o.op with
 | some t,none,.call c=>match c.callee with
  | .value fv=>some (t,fv,c.args.toList)
  | _=>none
 | _,_,_=>none
def evPlan (P:Program) (p:Name) (ops:Array Oper) : List Seg → Sa → (Sa → Prop) → Prop
 | [],s,k=>k s
 | .calm l :: rest,s,k=>evSeg P p ops l s fun s'=>evPlan P p ops rest s' k
 | .bar i :: rest,s,k=>match ops[i]? with
  | some o=>evOps P (sems P) p ops [o] s fun s'=>evPlan P p ops rest s' k
  | none=>False
 | .fresh l i j :: rest,s,k=>match ops[i]?,ops[j]? with
  | some oi,some oj=>match oi.dst,oi.op,oj.op with
   | some t,.alloc ty,.store _ _ x=>s.refs (t :: p)=false ∧ (tzero P ty).notNil=true ∧ evSeg P p ops l s fun s1=>(s1.get x).notNil=true ∧ evOps P (sems P) p ops [oi] s1 fun s2=>evOps P (sems P) p ops [oj] s2 fun s3=>evPlan P p ops rest s3 k
   | _,_,_=>False
  | _,_=>False
 | .make l j :: rest,s,k=>match (ops[j]?).bind callOf with
  | some (t,fv,as)=>s.strip (t :: p)=s ∧ evSeg P p ops l s fun s1=>s1.strip (t :: p)=s1 ∧ t < s1.n ∧ ∃ g ds sz xs,s1.get fv = .d (.v (.func (.func g) #[] #[])) ∧ callable P g=true ∧ toDs V.toD (as.map s1.get)=some ds ∧ MakeOK P g ds sz xs ∧
    evPlan P p ops rest ((s1.made (t :: p) sz xs).put (some t) (.vsl (t :: p))) k
  | none=>False
def okAft (ops:Array Oper) (i:Nat) (f:List Nat → Bool) : Bool:=match ops[i]? with | some o=>f (aft o) | none=>false
theorem okAft_inv {i:Nat} {f:List Nat → Bool} (h:okAft ops i f=true) : ∃ o,ops[i]? = some o ∧ f (aft o)=true:=by
 unfold okAft at h
 split at h
 ·rename_i o ho; exact ⟨o,ho,h⟩
 ·cases h
def calmOK (ops:Array Oper) (l:List Nat) (i:Nat) : Bool:=match ops[i]? with
 | some o=>calm o.op && (o.dst.isSome && l.all fun j=>j == i || (dstOf ops j != o.dst && ((opReads ops o).all (fun t=>dstOf ops j != some t) || (aft o).contains j)))
 | none=>false
def orderOK (ops:Array Oper) : List Nat → List Nat → Bool
 | _,[]=>true
 | done,i :: rest=>okAft ops i (fun l=>l.all done.contains) && (!done.contains i && orderOK ops (i :: done) rest)
def aftOf (ops:Array Oper) (i:Nat) : List Nat:=match ops[i]? with | some o=>aft o | none=>[]
def need (ops:Array Oper) : List Nat → List Nat → List Nat
 | [],S=>S
 | j :: rest,S=>need ops rest (if S.contains j then aftOf ops j ++ S else S)
theorem need_all {q:Nat → Prop}:∀ {l S:List Nat},(∀ j ∈ S,q j) → (∀ j ∈ l,q j → ∀ x ∈ aftOf ops j,q x) → ∀ j ∈ need ops l S,q j:=by
 intro l
 induction l with
 | nil=>intro S h _ j hj; exact h j hj
 | cons i l ih =>
  intro S h hc j hj
  simp only [need] at hj
  refine ih ?_ (fun a ha=>hc a (List.mem_cons_of_mem _ ha)) j hj
  intro x hx
  split at hx
  ·rename_i hi
   rcases List.mem_append.1 hx with hx | hx
   ·exact hc i List.mem_cons_self (h i (by simpa using hi)) x hx
   ·exact h x hx
  ·exact h x hx
def readsOf (ops:Array Oper) (i:Nat) : List Nat:=match ops[i]? with | some o=>opReads ops o | none=>[]
def freshOK (ops:Array Oper) (done l:List Nat) (i j:Nat) : Bool:=match ops[i]?,ops[j]? with
 | some oi,some oj=>match oi.dst,oi.op,oj.op with
  | some t,.alloc _,.store _ (.tmp t') (.tmp x)=>decide (t' = t ∧ x ≠ t ∧ oi.guard=none ∧ oj.guard=none ∧ oj.dst=none ∧ (∀ q ∈ aft oi,q ∈ done) ∧ (∀ q ∈ aft oj,q ∈ done ∨ q ∈ l ∨ q=i) ∧ i ∈ aft oj ∧
    (∀ q ∈ l,dstOf ops q ≠ some t ∧ t ∉ readsOf ops q ∧ (dstOf ops q=some x → q ∈ aft oj)) ∧ i ∉ done ∧ j ∉ done ∧ i ∉ l ∧ j ∉ l ∧ i ≠ j)
  | _,_,_=>false
 | _,_=>false
def makeOK (ops:Array Oper) (done l:List Nat) (j:Nat) : Bool:=match ops[j]? with
 | some oj=>match callOf oj with
  | some (t,_,_)=>decide ((∀ q ∈ aft oj,q ∈ done ∨ q ∈ l) ∧ (∀ q ∈ l,dstOf ops q ≠ some t ∧ t ∉ readsOf ops q ∧ ((∀ u ∈ readsOf ops j,dstOf ops q ≠ some u) ∨ q ∈ aft oj)) ∧ j ∉ done ∧ j ∉ l)
  | none=>false
 | none=>false
theorem makeOK_inv {done l:List Nat} {j:Nat} (h:makeOK ops done l j=true) : ∃ oj t fv as,ops[j]? = some oj ∧ callOf oj=some (t,fv,as) ∧
  (∀ q ∈ aft oj,q ∈ done ∨ q ∈ l) ∧ (∀ q ∈ l,dstOf ops q ≠ some t ∧ t ∉ readsOf ops q ∧ ((∀ u ∈ readsOf ops j,dstOf ops q ≠ some u) ∨ q ∈ aft oj)) ∧ j ∉ done ∧ j ∉ l:=by
 unfold makeOK at h
 split at h
 ·rename_i oj hj
  split at h
  ·rename_i t fv as hc
   exact ⟨oj,t,fv,as,hj,hc,of_decide_eq_true h⟩
  ·cases h
 ·cases h
theorem callOf_inv {o:Oper} {t:Tmp} {fv:Operand} {as:List Operand} (h:callOf o=some (t,fv,as)) : o.dst=some t ∧ o.guard=none ∧ ∃ c,o.op = .call c ∧ c.callee = .value fv ∧ c.args.toList=as:=by
 unfold callOf at h
 split at h
 ·rename_i t' c h1 h2 h3
  split at h
  ·rename_i fv' hcl
   cases h
   exact ⟨h1,h2,c,h3,hcl,rfl⟩
  ·cases h
 ·cases h
def planOK (ops:Array Oper) : List Nat → List Seg → Bool
 | done,[]=>(List.range ops.size).all done.contains && done.length == ops.size
 | done,.calm l :: rest=>l.all (calmOK ops l) && (orderOK ops done l && ((flat rest).all (fun i=>okAft ops i fun al=>al.any (flat rest).contains || l.all (need ops l.reverse al).contains) && planOK ops (l.reverse ++ done) rest))
 | done,.bar i :: rest=>orderOK ops done [i] && ((flat rest).all (fun j=>okAft ops j fun al=>al.any (i :: flat rest).contains) && planOK ops (i :: done) rest)
 | done,.make l j :: rest=>l.all (calmOK ops l) && (orderOK ops done l && (makeOK ops done l j && ((flat rest).all (fun q=>okAft ops q fun al=>al.any (flat rest).contains || (l ++ [j]).all (need ops (j :: l.reverse) al).contains) && planOK ops (j :: (l.reverse ++ done)) rest)))
 | done,.fresh l i j :: rest=>l.all (calmOK ops l) && (orderOK ops done l && (freshOK ops done l i j && ((flat rest).all (fun q=>okAft ops q fun al=>al.any (flat rest).contains || (l ++ [i,j]).all al.contains) && planOK ops (j :: i :: (l.reverse ++ done)) rest)))
theorem orderOK_split:∀ (pre:List Nat) {done post:List Nat} {i:Nat},orderOK ops done (pre ++ i :: post)=true →
  (∃ o,ops[i]? = some o ∧ ∀ j ∈ aft o,j ∈ done ∨ j ∈ pre) ∧ i ∉ done ∧ i ∉ pre:=by
 intro pre
 induction pre with
 | nil =>
  intro done post i h
  simp only [List.nil_append,orderOK,Bool.and_eq_true,Bool.not_eq_true',List.contains_eq_mem,decide_eq_false_iff_not] at h
  obtain ⟨o,ho,h1⟩:=okAft_inv h.1
  refine ⟨⟨o,ho,fun j hj=>.inl ?_⟩,h.2.1,by simp⟩
  simpa using List.all_eq_true.1 h1 j hj
 | cons x pre ih =>
  intro done post i h
  simp only [List.cons_append,orderOK,Bool.and_eq_true] at h
  obtain ⟨⟨o,ho,h1⟩,h2,h3⟩:=ih h.2.2
  refine ⟨⟨o,ho,fun j hj=>?_⟩,fun hc=>h2 (List.mem_cons_of_mem _ hc),?_⟩
  ·rcases h1 j hj with h | h
   ·rcases List.mem_cons.1 h with h | h
    ·exact .inr (by rw [h]; exact List.mem_cons_self)
    ·exact .inl h
   ·exact .inr (List.mem_cons_of_mem _ h)
  ·intro hc
   rcases List.mem_cons.1 hc with h | h
   ·exact h2 (by rw [h]; exact List.mem_cons_self)
   ·exact h3 h
theorem orderOK_nodup:∀ {l done:List Nat},orderOK ops done l=true → l.Nodup ∧ ∀ i ∈ l,i ∉ done ∧ i < ops.size:=by
 intro l
 induction l with
 | nil=>intro done _; exact ⟨List.nodup_nil,by simp⟩
 | cons x l ih =>
  intro done h
  have h0:=h
  simp only [orderOK,Bool.and_eq_true,Bool.not_eq_true',List.contains_eq_mem,decide_eq_false_iff_not] at h
  obtain ⟨o,ho,_⟩:=okAft_inv h.1
  obtain ⟨h1,h2⟩:=ih h.2.2
  refine ⟨List.nodup_cons.2 ⟨fun hc=>(h2 x hc).1 List.mem_cons_self,h1⟩,fun i hi=>?_⟩
  rcases List.mem_cons.1 hi with e | e
  ·subst e; exact ⟨h.2.1,(Array.getElem?_eq_some_iff.1 ho).1⟩
  ·exact ⟨fun hc=>(h2 i e).1 (List.mem_cons_of_mem _ hc),(h2 i e).2⟩
theorem freshOK_inv {done l:List Nat} {i j:Nat} (h:freshOK ops done l i j=true) : ∃ oi oj t ty ty' x,ops[i]? = some oi ∧ ops[j]? = some oj ∧ oi.dst=some t ∧ oi.op = .alloc ty ∧ oj.op = .store ty' (.tmp t) (.tmp x) ∧ x ≠ t ∧ oi.guard=none ∧ oj.guard=none ∧ oj.dst=none ∧
  (∀ q ∈ aft oi,q ∈ done) ∧ (∀ q ∈ aft oj,q ∈ done ∨ q ∈ l ∨ q=i) ∧ i ∈ aft oj ∧ (∀ q ∈ l,dstOf ops q ≠ some t ∧ t ∉ readsOf ops q ∧ (dstOf ops q=some x → q ∈ aft oj)) ∧ i ∉ done ∧ j ∉ done ∧ i ∉ l ∧ j ∉ l ∧ i ≠ j:=by
 unfold freshOK at h
 split at h
 ·rename_i oi oj hi hj
  split at h
  ·rename_i t ty ty' t' x h1 h2 h3
   have h:=of_decide_eq_true h
   obtain ⟨rfl,h⟩:=h
   exact ⟨oi,oj,_,ty,ty',x,hi,hj,h1,h2,h3,h⟩
  ·cases h
 ·cases h
theorem planOK_fresh:∀ {plan:List Seg} {done:List Nat},planOK ops done plan=true → (∀ j ∈ flat plan,j ∉ done) ∧ (∀ j < ops.size,j ∈ done ∨ j ∈ flat plan) ∧ done.length + (flat plan).length=ops.size:=by
 intro plan
 induction plan with
 | nil =>
  intro done h
  simp only [planOK,Bool.and_eq_true,beq_iff_eq] at h
  refine ⟨by simp [flat],fun j hj=>.inl ?_,by simpa [flat] using h.2⟩
  simpa using List.all_eq_true.1 h.1 j (List.mem_range.2 hj)
 | cons x rest ih =>
  intro done h
  cases x with
  | calm l =>
   simp only [planOK,Bool.and_eq_true] at h
   obtain ⟨h1,h2,h3⟩:=ih h.2.2.2
   obtain ⟨h4,h5⟩:=orderOK_nodup h.2.1
   refine ⟨fun j hj=>?_,fun j hj=>?_,?_⟩
   ·simp only [flat,Seg.idx,List.mem_append] at hj
    rcases hj with hj | hj
    ·exact (h5 j hj).1
    ·exact fun hc=>h1 j hj (List.mem_append_right _ hc)
   ·simp only [flat,Seg.idx,List.mem_append]
    rcases h2 j hj with h | h
    ·simp only [List.mem_append,List.mem_reverse] at h
     rcases h with h | h
     ·exact .inr (.inl h)
     ·exact .inl h
    ·exact .inr (.inr h)
   ·simp only [flat,Seg.idx,List.length_append,List.length_reverse] at h3 ⊢; omega
  | bar i =>
   simp only [planOK,Bool.and_eq_true] at h
   obtain ⟨h1,h2,h3⟩:=ih h.2.2
   obtain ⟨h4,h5⟩:=orderOK_nodup h.1
   refine ⟨fun j hj=>?_,fun j hj=>?_,?_⟩
   ·simp only [flat,Seg.idx,List.cons_append,List.nil_append,List.mem_cons] at hj
    rcases hj with hj | hj
    ·subst hj; exact (h5 j (by simp)).1
    ·exact fun hc=>h1 j hj (List.mem_cons_of_mem _ hc)
   ·simp only [flat,Seg.idx,List.cons_append,List.nil_append,List.mem_cons]
    rcases h2 j hj with h | h
    ·rcases List.mem_cons.1 h with h | h
     ·exact .inr (.inl h)
     ·exact .inl h
    ·exact .inr (.inr h)
   ·simp only [flat,Seg.idx,List.length_append,List.length_cons,List.length_nil] at h3 ⊢; omega
  | fresh l i j =>
   simp only [planOK,Bool.and_eq_true] at h
   obtain ⟨h1,h2,h3⟩:=ih h.2.2.2.2
   obtain ⟨h4,h5⟩:=orderOK_nodup h.2.1
   obtain ⟨oi,oj,t,ty,ty',x,hi,hj,_,_,_,_,_,_,_,_,_,_,_,hid,hjd,hil,hjl,hij⟩:=freshOK_inv h.2.2.1
   refine ⟨fun q hq=>?_,fun q hq=>?_,?_⟩
   ·simp only [flat,Seg.idx,List.mem_append,List.mem_cons,List.not_mem_nil,or_false] at hq
    rcases hq with (hq | hq | hq) | hq
    ·exact (h5 q hq).1
    ·subst hq; exact hid
    ·subst hq; exact hjd
    ·exact fun hc=>h1 q hq (by simp [hc])
   ·simp only [flat,Seg.idx,List.mem_append,List.mem_cons,List.not_mem_nil,or_false]
    rcases h2 q hq with h | h
    ·simp only [List.mem_cons,List.mem_append,List.mem_reverse] at h
     rcases h with h | h | h | h
     ·exact .inr (.inl (.inr (.inr h)))
     ·exact .inr (.inl (.inr (.inl h)))
     ·exact .inr (.inl (.inl h))
     ·exact .inl h
    ·exact .inr (.inr h)
   ·simp only [flat,Seg.idx,List.length_append,List.length_reverse,List.length_cons,List.length_nil] at h3 ⊢; omega
  | make l j =>
   simp only [planOK,Bool.and_eq_true] at h
   obtain ⟨h1,h2,h3⟩:=ih h.2.2.2.2
   obtain ⟨h4,h5⟩:=orderOK_nodup h.2.1
   obtain ⟨oj,t,fv,as,hj,_,_,_,hjd,hjl⟩:=makeOK_inv h.2.2.1
   refine ⟨fun q hq=>?_,fun q hq=>?_,?_⟩
   ·simp only [flat,Seg.idx,List.mem_append,List.mem_cons,List.not_mem_nil,or_false] at hq
    rcases hq with (hq | hq) | hq
    ·exact (h5 q hq).1
    ·subst hq; exact hjd
    ·exact fun hc=>h1 q hq (by simp [hc])
   ·simp only [flat,Seg.idx,List.mem_append,List.mem_cons,List.not_mem_nil,or_false]
    rcases h2 q hq with h | h
    ·simp only [List.mem_cons,List.mem_append,List.mem_reverse] at h
     rcases h with h | h | h
     ·exact .inr (.inl (.inr h))
     ·exact .inr (.inl (.inl h))
     ·exact .inl h
    ·exact .inr (.inr h)
   ·simp only [flat,Seg.idx,List.length_append,List.length_reverse,List.length_cons,List.length_nil] at h3 ⊢; omega
theorem evSeg_run:∀ (l:List Nat) {s:Sa},(∀ i ∈ l,∃ o,ops[i]? = some o ∧ calm o.op=true) → evSeg P p ops l s k →
  ∃ (ivs:List (Nat × V)) (s' : Sa),ivs.map Prod.fst=l ∧ Like s' (putAll ops s ivs) ∧ k s' ∧ ∀ pre i v post,ivs=pre ++ (i,v) :: post → OpFact P p ops i v (putAll ops s pre):=by
 intro l
 induction l with
 | nil=>intro s _ h; exact ⟨[],s,rfl,Like.refl s,h,fun pre i v post e=>by simp at e⟩
 | cons i l ih =>
  intro s hc h
  obtain ⟨o,ho,hcalm⟩:=hc i List.mem_cons_self
  simp only [evSeg,ho] at h
  obtain ⟨v,s1,hl,hk,hf⟩:=evSeg_op ho hcalm h.1 h.2
  obtain ⟨ivs,s',h1,h2,h3,h4⟩:=ih (fun j hj=>hc j (List.mem_cons_of_mem _ hj)) hk
  have e:∀ l',putAll ops s ((i,v) :: l')=putAll ops (s.put o.dst v) l':=fun l'=>by show putAll ops (s.put (dstOf ops i) v) l' = _; rw [dstOf_eq ho]
  refine ⟨(i,v) :: ivs,s',by simp [h1],?_,h3,fun pre j u post he=>?_⟩
  ·rw [e]; exact h2.trans ((hl.put _ _).putAll ivs)
  ·cases pre with
   | nil=>simp only [List.nil_append,List.cons.injEq,Prod.mk.injEq] at he; obtain ⟨⟨rfl,rfl⟩,_⟩:=he; exact hf
   | cons x pre =>
    simp only [List.cons_append,List.cons.injEq] at he
    obtain ⟨rfl,he⟩:=he
    rw [e]
    exact (h4 pre j u post he).like (((hl.put _ _).putAll pre).symm)
end Go.Ab
namespace Go.Ab
open Go Go.RowKit
variable {P:Program} {a:Act} {w:World} {n:Nat} {Mo:Cells} {m:Mp} {s:Sa} {p:Name} {k:Sa → Prop} {Q:Exit → Act → World → Prop} {sv:List Act} {ops:Array Oper}
def Listed (ops:Array Oper) (listed:Array Bool) (D:Nat → Prop) : Prop:=listed.size=ops.size ∧ ∀ j < ops.size,(listed.getD j true=true ↔ D j)
theorem Listed.set {listed:Array Bool} {D:Nat → Prop} (h:Listed ops listed D) (i:Nat) : Listed ops (listed.setIfInBounds i true) (fun j=>D j ∨ j=i):=by
 refine ⟨by simp [h.1],fun j hj=>?_⟩
 by_cases hij:i=j
 ·subst hij
  have:i < listed.size:=by rw [h.1]; exact hj
  simp [this]
 ·rw [getD_set_ne true hij,h.2 j hj]
  constructor
  ·exact fun x=>.inl x
  ·rintro (x | x)
   ·exact x
   ·exact absurd x.symm hij
theorem Listed.false' {listed:Array Bool} {D:Nat → Prop} (h:Listed ops listed D) {j:Nat} (hj:j < ops.size) : listed.getD j false=true ↔ D j:=by
 rw [← h.2 j hj]
 have:j < listed.size:=by rw [h.1]; exact hj
 simp [this]
theorem Listed.congr {listed:Array Bool} {D D' : Nat → Prop} (h:Listed ops listed D) (e:∀ j,D j ↔ D' j) : Listed ops listed D':=⟨h.1,fun j hj=>(h.2 j hj).trans (e j)⟩
theorem ready_inv {listed:Array Bool} {D:Nat → Prop} (h:Listed ops listed D) {i:Nat} (hi:i ∈ Region.ready .any ops listed) :
  i < ops.size ∧ ¬ D i ∧ ∃ o,ops[i]? = some o ∧ ∀ j ∈ aft o,listed.getD j false=true:=by
 obtain ⟨h1,o,ho,h2⟩:=mem_ready.1 hi
 have hlt:i < ops.size:=(Array.getElem?_eq_some_iff.1 ho).1
 refine ⟨hlt,fun hd=>?_,o,ho,fun j hj=>?_⟩
 ·rw [(h.2 i hlt).2 hd] at h1; cases h1
 ·simp only [aft,List.mem_map,List.mem_filter] at hj
  obtain ⟨e,⟨he,hb⟩,rfl⟩:=hj
  exact h2 e (by simpa using he) hb
theorem ready_intro {listed:Array Bool} {D:Nat → Prop} (h:Listed ops listed D) {i:Nat} {o:Oper} (ho:ops[i]? = some o) (hd : ¬ D i) (ha:∀ j ∈ aft o,j < ops.size ∧ D j) :
  i ∈ Region.ready .any ops listed:=by
 have hlt:i < ops.size:=(Array.getElem?_eq_some_iff.1 ho).1
 refine mem_ready.2 ⟨?_,o,ho,fun e he hb=>?_⟩
 ·cases hx:listed.getD i true
  ·rfl
  ·exact absurd ((h.2 i hlt).1 hx) hd
 ·obtain ⟨h1,h2⟩:=ha e.on (by simp only [aft,List.mem_map,List.mem_filter]; exact ⟨e,⟨by simpa using he,hb⟩,rfl⟩)
  exact (h.false' h1).2 h2
def PartNext (P:Program) (ops:Array Oper) (Q:Exit → Act → World → Prop) (n:Nat) (Mo:Cells) (m:Mp) (s:Sa) (ds:List Deferred) (sv:List Act) (w:World) (fuel:Nat) (D:Nat → Prop) (k:Sa → Prop) : Prop :=
 ∀ m' s' a' w' listed,k s' → Rel Mo m' s' (a' :: sv) w' → Step m s w m' s' w' → rdOf m' s' = rdOf m s → a'.defers=ds → Listed ops listed D → wpAnyIn (Wd (rdOf m s)) n P .any ops Q fuel listed a' w'
theorem like_sets {L ivs:List (Nat × V)} (ha:Apart ops ivs) (h:∀ x,x ∈ L ↔ x ∈ ivs) : Like (putAll ops s L) (putAll ops s ivs):=by
 obtain ⟨a1,a2,a3,a4,a5,a6⟩:=putAll_fields (ops:=ops) (s:=s) L
 obtain ⟨b1,b2,b3,b4,b5,b6⟩:=putAll_fields (ops:=ops) (s:=s) ivs
 refine ⟨a1.trans b1.symm,a2.trans b2.symm,a3.trans b3.symm,a4.trans b4.symm,a5.trans b5.symm,a6.trans b6.symm,fun t=>?_,(putAll_vc L).trans (putAll_vc ivs).symm⟩
 have hL:Apart ops L:=fun x hx y hy=>ha x ((h x).1 hx) y ((h y).1 hy)
 by_cases hex:∃ x ∈ ivs,dstOf ops x.1=some t
 ·obtain ⟨x,hx,hd⟩:=hex
  rw [lk_mem ha hx hd,lk_mem hL ((h x).2 hx) hd]
 ·rw [lk_not (fun x hx hd=>hex ⟨x,(h x).1 hx,hd⟩),lk_not (fun x hx hd=>hex ⟨x,hx,hd⟩)]
theorem first_in {α:Type} (l:List α) (q:α → Prop) (h:∃ x ∈ l,q x) : ∃ pre x post,l=pre ++ x :: post ∧ q x ∧ ∀ y ∈ pre,¬ q y:=by
 induction l with
 | nil=>obtain ⟨x,hx,_⟩:=h; cases hx
 | cons a l ih =>
  by_cases ha:q a
  ·exact ⟨[],a,l,rfl,ha,by simp⟩
  ·obtain ⟨x,hx,hq⟩:=h
   rcases List.mem_cons.1 hx with e | e
   ·subst e; exact absurd hq ha
   ·obtain ⟨pre,x,post,e1,e2,e3⟩:=ih ⟨x,e,hq⟩
    refine ⟨a :: pre,x,post,by rw [e1]; rfl,e2,fun y hy=>?_⟩
    rcases List.mem_cons.1 hy with h | h
    ·subst h; exact ha
    ·exact e3 y h
theorem seg_sound {l done later:List Nat} {ivs:List (Nat × V)} (hl:ivs.map Prod.fst=l) (hcalm:∀ i ∈ l,calmOK ops l i=true) (hord:orderOK ops done l=true)
  (hlater:∀ i ∈ later,okAft ops i (fun al=>al.any later.contains || l.all (need ops l.reverse al).contains)=true) (hfresh:∀ j ∈ later,j ∉ done ∧ j ∉ l) (hcov:∀ j < ops.size,j ∈ done ∨ j ∈ l ∨ j ∈ later)
  (hdone:∀ j ∈ done,j < ops.size)
  (hfact:∀ pre i v post,ivs=pre ++ (i,v) :: post → OpFact P p ops i v (putAll ops s pre)) {fuel:Nat} {ds:List Deferred}
  (hN:PartNext P ops Q n Mo m s ds sv w fuel (fun j=>j ∈ done ∨ j ∈ l) (fun s'=>Like s' (putAll ops s ivs))) :
  ∀ (N:Nat) (L:List (Nat × V)) (todo:List Nat) (listed:Array Bool) (m' : Mp) (s' : Sa) (a' : Act) (w' : World),todo.length=N → todo.Nodup → (∀ j ∈ todo,j ∈ l) → (∀ x ∈ L,x ∈ ivs ∧ x.1 ∉ todo) → (∀ x ∈ ivs,x.1 ∉ todo → x ∈ L) →
   Like s' (putAll ops s L) → Rel Mo m' s' (a' :: sv) w' → Step m s w m' s' w' → rdOf m' s' = rdOf m s → a'.defers=ds → (∀ j ∈ l,j ∉ todo → ∀ q ∈ aftOf ops j,q ∈ done ∨ (q ∈ l ∧ q ∉ todo)) → Listed ops listed (fun j=>j ∈ done ∨ (j ∈ l ∧ j ∉ todo)) →
   wpAnyIn (Wd (rdOf m s)) n P .any ops Q (fuel + N) listed a' w':=by
 obtain ⟨hnd,hin⟩:=orderOK_nodup hord
 have hndf:(ivs.map Prod.fst).Nodup:=by rw [hl]; exact hnd
 have fst_in:∀ x ∈ ivs,x.1 ∈ l:=fun x hx=>by rw [← hl]; exact List.mem_map.2 ⟨x,hx,rfl⟩
 have same:∀ x ∈ ivs,∀ y ∈ ivs,x.1=y.1 → x=y:=by
  intro x hx y hy e
  obtain ⟨i,hi,rfl⟩:=List.getElem_of_mem hx
  obtain ⟨j,hj,rfl⟩:=List.getElem_of_mem hy
  have:=(List.getElem_inj (xs:=ivs.map Prod.fst) (h₀:=by simpa using hi) (h₁:=by simpa using hj) hndf).1 (by simpa using e)
  subst this; rfl
 have apart:Apart ops ivs:=by
  intro x hx y hy t h1 h2
  refine same x hx y hy ?_
  have hc:=hcalm x.1 (fst_in x hx)
  unfold calmOK at hc
  split at hc
  ·rename_i o ho
   simp only [Bool.and_eq_true] at hc
   have:=List.all_eq_true.1 hc.2.2 y.1 (fst_in y hy)
   simp only [Bool.or_eq_true,beq_iff_eq,Bool.and_eq_true,bne_iff_ne] at this
   rcases this with h | ⟨h,_⟩
   ·exact h.symm
   ·exact absurd (by rw [h2,← dstOf_eq ho,h1]) h
  ·cases hc
 intro N
 induction N with
 | zero =>
  intro L todo listed m' s' a' w' hlen _ _ hL hL' hlike hR hst hrd hds _ hlisted
  have:todo=[]:=List.eq_nil_of_length_eq_zero hlen
  subst this
  refine hN m' s' a' w' listed ?_ hR hst hrd hds (hlisted.congr fun j=>by simp)
  exact hlike.trans (like_sets apart fun x=>⟨fun hx=>(hL x hx).1,fun hx=>hL' x hx (by simp)⟩)
 | succ N ih =>
  intro L todo listed m' s' a' w' hlen htn htl hL hL' hlike hR hst hrd hds hclo hlisted
  have split_of:∀ i ∈ todo,∃ pre v post o,ivs=pre ++ (i,v) :: post ∧ ops[i]? = some o ∧ (∀ j ∈ aft o,j ∈ done ∨ j ∈ pre.map Prod.fst) ∧ i ∉ done ∧ i ∉ pre.map Prod.fst:=by
   intro i hi
   have hil:=htl i hi
   rw [← hl] at hil
   obtain ⟨x,hx,rfl⟩:=List.mem_map.1 hil
   obtain ⟨pre,post,e⟩:=List.append_of_mem hx
   have hl2:l=pre.map Prod.fst ++ x.1 :: post.map Prod.fst:=by rw [← hl,e]; simp
   rw [hl2] at hord
   obtain ⟨⟨o,ho,h1⟩,h2,h3⟩:=orderOK_split _ hord
   exact ⟨pre,x.2,post,o,e,ho,h1,h2,h3⟩
  refine ⟨fun hr=>?_,fun i hi=>?_⟩
  ·exfalso
   have htne:∃ i,i ∈ todo:=by
    cases todo with
    | nil=>simp at hlen
    | cons i t=>exact ⟨i,List.mem_cons_self⟩
   obtain ⟨i0,hi0⟩:=htne
   obtain ⟨x0,hx0,e0⟩:=List.mem_map.1 (by rw [hl]; exact htl i0 hi0:i0 ∈ ivs.map Prod.fst)
   obtain ⟨pre,x,post,e1,e2,e3⟩:=first_in ivs (fun x=>x.1 ∈ todo) ⟨x0,hx0,by rw [e0]; exact hi0⟩
   have hl2:l=pre.map Prod.fst ++ x.1 :: post.map Prod.fst:=by rw [← hl,e1]; simp
   have hord2:=hord
   rw [hl2] at hord2
   obtain ⟨⟨o,ho,h1⟩,h2,h3⟩:=orderOK_split _ hord2
   have:x.1 ∈ Region.ready .any ops listed:=ready_intro hlisted ho (by rintro (h | h); exact h2 h; exact h.2 e2) (fun j hj=>by
    rcases h1 j hj with h | h
    ·exact ⟨hdone j h,.inl h⟩
    ·obtain ⟨y,hy,rfl⟩:=List.mem_map.1 h
     have hyi:y ∈ ivs:=by rw [e1]; exact List.mem_append_left _ hy
     exact ⟨(hin _ (fst_in y hyi)).2,.inr ⟨fst_in y hyi,e3 y hy⟩⟩)
   rw [hr] at this; cases this
  ·obtain ⟨hlt,hnD,o,ho,haft⟩:=ready_inv hlisted hi
   have hnd' : i ∉ done:=fun h=>hnD (.inl h)
   have hit:i ∈ todo:=by
    rcases hcov i hlt with h | h | h
    ·exact absurd h hnd'
    ·exact Classical.byContradiction fun hc=>hnD (.inr ⟨h,hc⟩)
    ·exfalso
     obtain ⟨o',ho',hb⟩:=okAft_inv (hlater i h)
     rw [ho] at ho'; cases ho'
     simp only [Bool.or_eq_true] at hb
     rcases hb with hb | hb
     ·obtain ⟨j,hj,hjl⟩:=List.any_eq_true.1 hb
      have hjl' : j ∈ later:=by simpa using hjl
      have h1:=haft j hj
      have hjs:j < ops.size:=by
       have:j < listed.size:=by
        rcases Nat.lt_or_ge j listed.size with h' | h'
        ·exact h'
        ·simp [Array.getElem?_eq_none h'] at h1
       rw [← hlisted.1]; exact this
      rcases (hlisted.false' hjs).1 h1 with h2 | h2
      ·exact (hfresh j hjl').1 h2
      ·exact (hfresh j hjl').2 h2.1
     ·have htne:∃ i,i ∈ todo:=by
       cases todo with
       | nil=>simp at hlen
       | cons i t=>exact ⟨i,List.mem_cons_self⟩
      obtain ⟨j,hj⟩:=htne
      have hja:=List.all_eq_true.1 hb j (htl j hj)
      have hlt' : ∀ q,listed.getD q false=true → q < ops.size:=fun q h1=>by
       have:q < listed.size:=by
        rcases Nat.lt_or_ge q listed.size with h' | h'
        ·exact h'
        ·simp [Array.getElem?_eq_none h'] at h1
       rw [← hlisted.1]; exact this
      have h1:=need_all (ops:=ops) (q:=fun q=>q ∈ done ∨ (q ∈ l ∧ q ∉ todo)) (l:=l.reverse) (S:=aft o)
       (fun q hq=>(hlisted.false' (hlt' q (haft q hq))).1 (haft q hq))
       (fun q hq hqq x hx=>by
        have hql:q ∈ l:=by simpa using hq
        rcases hqq with hqq | hqq
        ·exact absurd hqq (hin q hql).1
        ·exact hclo q hql hqq.2 x hx) j (by simpa using hja)
      rcases h1 with h2 | h2
      ·exact (hin j (htl j hj)).1 h2
      ·exact h2.2 hj
   obtain ⟨pre,v,post,o',e1,ho',hpre,_,hipre⟩:=split_of i hit
   rw [ho] at ho'; cases ho'
   obtain ⟨o2,ho2,hf⟩:=hfact pre i v post e1
   rw [ho] at ho2; cases ho2
   have hivs:(i,v) ∈ ivs:=by rw [e1]; simp
   have hcal:=hcalm i (htl i hit)
   unfold calmOK at hcal
   rw [ho] at hcal
   simp only [Bool.and_eq_true] at hcal
   have hpi:∀ y ∈ pre,y ∈ ivs:=fun y hy=>by rw [e1]; exact List.mem_append_left _ hy
   have hreads:∀ t ∈ opReads ops o,lkT t s'.ts=lkT t (putAll ops s pre).ts:=by
    intro t ht
    rw [hlike.ts t]
    have hpap:Apart ops pre:=fun x hx y hy=>apart x (hpi x hx) y (hpi y hy)
    have hLap:Apart ops L:=fun x hx y hy=>apart x (hL x hx).1 y (hL y hy).1
    by_cases hex:∃ y ∈ ivs,dstOf ops y.1=some t ∧ y.1 ≠ i
    ·obtain ⟨y,hy,hyd,hyi⟩:=hex
     have h2:=List.all_eq_true.1 hcal.2.2 y.1 (fst_in y hy)
     simp only [Bool.or_eq_true,beq_iff_eq,Bool.and_eq_true] at h2
     have hya:y.1 ∈ aft o:=by
      rcases h2 with h2 | ⟨_,h2 | h2⟩
      ·exact absurd h2 hyi
      ·have:=List.all_eq_true.1 h2 t ht
       simp [hyd] at this
      ·simpa using h2
     have hyL:y ∈ L:=by
      refine hL' y hy fun hyt=>?_
      rcases (hlisted.false' (hin y.1 (fst_in y hy)).2).1 (haft y.1 hya) with h | h
      ·exact (hin y.1 (fst_in y hy)).1 h
      ·exact h.2 hyt
     have hyp:y ∈ pre:=by
      rcases hpre y.1 hya with h | h
      ·exact absurd h (hin y.1 (fst_in y hy)).1
      ·obtain ⟨z,hz,e⟩:=List.mem_map.1 h
       rw [← same z (hpi z hz) y hy e]; exact hz
     rw [lk_mem hLap hyL hyd,lk_mem hpap hyp hyd]
    ·rw [lk_not (fun y hy hd=>?_),lk_not (fun y hy hd=>?_)]
     ·by_cases hyi:y.1=i
      ·exact hipre (List.mem_map.2 ⟨y,hy,hyi⟩)
      ·exact hex ⟨y,hpi y hy,hd,hyi⟩
     ·by_cases hyi:y.1=i
      ·exact (hL y hy).2 (by rw [hyi]; exact hit)
      ·exact hex ⟨y,(hL y hy).1,hd,hyi⟩
   obtain ⟨b1,b2,b3,b4,b5,b6⟩:=putAll_fields (ops:=ops) (s:=s) pre
   obtain ⟨c1,c2,c3,c4,c5,c6⟩:=putAll_fields (ops:=ops) (s:=s) L
   have hev:=hf s' (.of_eq (hlike.bx.trans (c4.trans b4.symm)) (hlike.vc.trans ((putAll_vc L).trans (putAll_vc pre).symm))) (hlike.n.trans (c2.trans b2.symm)) hreads (fun s2=>∃ s1,Like s1 s' ∧ s2=s1.put o.dst v) (fun s1 h1=>⟨s1,h1,rfl⟩)
   rw [← hrd]
   refine op1_sound ho hR ?_ hev
   rintro m2 s2 a2 w2 ⟨s1,hs1,rfl⟩ hR2 hst2 hrd2 hds2
   rw [hrd]
   refine ih (L ++ [(i,v)]) (todo.erase i) _ m2 _ a2 w2 (by rw [List.length_erase_of_mem hit]; omega) (htn.erase i) (fun j hj=>htl j (List.mem_of_mem_erase hj)) ?_ ?_ ?_ hR2 (hst.trans hst2) (hrd2.trans hrd) (hds2.trans hds) ?_ ?_
   ·intro x hx
    rcases List.mem_append.1 hx with h | h
    ·exact ⟨(hL x h).1,fun hc=>(hL x h).2 (List.mem_of_mem_erase hc)⟩
    ·simp only [List.mem_singleton] at h; subst h
     exact ⟨hivs,fun hc=>by rw [htn.mem_erase_iff] at hc; exact hc.1 rfl⟩
   ·intro x hx hxt
    by_cases hxi:x.1=i
    ·exact List.mem_append_right _ (by rw [same x hx _ hivs hxi]; simp)
    ·exact List.mem_append_left _ (hL' x hx fun hc=>hxt ((htn.mem_erase_iff).2 ⟨hxi,hc⟩))
   ·rw [putAll_append]
    show Like _ ((putAll ops s L).put (dstOf ops i) v)
    rw [dstOf_eq ho]
    exact (hs1.trans hlike).put _ _
   ·intro j hj hjt q hq
    have hkeep:∀ q,(q ∈ done ∨ (q ∈ l ∧ q ∉ todo)) → q ∈ done ∨ (q ∈ l ∧ q ∉ todo.erase i):=fun q h=>h.imp id fun h=>⟨h.1,fun hc=>h.2 (List.mem_of_mem_erase hc)⟩
    by_cases hji:j=i
    ·subst hji
     have hq' : q ∈ aft o:=by simpa [aftOf,ho] using hq
     refine hkeep q ((hlisted.false' ?_).1 (haft q hq'))
     have h1:=haft q hq'
     have:q < listed.size:=by
      rcases Nat.lt_or_ge q listed.size with h' | h'
      ·exact h'
      ·simp [Array.getElem?_eq_none h'] at h1
     rw [← hlisted.1]; exact this
    ·exact hkeep q (hclo j hj (fun hc=>hjt ((htn.mem_erase_iff).2 ⟨hji,hc⟩)) q hq)
   ·refine (hlisted.set i).congr fun j=>?_
    constructor
    ·rintro ((h | h) | h)
     ·exact .inl h
     ·exact .inr ⟨h.1,fun hc=>h.2 (List.mem_of_mem_erase hc)⟩
     ·subst h; exact .inr ⟨htl j hit,fun hc=>by rw [htn.mem_erase_iff] at hc; exact hc.1 rfl⟩
    ·rintro (h | h)
     ·exact .inl (.inl h)
     ·by_cases hji:j=i
      ·exact .inr hji
      ·exact .inl (.inr ⟨h.1,fun hc=>h.2 ((htn.mem_erase_iff).2 ⟨hji,hc⟩)⟩)
theorem any_setT {q:V → Bool} {t:Nat} {v:V}:∀ {l:List (Nat × V)},(l.any fun x=>q x.2)=false → q v=false → ((setT t v l).any fun x=>q x.2)=false:=by
 intro l
 induction l with
 | nil=>intro _ hv; simp [setT,hv]
 | cons y l ih =>
  obtain ⟨a,b⟩:=y
  intro h hv
  simp only [List.any_cons,Bool.or_eq_false_iff] at h
  simp only [setT]
  split
  ·simp only [List.any_cons,Bool.or_eq_false_iff]; exact ⟨hv,h.2⟩
  ·simp only [List.any_cons,Bool.or_eq_false_iff]; exact ⟨h.1,ih h.2 hv⟩
theorem refs_put {f:Name} {d:Option Tmp} {v:V} (h:s.refs f=false) (hv:v.refs f=false) : (s.put d v).refs f=false:=by
 cases d with
 | none=>exact h
 | some d =>
  simp only [Sa.refs,Bool.or_eq_false_iff] at h ⊢
  exact ⟨⟨any_setT h.1.1 hv,h.1.2⟩,h.2⟩
theorem refs_putAll {f:Name}:∀ {L:List (Nat × V)} {s:Sa},s.refs f=false → (∀ x ∈ L,x.2.refs f=false) → (putAll ops s L).refs f=false:=by
 intro L
 induction L with
 | nil=>intro s h _; exact h
 | cons x L ih=>intro s h hL; exact ih (refs_put h (hL x List.mem_cons_self)) (fun y hy=>hL y (List.mem_cons_of_mem _ hy))
def stP (ops:Array Oper) (s:Sa) (t:Nat) (f:Name) (z c:V) (ph:Nat) (L:List (Nat × V)) : Sa :=
 match ph with
 | 0=>putAll ops s L
 | 1=>{ (putAll ops s L) with bx:=(f,z) :: s.bx,ts:=setT t (.ptr f 0) (putAll ops s L).ts }
 | _=>{ (putAll ops s L) with bx:=(f,c) :: s.bx,ts:=setT t (.ptr f 0) (putAll ops s L).ts }
theorem stP_lk {t:Nat} {f:Name} {z c:V} {ph:Nat} {L:List (Nat × V)} {u:Nat} (hu:u ≠ t) : lkT u (stP ops s t f z c ph L).ts=lkT u (putAll ops s L).ts:=by
 match ph with
 | 0=>rfl
 | 1=>simp only [stP,lkT_setT',if_neg (Ne.symm hu)]
 | n + 2=>simp only [stP,lkT_setT',if_neg (Ne.symm hu)]
theorem stP_put {t:Nat} {f:Name} {z c:V} {ph:Nat} {L:List (Nat × V)} {q:Nat} {v:V} (hq:dstOf ops q ≠ some t) : Like ((stP ops s t f z c ph L).put (dstOf ops q) v) (stP ops s t f z c ph (L ++ [(q,v)])):=by
 have e:putAll ops s (L ++ [(q,v)])=(putAll ops s L).put (dstOf ops q) v:=by rw [putAll_append]; rfl
 have eb:=(putAll_fields (ops:=ops) (s:=s) L).2.2.2.1
 cases hd:dstOf ops q with
 | none =>
  rw [hd] at e
  have e' : putAll ops s (L ++ [(q,v)])=putAll ops s L:=e
  match ph with
  | 0=>simp only [stP,e']; exact Like.refl _
  | 1=>simp only [stP,e']; exact Like.refl _
  | n + 2=>simp only [stP,e']; exact Like.refl _
 | some d =>
  rw [hd] at e hq
  have hdt:d ≠ t:=fun h=>hq (by rw [h])
  match ph with
  | 0=>simp only [stP,e]; exact Like.refl _
  | 1 =>
   simp only [stP,e]
   refine ⟨rfl,rfl,rfl,rfl,rfl,rfl,fun u=>?_,rfl⟩
   simp only [Sa.put,lkT_setT']
   split <;> split <;> simp_all
  | n + 2 =>
   simp only [stP,e]
   refine ⟨rfl,rfl,rfl,rfl,rfl,rfl,fun u=>?_,rfl⟩
   simp only [Sa.put,lkT_setT']
   split <;> split <;> simp_all
theorem fresh_sound {l done later:List Nat} {ivs:List (Nat × V)} {i j t x:Nat} {ty ty' : TypeId} {oi oj:Oper} {s1:Sa} {KK:Sa → Prop} (hl:ivs.map Prod.fst=l) (hcalm:∀ i ∈ l,calmOK ops l i=true) (hord:orderOK ops done l=true)
  (hi:ops[i]? = some oi) (hj:ops[j]? = some oj) (hid:oi.dst=some t) (hio:oi.op = .alloc ty) (hjo:oj.op = .store ty' (.tmp t) (.tmp x)) (hxt:x ≠ t) (hig:oi.guard=none) (hjg:oj.guard=none) (hjd:oj.dst=none)
  (hia:∀ q ∈ aft oi,q ∈ done) (hja:∀ q ∈ aft oj,q ∈ done ∨ q ∈ l ∨ q=i) (hij:i ∈ aft oj) (hls:∀ q ∈ l,dstOf ops q ≠ some t ∧ t ∉ readsOf ops q ∧ (dstOf ops q=some x → q ∈ aft oj)) (hi1:i ∉ done) (hj1:j ∉ done) (hi2:i ∉ l) (hj2:j ∉ l) (hne:i ≠ j)
  (hlater:∀ q ∈ later,okAft ops q (fun al=>al.any later.contains || (l ++ [i,j]).all al.contains)=true) (hfresh:∀ q ∈ later,q ∉ done ∧ q ∉ l ∧ q ≠ i ∧ q ≠ j) (hcov:∀ q < ops.size,q ∈ done ∨ q ∈ l ∨ q=i ∨ q=j ∨ q ∈ later)
  (hdone:∀ q ∈ done,q < ops.size)
  (hfact:∀ pre i v post,ivs=pre ++ (i,v) :: post → OpFact P p ops i v (putAll ops s pre)) (hs1:Like s1 (putAll ops s ivs)) (href:s.refs (t :: p)=false) (hz:(tzero P ty).notNil=true) (hxn:(s1.get (.tmp x)).notNil=true)
  (hev:evOps P (sems P) p ops [oi] s1 fun s2=>evOps P (sems P) p ops [oj] s2 KK) {fuel:Nat} {ds:List Deferred}
  (hN:PartNext P ops Q n Mo m s ds sv w fuel (fun q=>q ∈ done ∨ q ∈ l ∨ q=i ∨ q=j) (fun s'=>∃ s3,Like s' s3 ∧ KK s3)) :
  ∀ (N ph:Nat) (L:List (Nat × V)) (todo:List Nat) (listed:Array Bool) (m' : Mp) (s' : Sa) (a' : Act) (w' : World),ph ≤ 2 → N=todo.length + (2 - ph) → todo.Nodup → (∀ j ∈ todo,j ∈ l) → (∀ x ∈ L,x ∈ ivs ∧ x.1 ∉ todo) → (∀ x ∈ ivs,x.1 ∉ todo → x ∈ L) →
   Like s' (stP ops s t (t :: p) (tzero P ty) (storeBox 0 (s1.get (.tmp x)) (tzero P ty)) ph L) → Rel Mo m' s' (a' :: sv) w' → Step m s w m' s' w' → rdOf m' s' = rdOf m s → a'.defers=ds →
   Listed ops listed (fun q=>q ∈ done ∨ (q ∈ l ∧ q ∉ todo) ∨ (q=i ∧ 1 ≤ ph) ∨ (q=j ∧ 2 ≤ ph)) →
   wpAnyIn (Wd (rdOf m s)) n P .any ops Q (fuel + N) listed a' w':=by
 obtain ⟨hnd,hin⟩:=orderOK_nodup hord
 have hndf:(ivs.map Prod.fst).Nodup:=by rw [hl]; exact hnd
 have fst_in:∀ x ∈ ivs,x.1 ∈ l:=fun x hx=>by rw [← hl]; exact List.mem_map.2 ⟨x,hx,rfl⟩
 have same:∀ x ∈ ivs,∀ y ∈ ivs,x.1=y.1 → x=y:=by
  intro x hx y hy e
  obtain ⟨i,hi,rfl⟩:=List.getElem_of_mem hx
  obtain ⟨j,hj,rfl⟩:=List.getElem_of_mem hy
  have:=(List.getElem_inj (xs:=ivs.map Prod.fst) (h₀:=by simpa using hi) (h₁:=by simpa using hj) hndf).1 (by simpa using e)
  subst this; rfl
 have calm_inv:∀ q ∈ l,∃ o,ops[q]? = some o ∧ o.dst.isSome=true ∧ ∀ r ∈ l,r=q ∨ (dstOf ops r ≠ o.dst ∧ ((∀ u ∈ opReads ops o,dstOf ops r ≠ some u) ∨ r ∈ aft o)):=by
  intro q hq
  have hc:=hcalm q hq
  unfold calmOK at hc
  split at hc
  ·rename_i o ho
   simp only [Bool.and_eq_true] at hc
   refine ⟨o,ho,hc.2.1,fun r hr=>?_⟩
   have:=List.all_eq_true.1 hc.2.2 r hr
   simp only [Bool.or_eq_true,beq_iff_eq,Bool.and_eq_true,bne_iff_ne] at this
   rcases this with h | ⟨h,h2⟩
   ·exact .inl h
   ·refine .inr ⟨h,h2.imp (fun h2 u hu=>?_) (fun h2=>by simpa using h2)⟩
    simpa using List.all_eq_true.1 h2 u hu
  ·cases hc
 have apart:Apart ops ivs:=by
  intro x hx y hy u h1 h2
  refine same x hx y hy ?_
  obtain ⟨o,ho,_,hc⟩:=calm_inv x.1 (fst_in x hx)
  rcases hc y.1 (fst_in y hy) with h | ⟨h,_⟩
  ·exact h.symm
  ·exact absurd (by rw [h2,← dstOf_eq ho,h1]) h
 have hA:=hev
 simp only [evOps,hid,hig,evOp,hio,claim_notNil hz,Option.getD_some] at hA
 obtain ⟨hA0,hA1,hA2,hA3,hA4,hB⟩:=hA
 have hget:∀ (σ:Sa) (v:V),(σ.put (some t) v).get (.tmp x)=σ.get (.tmp x):=fun σ v=>by
  simp only [Sa.put,Sa.get,lkT_setT',if_neg (Ne.symm hxt)]
 have hgt:∀ (σ:Sa) (v:V),(σ.put (some t) v).get (.tmp t)=v:=fun σ v=>by
  simp only [Sa.put,Sa.get,lkT_setT',if_true]
 simp only [hjd,hjg,hjo,hgt,hget] at hB
 have hxn' : (({ s1 with bx:=(t :: p,tzero P ty) :: s1.bx }:Sa).get (.tmp x)).notNil=true:=hxn
 simp only [claim_notNil hxn'] at hB
 have hlk1:lookN (t :: p) (({ s1 with bx:=(t :: p,tzero P ty) :: s1.bx }:Sa).put (some t) (.ptr (t :: p) 0)).bx=some (tzero P ty):=by simp [Sa.put,lookN]
 simp only [hlk1] at hB
 obtain ⟨-,hB1,hB2,hB3,hB4,hB5⟩:=hB
 have hv_refs:∀ x ∈ ivs,x.2.refs (t :: p)=false:=by
  intro y hy
  obtain ⟨o,ho,hd,_⟩:=calm_inv y.1 (fst_in y hy)
  obtain ⟨d,hd⟩:=Option.isSome_iff_exists.1 hd
  have e1:=lk_mem (s:=s) apart hy ((dstOf_eq ho).trans hd)
  rw [← e1,← hs1.ts d]
  have h3:=hA3
  simp only [Sa.refs,Bool.or_eq_false_iff,List.any_eq_false] at h3
  exact look_mem (fun v=>v.refs (t :: p)=false) (by simp [V.refs]) _ (fun z hz=>Bool.eq_false_iff.2 (h3.1.1 z hz)) d
 have hsb:lookN (t :: p) s.bx=none:=by
  rw [hs1.bx,(putAll_fields (ops:=ops) (s:=s) ivs).2.2.2.1] at hA4; exact hA4
 have hsn:s1.n=s.n:=by rw [hs1.n,(putAll_fields (ops:=ops) (s:=s) ivs).2.1]
 intro N
 induction N with
 | zero =>
  intro ph L todo listed m' s' a' w' hph hlen _ _ hL hL' hlike hR hst hrd hds hlisted
  have h1:todo=[]:=List.eq_nil_of_length_eq_zero (by omega)
  have h2:ph=2:=by omega
  subst h1 h2
  refine hN m' s' a' w' listed ⟨_,?_,hB5⟩ hR hst hrd hds (hlisted.congr fun q=>by simp)
  refine hlike.trans ?_
  have hls:=like_sets (s:=s) apart (L:=L) fun x=>⟨fun hx=>(hL x hx).1,fun hx=>hL' x hx (by simp)⟩
  have hl2:=hls.trans hs1.symm
  simp only [stP,Sa.put]
  refine ⟨hl2.rd,hl2.n,hl2.sv,?_,hl2.lp,hl2.ow,fun u=>?_,hl2.vc⟩
  ·show (t :: p,_) :: s.bx=setN (t :: p) _ ((t :: p,tzero P ty) :: s1.bx)
   rw [hs1.bx,(putAll_fields (ops:=ops) (s:=s) ivs).2.2.2.1]
   simp [setN,Sa.get]
  ·simp only [lkT_setT',hl2.ts u]
 | succ N ih =>
  intro ph L todo listed m' s' a' w' hph hlen htn htl hL hL' hlike hR hst hrd hds hlisted
  have split_of:∀ i ∈ todo,∃ pre v post o,ivs=pre ++ (i,v) :: post ∧ ops[i]? = some o ∧ (∀ j ∈ aft o,j ∈ done ∨ j ∈ pre.map Prod.fst) ∧ i ∉ done ∧ i ∉ pre.map Prod.fst:=by
   intro i hi
   have hil:=htl i hi
   rw [← hl] at hil
   obtain ⟨x,hx,rfl⟩:=List.mem_map.1 hil
   obtain ⟨pre,post,e⟩:=List.append_of_mem hx
   have hl2:l=pre.map Prod.fst ++ x.1 :: post.map Prod.fst:=by rw [← hl,e]; simp
   rw [hl2] at hord
   obtain ⟨⟨o,ho,h1⟩,h2,h3⟩:=orderOK_split _ hord
   exact ⟨pre,x.2,post,o,e,ho,h1,h2,h3⟩
  have hlt' : ∀ q,listed.getD q false=true → q < ops.size:=fun q h1=>by
   have:q < listed.size:=by
    rcases Nat.lt_or_ge q listed.size with h' | h'
    ·exact h'
    ·simp [Array.getElem?_eq_none h'] at h1
   rw [← hlisted.1]; exact this
  have hlD:∀ q,listed.getD q false=true → q ∈ done ∨ (q ∈ l ∧ q ∉ todo) ∨ (q=i ∧ 1 ≤ ph) ∨ (q=j ∧ 2 ≤ ph):=fun q h=>(hlisted.false' (hlt' q h)).1 h
  have hil:i < ops.size:=(Array.getElem?_eq_some_iff.1 hi).1
  have hjl:j < ops.size:=(Array.getElem?_eq_some_iff.1 hj).1
  obtain ⟨m2,hR2,hst2,hrd2⟩:=hlike.wk Mo m' _ w' hR
  have hst3:=hst.trans hst2
  have hrd3:=hrd2.trans hrd
  refine ⟨fun hr=>?_,fun r hr=>?_⟩
  ·exfalso
   cases htd:todo with
   | cons i0 tl =>
    have hi0:i0 ∈ todo:=by rw [htd]; exact List.mem_cons_self
    obtain ⟨x0,hx0,e0⟩:=List.mem_map.1 (by rw [hl]; exact htl i0 hi0:i0 ∈ ivs.map Prod.fst)
    obtain ⟨pre,y,post,e1,e2,e3⟩:=first_in ivs (fun x=>x.1 ∈ todo) ⟨x0,hx0,by rw [e0]; exact hi0⟩
    have hl2:l=pre.map Prod.fst ++ y.1 :: post.map Prod.fst:=by rw [← hl,e1]; simp
    have hord2:=hord
    rw [hl2] at hord2
    obtain ⟨⟨o,ho,h1⟩,h2,h3⟩:=orderOK_split _ hord2
    have hyl:=htl y.1 e2
    have:y.1 ∈ Region.ready .any ops listed:=ready_intro hlisted ho (by
     rintro (h | h | h | h)
     ·exact h2 h
     ·exact h.2 e2
     ·exact hi2 (h.1 ▸ hyl)
     ·exact hj2 (h.1 ▸ hyl)) (fun j hj=>by
     rcases h1 j hj with h | h
     ·exact ⟨hdone j h,.inl h⟩
     ·obtain ⟨y',hy,rfl⟩:=List.mem_map.1 h
      have hyi:y' ∈ ivs:=by rw [e1]; exact List.mem_append_left _ hy
      exact ⟨(hin _ (fst_in y' hyi)).2,.inr (.inl ⟨fst_in y' hyi,e3 y' hy⟩)⟩)
    rw [hr] at this; cases this
   | nil =>
    subst htd
    by_cases hp0:ph=0
    ·have:i ∈ Region.ready .any ops listed:=ready_intro hlisted hi (by
      rintro (h | h | h | h)
      ·exact hi1 h
      ·exact hi2 h.1
      ·omega
      ·exact hne h.1) (fun q hq=>⟨hdone q (hia q hq),.inl (hia q hq)⟩)
     rw [hr] at this; cases this
    ·have hp1:ph=1:=by simp at hlen; omega
     have:j ∈ Region.ready .any ops listed:=ready_intro hlisted hj (by
      rintro (h | h | h | h)
      ·exact hj1 h
      ·exact hj2 h.1
      ·exact hne h.1.symm
      ·omega) (fun q hq=>by
      rcases hja q hq with h | h | h
      ·exact ⟨hdone q h,.inl h⟩
      ·exact ⟨(hin q h).2,.inr (.inl ⟨h,by simp⟩)⟩
      ·subst h; exact ⟨hil,.inr (.inr (.inl ⟨rfl,by omega⟩))⟩)
     rw [hr] at this; cases this
  ·obtain ⟨hlt,hnD,o,ho,haft⟩:=ready_inv hlisted hr
   have hcase:r ∈ todo ∨ (r=i ∧ ph=0) ∨ (r=j ∧ ph=1):=by
    rcases hcov r hlt with h | h | h | h | h
    ·exact absurd (.inl h) hnD
    ·exact .inl (Classical.byContradiction fun hc=>hnD (.inr (.inl ⟨h,hc⟩)))
    ·exact .inr (.inl ⟨h,Classical.byContradiction fun hc=>hnD (.inr (.inr (.inl ⟨h,by omega⟩)))⟩)
    ·refine .inr (.inr ⟨h,?_⟩)
     have h2 : ¬ 2 ≤ ph:=fun hc=>hnD (.inr (.inr (.inr ⟨h,hc⟩)))
     rw [h,hj] at ho; cases ho
     rcases hlD i (haft i hij) with h' | h' | h' | h'
     ·exact absurd h' hi1
     ·exact absurd h'.1 hi2
     ·omega
     ·exact absurd h'.1 hne
    ·exfalso
     obtain ⟨o',ho',hb⟩:=okAft_inv (hlater r h)
     rw [ho] at ho'; cases ho'
     simp only [Bool.or_eq_true] at hb
     rcases hb with hb | hb
     ·obtain ⟨q,hq,hql⟩:=List.any_eq_true.1 hb
      have hql' : q ∈ later:=by simpa using hql
      obtain ⟨f1,f2,f3,f4⟩:=hfresh q hql'
      rcases hlD q (haft q hq) with h' | h' | h' | h'
      ·exact f1 h'
      ·exact f2 h'.1
      ·exact f3 h'.1
      ·exact f4 h'.1
     ·have hall:=List.all_eq_true.1 hb
      have ha:∀ q ∈ l ++ [i,j],q ∈ aft o:=fun q hq=>by simpa using hall q hq
      have hj9:=hlD j (haft j (ha j (by simp)))
      have hp2:ph=2:=by
       rcases hj9 with h' | h' | h' | h'
       ·exact absurd h' hj1
       ·exact absurd h'.1 hj2
       ·exact absurd h'.1.symm hne
       ·omega
      cases htd:todo with
      | nil=>rw [htd,hp2] at hlen; simp at hlen
      | cons q tl =>
       have hqt:q ∈ todo:=by rw [htd]; exact List.mem_cons_self
       have hql:=htl q hqt
       rcases hlD q (haft q (ha q (by simp [hql]))) with h' | h' | h' | h'
       ·exact (hin q hql).1 h'
       ·exact h'.2 hqt
       ·exact hi2 (h'.1 ▸ hql)
       ·exact hj2 (h'.1 ▸ hql)
   rcases hcase with hit | ⟨rfl,hp0⟩ | ⟨rfl,hp1⟩
   ·
    obtain ⟨pre,v,post,o',e1,ho',hpre,hnd',hipre⟩:=split_of r hit
    rw [ho] at ho'; cases ho'
    obtain ⟨o2,ho2,hf⟩:=hfact pre r v post e1
    rw [ho] at ho2; cases ho2
    have hivs:(r,v) ∈ ivs:=by rw [e1]; simp
    obtain ⟨o3,ho3,_,hcal⟩:=calm_inv r (htl r hit)
    rw [ho] at ho3; cases ho3
    have hpi:∀ y ∈ pre,y ∈ ivs:=fun y hy=>by rw [e1]; exact List.mem_append_left _ hy
    obtain ⟨hrt,hrr,_⟩:=hls r (htl r hit)
    have hreads:∀ u ∈ opReads ops o,lkT u (stP ops s t (t :: p) (tzero P ty) (storeBox 0 (s1.get (.tmp x)) (tzero P ty)) ph L).ts=lkT u (putAll ops s pre).ts:=by
     intro u hu
     have hut:u ≠ t:=fun e=>hrr (by rw [← e]; simp only [readsOf,ho]; exact hu)
     rw [stP_lk hut]
     have hpap:Apart ops pre:=fun x hx y hy=>apart x (hpi x hx) y (hpi y hy)
     have hLap:Apart ops L:=fun x hx y hy=>apart x (hL x hx).1 y (hL y hy).1
     by_cases hex:∃ y ∈ ivs,dstOf ops y.1=some u ∧ y.1 ≠ r
     ·obtain ⟨y,hy,hyd,hyi⟩:=hex
      have hya:y.1 ∈ aft o:=by
       rcases hcal y.1 (fst_in y hy) with h2 | ⟨_,h2 | h2⟩
       ·exact absurd h2 hyi
       ·exact absurd hyd (h2 u hu)
       ·exact h2
      have hyL:y ∈ L:=by
       refine hL' y hy fun hyt=>?_
       have hyl:=fst_in y hy
       rcases hlD y.1 (haft y.1 hya) with h | h | h | h
       ·exact (hin y.1 hyl).1 h
       ·exact h.2 hyt
       ·exact hi2 (h.1 ▸ hyl)
       ·exact hj2 (h.1 ▸ hyl)
      have hyp:y ∈ pre:=by
       rcases hpre y.1 hya with h | h
       ·exact absurd h (hin y.1 (fst_in y hy)).1
       ·obtain ⟨z,hz,e⟩:=List.mem_map.1 h
        rw [← same z (hpi z hz) y hy e]; exact hz
      rw [lk_mem hLap hyL hyd,lk_mem hpap hyp hyd]
     ·rw [lk_not (fun y hy hd=>?_),lk_not (fun y hy hd=>?_)]
      ·by_cases hyi:y.1=r
       ·exact hipre (List.mem_map.2 ⟨y,hy,hyi⟩)
       ·exact hex ⟨y,hpi y hy,hd,hyi⟩
      ·by_cases hyi:y.1=r
       ·exact (hL y hy).2 (by rw [hyi]; exact hit)
       ·exact hex ⟨y,(hL y hy).1,hd,hyi⟩
    obtain ⟨b1,b2,b3,b4,b5,b6⟩:=putAll_fields (ops:=ops) (s:=s) pre
    obtain ⟨c1,c2,c3,c4,c5,c6⟩:=putAll_fields (ops:=ops) (s:=s) L
    have hbe:BxExt (putAll ops s pre) (stP ops s t (t :: p) (tzero P ty) (storeBox 0 (s1.get (.tmp x)) (tzero P ty)) ph L):=by
     refine ⟨?_,fun nm c hc=>by
      rw [putAll_vc pre] at hc
      match ph with
      | 0=>exact (congrArg (lookN nm) (putAll_vc L)).trans hc
      | 1=>exact (congrArg (lookN nm) (putAll_vc L)).trans hc
      | n + 2=>exact (congrArg (lookN nm) (putAll_vc L)).trans hc⟩
     intro nm c hc
     rw [b4] at hc
     have hnf:t :: p ≠ nm:=fun e=>by rw [← e,hsb] at hc; cases hc
     match ph with
     | 0=>simp only [stP,c4]; exact hc
     | 1=>simp only [stP,lookN,if_neg hnf]; exact hc
     | n + 2=>simp only [stP,lookN,if_neg hnf]; exact hc
    have hn9:(stP ops s t (t :: p) (tzero P ty) (storeBox 0 (s1.get (.tmp x)) (tzero P ty)) ph L).n=(putAll ops s pre).n:=by
     rw [b2]
     match ph with
     | 0=>exact c2
     | 1=>exact c2
     | n + 2=>exact c2
    have hev:=hf _ hbe hn9 hreads (fun s2=>∃ s1',Like s1' (stP ops s t (t :: p) (tzero P ty) (storeBox 0 (s1.get (.tmp x)) (tzero P ty)) ph L) ∧ s2=s1'.put o.dst v) (fun s1 h1=>⟨s1,h1,rfl⟩)
    rw [← hrd3]
    refine op1_sound ho hR2 ?_ hev
    rintro m4 s4 a4 w4 ⟨s1',hs1',rfl⟩ hR4 hst4 hrd4 hds4
    rw [hrd3]
    refine ih ph (L ++ [(r,v)]) (todo.erase r) _ m4 _ a4 w4 hph (by rw [List.length_erase_of_mem hit]; have:=List.length_pos_of_mem hit; omega) (htn.erase r) (fun j hj=>htl j (List.mem_of_mem_erase hj)) ?_ ?_ ?_ hR4 (hst3.trans hst4) (hrd4.trans hrd3) (hds4.trans hds) ?_
    ·intro x hx
     rcases List.mem_append.1 hx with h | h
     ·exact ⟨(hL x h).1,fun hc=>(hL x h).2 (List.mem_of_mem_erase hc)⟩
     ·simp only [List.mem_singleton] at h; subst h
      exact ⟨hivs,fun hc=>by rw [htn.mem_erase_iff] at hc; exact hc.1 rfl⟩
    ·intro x hx hxt
     by_cases hxi:x.1=r
     ·exact List.mem_append_right _ (by rw [same x hx _ hivs hxi]; simp)
     ·exact List.mem_append_left _ (hL' x hx fun hc=>hxt ((htn.mem_erase_iff).2 ⟨hxi,hc⟩))
    ·rw [← dstOf_eq ho]
     exact (hs1'.put _ _).trans (stP_put hrt)
    ·refine (hlisted.set r).congr fun q=>?_
     constructor
     ·rintro ((h | h | h | h) | h)
      ·exact .inl h
      ·exact .inr (.inl ⟨h.1,fun hc=>h.2 (List.mem_of_mem_erase hc)⟩)
      ·exact .inr (.inr (.inl h))
      ·exact .inr (.inr (.inr h))
      ·subst h; exact .inr (.inl ⟨htl q hit,fun hc=>by rw [htn.mem_erase_iff] at hc; exact hc.1 rfl⟩)
     ·rintro (h | h | h | h)
      ·exact .inl (.inl h)
      ·by_cases hji:q=r
       ·exact .inr hji
       ·exact .inl (.inr (.inl ⟨h.1,fun hc=>h.2 ((htn.mem_erase_iff).2 ⟨hji,hc⟩)⟩))
      ·exact .inl (.inr (.inr (.inl h)))
      ·exact .inl (.inr (.inr (.inr h)))
   ·
    subst hp0
    rw [hi] at ho; cases ho
    obtain ⟨c1,c2,c3,c4,c5,c6⟩:=putAll_fields (ops:=ops) (s:=s) L
    have hev9:evOps P (sems P) p ops [oi] (putAll ops s L) (fun s2=>s2=stP ops s t (t :: p) (tzero P ty) (storeBox 0 (s1.get (.tmp x)) (tzero P ty)) 1 L):=by
     simp only [evOps,hid,hig,evOp,hio,claim_notNil hz,Option.getD_some]
     refine ⟨by rw [c2,← hsn]; exact hA0,hA1,hA2,refs_putAll href (fun y hy=>hv_refs y (hL y hy).1),by rw [c4]; exact hsb,?_⟩
     simp only [stP,Sa.put,c4]
    rw [← hrd3]
    refine op1_sound hi hR2 ?_ hev9
    rintro m4 s4 a4 w4 rfl hR4 hst4 hrd4 hds4
    rw [hrd3]
    refine ih 1 L todo _ m4 _ a4 w4 (by omega) (by omega) htn htl hL hL' (Like.refl _) hR4 (hst3.trans hst4) (hrd4.trans hrd3) (hds4.trans hds) ?_
    refine (hlisted.set r).congr fun q=>?_
    constructor
    ·rintro ((h | h | h | h) | h)
     ·exact .inl h
     ·exact .inr (.inl h)
     ·omega
     ·omega
     ·exact .inr (.inr (.inl ⟨h,by omega⟩))
    ·rintro (h | h | h | h)
     ·exact .inl (.inl h)
     ·exact .inl (.inr (.inl h))
     ·exact .inr h.1
     ·omega
   ·
    subst hp1
    rw [hj] at ho; cases ho
    obtain ⟨c1,c2,c3,c4,c5,c6⟩:=putAll_fields (ops:=ops) (s:=s) L
    have hLap:Apart ops L:=fun x hx y hy=>apart x (hL x hx).1 y (hL y hy).1
    have hxv:lkT x (putAll ops s L).ts=s1.get (.tmp x):=by
     show _=lkT x s1.ts
     rw [hs1.ts x]
     by_cases hex:∃ y ∈ ivs,dstOf ops y.1=some x
     ·obtain ⟨y,hy,hyd⟩:=hex
      have hyl:=fst_in y hy
      have hyL:y ∈ L:=by
       refine hL' y hy fun hyt=>?_
       rcases hlD y.1 (haft y.1 ((hls y.1 hyl).2.2 hyd)) with h | h | h | h
       ·exact (hin y.1 hyl).1 h
       ·exact h.2 hyt
       ·exact hi2 (h.1 ▸ hyl)
       ·exact hj2 (h.1 ▸ hyl)
      rw [lk_mem hLap hyL hyd,lk_mem apart hy hyd]
     ·rw [lk_not (fun y hy hd=>hex ⟨y,(hL y hy).1,hd⟩),lk_not (fun y hy hd=>hex ⟨y,hy,hd⟩)]
    have hev9:evOps P (sems P) p ops [oj] (stP ops s t (t :: p) (tzero P ty) (storeBox 0 (s1.get (.tmp x)) (tzero P ty)) 1 L) (fun s2=>s2=stP ops s t (t :: p) (tzero P ty) (storeBox 0 (s1.get (.tmp x)) (tzero P ty)) 2 L):=by
     have g1:(stP ops s t (t :: p) (tzero P ty) (storeBox 0 (s1.get (.tmp x)) (tzero P ty)) 1 L).get (.tmp t) = .ptr (t :: p) 0:=by simp only [stP,Sa.get,lkT_setT',if_true]
     have g2:(stP ops s t (t :: p) (tzero P ty) (storeBox 0 (s1.get (.tmp x)) (tzero P ty)) 1 L).get (.tmp x)=s1.get (.tmp x):=by
      rw [← hxv]; exact stP_lk hxt
     have g3:lookN (t :: p) (stP ops s t (t :: p) (tzero P ty) (storeBox 0 (s1.get (.tmp x)) (tzero P ty)) 1 L).bx=some (tzero P ty):=by simp [stP,lookN]
     simp only [evOps,hjd,hjg,evOp,hjo,g1,g2,g3,claim_notNil hxn]
     refine ⟨trivial,hB1,hB2,hB3,hB4,?_⟩
     simp only [stP,Sa.put,setN,if_true]
    rw [← hrd3]
    refine op1_sound hj hR2 ?_ hev9
    rintro m4 s4 a4 w4 rfl hR4 hst4 hrd4 hds4
    rw [hrd3]
    refine ih 2 L todo _ m4 _ a4 w4 (by omega) (by omega) htn htl hL hL' (Like.refl _) hR4 (hst3.trans hst4) (hrd4.trans hrd3) (hds4.trans hds) ?_
    refine (hlisted.set r).congr fun q=>?_
    constructor
    ·rintro ((h | h | h | h) | h)
     ·exact .inl h
     ·exact .inr (.inl h)
     ·exact .inr (.inr (.inl ⟨h.1,by omega⟩))
     ·exact .inr (.inr (.inr ⟨h.1,by omega⟩))
     ·exact .inr (.inr (.inr ⟨h,by omega⟩))
    ·rintro (h | h | h | h)
     ·exact .inl (.inl h)
     ·exact .inl (.inr (.inl h))
     ·exact .inl (.inr (.inr (.inl ⟨h.1,by omega⟩)))
     ·exact .inr h.1
theorem strip_put {f:Name} {d:Option Tmp} {v:V} (h:s.strip f=s) (hv:v.strip f=v) : (s.put d v).strip f=s.put d v:=by
 cases d with
 | none=>exact h
 | some d =>
  have h1:mapT (V.strip f) s.ts=s.ts:=congrArg Sa.ts h
  have e:∀ l:List (Nat × V),mapT (V.strip f) l=l → mapT (V.strip f) (setT d v l)=setT d v l:=by
   intro l
   induction l with
   | nil=>intro _; simp [setT,mapT,hv]
   | cons x l ih =>
    obtain ⟨a,b⟩:=x
    intro hl
    simp only [mapT,List.map_cons,List.cons.injEq,Prod.mk.injEq,true_and] at hl
    simp only [setT]
    split
    ·simp only [mapT,List.map_cons,hv]; exact congrArg _ hl.2
    ·simp only [mapT,List.map_cons,hl.1]; exact congrArg _ (ih hl.2)
  have h2:=e _ h1
  show ({ s.strip f with ts:=mapT (V.strip f) (setT d v s.ts) }:Sa)=_
  rw [h2,h]; rfl
theorem strip_putAll {f:Name}:∀ {L:List (Nat × V)} {s:Sa},s.strip f=s → (∀ x ∈ L,x.2.strip f=x.2) → (putAll ops s L).strip f=putAll ops s L:=by
 intro L
 induction L with
 | nil=>intro s h _; exact h
 | cons x L ih=>intro s h hL; exact ih (strip_put h (hL x List.mem_cons_self)) (fun y hy=>hL y (List.mem_cons_of_mem _ hy))
theorem strip_lk {f:Name} {u:Nat} (h:s.strip f=s) : (lkT u s.ts).strip f=lkT u s.ts:=by
 have h1:mapT (V.strip f) s.ts=s.ts:=congrArg Sa.ts h
 have h2:=look_mapT (V.strip f) (by simp [V.strip]) u s.ts
 rw [h1] at h2; exact h2.symm
theorem strip_vc {f:Name} (h:s.strip f=s) : lookN f s.vc=none:=by
 have h1:s.vc.filter (fun x=>x.1 != f)=s.vc:=congrArg Sa.vc h
 rw [← h1,lookN_filter (q:=fun j=>j != f)]; simp
theorem vturn_made {f:Name} {sz:Nat} {xs:List D} (h:s.strip f=s) : s.vturn f sz xs=s.made f sz xs:=by
 unfold Sa.vturn Sa.made; rw [h]
def stM (ops:Array Oper) (s:Sa) (t:Nat) (f:Name) (sz:Nat) (xs:List D) (ph:Nat) (L:List (Nat × V)) : Sa :=
 match ph with
 | 0=>putAll ops s L
 | _=>{ (putAll ops s L) with ow:=f :: s.ow,vc:=(f,(sz,xs)) :: s.vc,ts:=setT t (.vsl f) (putAll ops s L).ts }
theorem stM_lk {t:Nat} {f:Name} {sz:Nat} {xs:List D} {ph:Nat} {L:List (Nat × V)} {u:Nat} (hu:u ≠ t) : lkT u (stM ops s t f sz xs ph L).ts=lkT u (putAll ops s L).ts:=by
 match ph with
 | 0=>rfl
 | n + 1=>simp only [stM,lkT_setT',if_neg (Ne.symm hu)]
theorem stM_put {t:Nat} {f:Name} {sz:Nat} {xs:List D} {ph:Nat} {L:List (Nat × V)} {q:Nat} {v:V} (hq:dstOf ops q ≠ some t) : Like ((stM ops s t f sz xs ph L).put (dstOf ops q) v) (stM ops s t f sz xs ph (L ++ [(q,v)])):=by
 have e:putAll ops s (L ++ [(q,v)])=(putAll ops s L).put (dstOf ops q) v:=by rw [putAll_append]; rfl
 cases hd:dstOf ops q with
 | none =>
  rw [hd] at e
  have e' : putAll ops s (L ++ [(q,v)])=putAll ops s L:=e
  match ph with
  | 0=>simp only [stM,e']; exact Like.refl _
  | n + 1=>simp only [stM,e']; exact Like.refl _
 | some d =>
  rw [hd] at e hq
  have hdt:d ≠ t:=fun h=>hq (by rw [h])
  match ph with
  | 0=>simp only [stM,e]; exact Like.refl _
  | n + 1 =>
   simp only [stM,e]
   refine ⟨rfl,rfl,rfl,rfl,rfl,rfl,fun u=>?_,rfl⟩
   simp only [Sa.put,lkT_setT']
   split <;> split <;> simp_all
theorem make_sound {l done later:List Nat} {ivs:List (Nat × V)} {j t:Nat} {oj:Oper} {fv:Operand} {as:List Operand} {g:FuncId} {ds xs:List D} {sz:Nat} {s1:Sa} (hl:ivs.map Prod.fst=l) (hcalm:∀ i ∈ l,calmOK ops l i=true) (hord:orderOK ops done l=true)
  (hj:ops[j]? = some oj) (hco:callOf oj=some (t,fv,as))
  (hja:∀ q ∈ aft oj,q ∈ done ∨ q ∈ l) (hls:∀ q ∈ l,dstOf ops q ≠ some t ∧ t ∉ readsOf ops q ∧ ((∀ u ∈ readsOf ops j,dstOf ops q ≠ some u) ∨ q ∈ aft oj)) (hj1:j ∉ done) (hj2:j ∉ l)
  (hlater:∀ q ∈ later,okAft ops q (fun al=>al.any later.contains || (l ++ [j]).all (need ops (j :: l.reverse) al).contains)=true) (hfresh:∀ q ∈ later,q ∉ done ∧ q ∉ l ∧ q ≠ j) (hcov:∀ q < ops.size,q ∈ done ∨ q ∈ l ∨ q=j ∨ q ∈ later)
  (hdone:∀ q ∈ done,q < ops.size)
  (hfact:∀ pre i v post,ivs=pre ++ (i,v) :: post → OpFact P p ops i v (putAll ops s pre)) (hs1:Like s1 (putAll ops s ivs)) (hst0:s.strip (t :: p)=s) (hst1:s1.strip (t :: p)=s1) (htn0:t < s1.n)
  (hfv:s1.get fv = .d (.v (.func (.func g) #[] #[]))) (hcal:callable P g=true) (hds:toDs V.toD (as.map s1.get)=some ds) (hmk:MakeOK P g ds sz xs) {fuel:Nat} {dd:List Deferred}
  (hN:PartNext P ops Q n Mo m s dd sv w fuel (fun q=>q ∈ done ∨ q ∈ l ∨ q=j) (fun s'=>Like s' ((s1.made (t :: p) sz xs).put (some t) (.vsl (t :: p))))) :
  ∀ (N ph:Nat) (L:List (Nat × V)) (todo:List Nat) (listed:Array Bool) (m' : Mp) (s' : Sa) (a' : Act) (w' : World),ph ≤ 1 → N=todo.length + (1 - ph) → todo.Nodup → (∀ j ∈ todo,j ∈ l) → (∀ x ∈ L,x ∈ ivs ∧ x.1 ∉ todo) → (∀ x ∈ ivs,x.1 ∉ todo → x ∈ L) →
   Like s' (stM ops s t (t :: p) sz xs ph L) → Rel Mo m' s' (a' :: sv) w' → Step m s w m' s' w' → rdOf m' s' = rdOf m s → a'.defers=dd →
   (∀ q,((q ∈ l ∧ q ∉ todo) ∨ (q=j ∧ 1 ≤ ph)) → ∀ x ∈ aftOf ops q,x ∈ done ∨ (x ∈ l ∧ x ∉ todo) ∨ (x=j ∧ 1 ≤ ph)) → Listed ops listed (fun q=>q ∈ done ∨ (q ∈ l ∧ q ∉ todo) ∨ (q=j ∧ 1 ≤ ph)) →
   wpAnyIn (Wd (rdOf m s)) n P .any ops Q (fuel + N) listed a' w':=by
 obtain ⟨hjd,hjg,cl,hjo,hcl,has⟩:=callOf_inv hco
 obtain ⟨hnd,hin⟩:=orderOK_nodup hord
 have hndf:(ivs.map Prod.fst).Nodup:=by rw [hl]; exact hnd
 have fst_in:∀ x ∈ ivs,x.1 ∈ l:=fun x hx=>by rw [← hl]; exact List.mem_map.2 ⟨x,hx,rfl⟩
 have same:∀ x ∈ ivs,∀ y ∈ ivs,x.1=y.1 → x=y:=by
  intro x hx y hy e
  obtain ⟨i,hi,rfl⟩:=List.getElem_of_mem hx
  obtain ⟨j,hj,rfl⟩:=List.getElem_of_mem hy
  have:=(List.getElem_inj (xs:=ivs.map Prod.fst) (h₀:=by simpa using hi) (h₁:=by simpa using hj) hndf).1 (by simpa using e)
  subst this; rfl
 have calm_inv:∀ q ∈ l,∃ o,ops[q]? = some o ∧ o.dst.isSome=true ∧ ∀ r ∈ l,r=q ∨ (dstOf ops r ≠ o.dst ∧ ((∀ u ∈ opReads ops o,dstOf ops r ≠ some u) ∨ r ∈ aft o)):=by
  intro q hq
  have hc:=hcalm q hq
  unfold calmOK at hc
  split at hc
  ·rename_i o ho
   simp only [Bool.and_eq_true] at hc
   refine ⟨o,ho,hc.2.1,fun r hr=>?_⟩
   have:=List.all_eq_true.1 hc.2.2 r hr
   simp only [Bool.or_eq_true,beq_iff_eq,Bool.and_eq_true,bne_iff_ne] at this
   rcases this with h | ⟨h,h2⟩
   ·exact .inl h
   ·refine .inr ⟨h,h2.imp (fun h2 u hu=>?_) (fun h2=>by simpa using h2)⟩
    simpa using List.all_eq_true.1 h2 u hu
  ·cases hc
 have apart:Apart ops ivs:=by
  intro x hx y hy u h1 h2
  refine same x hx y hy ?_
  obtain ⟨o,ho,_,hc⟩:=calm_inv x.1 (fst_in x hx)
  rcases hc y.1 (fst_in y hy) with h | ⟨h,_⟩
  ·exact h.symm
  ·exact absurd (by rw [h2,← dstOf_eq ho,h1]) h
 have hv_strip:∀ x ∈ ivs,x.2.strip (t :: p)=x.2:=by
  intro y hy
  obtain ⟨o,ho,hd,_⟩:=calm_inv y.1 (fst_in y hy)
  obtain ⟨d,hd⟩:=Option.isSome_iff_exists.1 hd
  have e1:=lk_mem (s:=s) apart hy ((dstOf_eq ho).trans hd)
  rw [← e1,← hs1.ts d]
  exact strip_lk hst1
 have hvn:lookN (t :: p) s.vc=none:=strip_vc hst0
 have hsn:s1.n=s.n:=by rw [hs1.n,(putAll_fields (ops:=ops) (s:=s) ivs).2.1]
 intro N
 induction N with
 | zero =>
  intro ph L todo listed m' s' a' w' hph hlen _ _ hL hL' hlike hR hst hrd hdd hclo hlisted
  have h1:todo=[]:=List.eq_nil_of_length_eq_zero (by omega)
  have h2:ph=1:=by omega
  subst h1 h2
  refine hN m' s' a' w' listed ?_ hR hst hrd hdd (hlisted.congr fun q=>by simp)
  refine hlike.trans ?_
  have hls:=like_sets (s:=s) apart (L:=L) fun x=>⟨fun hx=>(hL x hx).1,fun hx=>hL' x hx (by simp)⟩
  have hl2:=hls.trans hs1.symm
  have e1:=(putAll_fields (ops:=ops) (s:=s) ivs)
  simp only [stM,Sa.put,Sa.made]
  refine ⟨hl2.rd,hl2.n,hl2.sv,hl2.bx,hl2.lp,?_,fun u=>?_,?_⟩
  ·show (t :: p) :: s.ow=(t :: p) :: s1.ow
   rw [hs1.ow,e1.2.2.2.2.2]
  ·simp only [lkT_setT',hl2.ts u]
  ·show (t :: p,(sz,xs)) :: s.vc=(t :: p,(sz,xs)) :: s1.vc
   rw [hs1.vc,putAll_vc ivs]
 | succ N ih =>
  intro ph L todo listed m' s' a' w' hph hlen htn htl hL hL' hlike hR hst hrd hdd hclo hlisted
  have split_of:∀ i ∈ todo,∃ pre v post o,ivs=pre ++ (i,v) :: post ∧ ops[i]? = some o ∧ (∀ j ∈ aft o,j ∈ done ∨ j ∈ pre.map Prod.fst) ∧ i ∉ done ∧ i ∉ pre.map Prod.fst:=by
   intro i hi
   have hil:=htl i hi
   rw [← hl] at hil
   obtain ⟨x,hx,rfl⟩:=List.mem_map.1 hil
   obtain ⟨pre,post,e⟩:=List.append_of_mem hx
   have hl2:l=pre.map Prod.fst ++ x.1 :: post.map Prod.fst:=by rw [← hl,e]; simp
   rw [hl2] at hord
   obtain ⟨⟨o,ho,h1⟩,h2,h3⟩:=orderOK_split _ hord
   exact ⟨pre,x.2,post,o,e,ho,h1,h2,h3⟩
  have hlt' : ∀ q,listed.getD q false=true → q < ops.size:=fun q h1=>by
   have:q < listed.size:=by
    rcases Nat.lt_or_ge q listed.size with h' | h'
    ·exact h'
    ·simp [Array.getElem?_eq_none h'] at h1
   rw [← hlisted.1]; exact this
  have hlD:∀ q,listed.getD q false=true → q ∈ done ∨ (q ∈ l ∧ q ∉ todo) ∨ (q=j ∧ 1 ≤ ph):=fun q h=>(hlisted.false' (hlt' q h)).1 h
  have hjl:j < ops.size:=(Array.getElem?_eq_some_iff.1 hj).1
  obtain ⟨m2,hR2,hst2,hrd2⟩:=hlike.wk Mo m' _ w' hR
  have hst3:=hst.trans hst2
  have hrd3:=hrd2.trans hrd
  refine ⟨fun hr=>?_,fun r hr=>?_⟩
  ·exfalso
   cases htd:todo with
   | cons i0 tl =>
    have hi0:i0 ∈ todo:=by rw [htd]; exact List.mem_cons_self
    obtain ⟨x0,hx0,e0⟩:=List.mem_map.1 (by rw [hl]; exact htl i0 hi0:i0 ∈ ivs.map Prod.fst)
    obtain ⟨pre,y,post,e1,e2,e3⟩:=first_in ivs (fun x=>x.1 ∈ todo) ⟨x0,hx0,by rw [e0]; exact hi0⟩
    have hl2:l=pre.map Prod.fst ++ y.1 :: post.map Prod.fst:=by rw [← hl,e1]; simp
    have hord2:=hord
    rw [hl2] at hord2
    obtain ⟨⟨o,ho,h1⟩,h2,h3⟩:=orderOK_split _ hord2
    have hyl:=htl y.1 e2
    have:y.1 ∈ Region.ready .any ops listed:=ready_intro hlisted ho (by
     rintro (h | h | h)
     ·exact h2 h
     ·exact h.2 e2
     ·exact hj2 (h.1 ▸ hyl)) (fun j hj=>by
     rcases h1 j hj with h | h
     ·exact ⟨hdone j h,.inl h⟩
     ·obtain ⟨y',hy,rfl⟩:=List.mem_map.1 h
      have hyi:y' ∈ ivs:=by rw [e1]; exact List.mem_append_left _ hy
      exact ⟨(hin _ (fst_in y' hyi)).2,.inr (.inl ⟨fst_in y' hyi,e3 y' hy⟩)⟩)
    rw [hr] at this; cases this
   | nil =>
    subst htd
    have hp0:ph=0:=by simp at hlen; omega
    have:j ∈ Region.ready .any ops listed:=ready_intro hlisted hj (by
     rintro (h | h | h)
     ·exact hj1 h
     ·exact hj2 h.1
     ·omega) (fun q hq=>by
     rcases hja q hq with h | h
     ·exact ⟨hdone q h,.inl h⟩
     ·exact ⟨(hin q h).2,.inr (.inl ⟨h,by simp⟩)⟩)
    rw [hr] at this; cases this
  ·obtain ⟨hlt,hnD,o,ho,haft⟩:=ready_inv hlisted hr
   have hcase:r ∈ todo ∨ (r=j ∧ ph=0):=by
    rcases hcov r hlt with h | h | h | h
    ·exact absurd (.inl h) hnD
    ·exact .inl (Classical.byContradiction fun hc=>hnD (.inr (.inl ⟨h,hc⟩)))
    ·exact .inr ⟨h,Classical.byContradiction fun hc=>hnD (.inr (.inr ⟨h,by omega⟩))⟩
    ·exfalso
     obtain ⟨o',ho',hb⟩:=okAft_inv (hlater r h)
     rw [ho] at ho'; cases ho'
     simp only [Bool.or_eq_true] at hb
     rcases hb with hb | hb
     ·obtain ⟨q,hq,hql⟩:=List.any_eq_true.1 hb
      have hql' : q ∈ later:=by simpa using hql
      obtain ⟨f1,f2,f3⟩:=hfresh q hql'
      rcases hlD q (haft q hq) with h' | h' | h'
      ·exact f1 h'
      ·exact f2 h'.1
      ·exact f3 h'.1
     ·have hall:=List.all_eq_true.1 hb
      have hnd9:=need_all (ops:=ops) (q:=fun q=>q ∈ done ∨ (q ∈ l ∧ q ∉ todo) ∨ (q=j ∧ 1 ≤ ph)) (l:=j :: l.reverse) (S:=aft o) (fun q hq=>hlD q (haft q hq)) (fun q hq hqq x hx=>by
       have hql:q=j ∨ q ∈ l:=by simpa using hq
       rcases hqq with hqq | hqq
       ·rcases hql with e | e
        ·exact absurd (e ▸ hqq) hj1
        ·exact absurd hqq (hin q e).1
       ·exact hclo q hqq x hx)
      have ha:∀ q ∈ l ++ [j],q ∈ done ∨ (q ∈ l ∧ q ∉ todo) ∨ (q=j ∧ 1 ≤ ph):=fun q hq=>hnd9 q (by simpa using hall q hq)
      have hj9:=ha j (by simp)
      have hp2:ph=1:=by
       rcases hj9 with h' | h' | h'
       ·exact absurd h' hj1
       ·exact absurd h'.1 hj2
       ·omega
      cases htd:todo with
      | nil=>rw [htd,hp2] at hlen; simp at hlen
      | cons q tl =>
       have hqt:q ∈ todo:=by rw [htd]; exact List.mem_cons_self
       have hql:=htl q hqt
       rcases ha q (by simp [hql]) with h' | h' | h'
       ·exact (hin q hql).1 h'
       ·exact h'.2 hqt
       ·exact hj2 (h'.1 ▸ hql)
   rcases hcase with hit | ⟨rfl,hp0⟩
   ·
    obtain ⟨pre,v,post,o',e1,ho',hpre,hnd',hipre⟩:=split_of r hit
    rw [ho] at ho'; cases ho'
    obtain ⟨o2,ho2,hf⟩:=hfact pre r v post e1
    rw [ho] at ho2; cases ho2
    have hivs:(r,v) ∈ ivs:=by rw [e1]; simp
    obtain ⟨o3,ho3,_,hcal⟩:=calm_inv r (htl r hit)
    rw [ho] at ho3; cases ho3
    have hpi:∀ y ∈ pre,y ∈ ivs:=fun y hy=>by rw [e1]; exact List.mem_append_left _ hy
    obtain ⟨hrt,hrr,_⟩:=hls r (htl r hit)
    have hreads:∀ u ∈ opReads ops o,lkT u (stM ops s t (t :: p) sz xs ph L).ts=lkT u (putAll ops s pre).ts:=by
     intro u hu
     have hut:u ≠ t:=fun e=>hrr (by rw [← e]; simp only [readsOf,ho]; exact hu)
     rw [stM_lk hut]
     have hpap:Apart ops pre:=fun x hx y hy=>apart x (hpi x hx) y (hpi y hy)
     have hLap:Apart ops L:=fun x hx y hy=>apart x (hL x hx).1 y (hL y hy).1
     by_cases hex:∃ y ∈ ivs,dstOf ops y.1=some u ∧ y.1 ≠ r
     ·obtain ⟨y,hy,hyd,hyi⟩:=hex
      have hya:y.1 ∈ aft o:=by
       rcases hcal y.1 (fst_in y hy) with h2 | ⟨_,h2 | h2⟩
       ·exact absurd h2 hyi
       ·exact absurd hyd (h2 u hu)
       ·exact h2
      have hyL:y ∈ L:=by
       refine hL' y hy fun hyt=>?_
       have hyl:=fst_in y hy
       rcases hlD y.1 (haft y.1 hya) with h | h | h
       ·exact (hin y.1 hyl).1 h
       ·exact h.2 hyt
       ·exact hj2 (h.1 ▸ hyl)
      have hyp:y ∈ pre:=by
       rcases hpre y.1 hya with h | h
       ·exact absurd h (hin y.1 (fst_in y hy)).1
       ·obtain ⟨z,hz,e⟩:=List.mem_map.1 h
        rw [← same z (hpi z hz) y hy e]; exact hz
      rw [lk_mem hLap hyL hyd,lk_mem hpap hyp hyd]
     ·rw [lk_not (fun y hy hd=>?_),lk_not (fun y hy hd=>?_)]
      ·by_cases hyi:y.1=r
       ·exact hipre (List.mem_map.2 ⟨y,hy,hyi⟩)
       ·exact hex ⟨y,hpi y hy,hd,hyi⟩
      ·by_cases hyi:y.1=r
       ·exact (hL y hy).2 (by rw [hyi]; exact hit)
       ·exact hex ⟨y,(hL y hy).1,hd,hyi⟩
    obtain ⟨b1,b2,b3,b4,b5,b6⟩:=putAll_fields (ops:=ops) (s:=s) pre
    obtain ⟨c1,c2,c3,c4,c5,c6⟩:=putAll_fields (ops:=ops) (s:=s) L
    have hbe:BxExt (putAll ops s pre) (stM ops s t (t :: p) sz xs ph L):=by
     refine ⟨fun nm c hc=>?_,fun nm c hc=>?_⟩
     ·rw [b4] at hc
      match ph with
      | 0=>simp only [stM,c4]; exact hc
      | n + 1=>simp only [stM,c4]; exact hc
     ·rw [putAll_vc pre] at hc
      have hnf:t :: p ≠ nm:=fun e=>by rw [← e,hvn] at hc; cases hc
      match ph with
      | 0=>exact (congrArg (lookN nm) (putAll_vc L)).trans hc
      | n + 1=>simp only [stM,lookN,if_neg hnf]; exact hc
    have hn9:(stM ops s t (t :: p) sz xs ph L).n=(putAll ops s pre).n:=by
     rw [b2]
     match ph with
     | 0=>exact c2
     | n + 1=>exact c2
    have hev:=hf _ hbe hn9 hreads (fun s2=>∃ s1',Like s1' (stM ops s t (t :: p) sz xs ph L) ∧ s2=s1'.put o.dst v) (fun s1 h1=>⟨s1,h1,rfl⟩)
    rw [← hrd3]
    refine op1_sound ho hR2 ?_ hev
    rintro m4 s4 a4 w4 ⟨s1',hs1',rfl⟩ hR4 hst4 hrd4 hds4
    rw [hrd3]
    refine ih ph (L ++ [(r,v)]) (todo.erase r) _ m4 _ a4 w4 hph (by rw [List.length_erase_of_mem hit]; have:=List.length_pos_of_mem hit; omega) (htn.erase r) (fun j hj=>htl j (List.mem_of_mem_erase hj)) ?_ ?_ ?_ hR4 (hst3.trans hst4) (hrd4.trans hrd3) (hds4.trans hdd) ?_ ?_
    ·intro x hx
     rcases List.mem_append.1 hx with h | h
     ·exact ⟨(hL x h).1,fun hc=>(hL x h).2 (List.mem_of_mem_erase hc)⟩
     ·simp only [List.mem_singleton] at h; subst h
      exact ⟨hivs,fun hc=>by rw [htn.mem_erase_iff] at hc; exact hc.1 rfl⟩
    ·intro x hx hxt
     by_cases hxi:x.1=r
     ·exact List.mem_append_right _ (by rw [same x hx _ hivs hxi]; simp)
     ·exact List.mem_append_left _ (hL' x hx fun hc=>hxt ((htn.mem_erase_iff).2 ⟨hxi,hc⟩))
    ·rw [← dstOf_eq ho]
     exact (hs1'.put _ _).trans (stM_put hrt)
    ·have hkeep:∀ x,(x ∈ done ∨ (x ∈ l ∧ x ∉ todo) ∨ (x=j ∧ 1 ≤ ph)) → x ∈ done ∨ (x ∈ l ∧ x ∉ todo.erase r) ∨ (x=j ∧ 1 ≤ ph):=fun x h=>h.imp id fun h=>h.imp (fun h=>⟨h.1,fun hc=>h.2 (List.mem_of_mem_erase hc)⟩) id
     intro q hq x hx
     by_cases hqr:q=r
     ·subst hqr
      have hx' : x ∈ aft o:=by simpa [aftOf,ho] using hx
      exact hkeep x (hlD x (haft x hx'))
     ·refine hkeep x (hclo q ?_ x hx)
      rcases hq with h | h
      ·exact .inl ⟨h.1,fun hc=>h.2 ((htn.mem_erase_iff).2 ⟨hqr,hc⟩)⟩
      ·exact .inr h
    ·refine (hlisted.set r).congr fun q=>?_
     constructor
     ·rintro ((h | h | h) | h)
      ·exact .inl h
      ·exact .inr (.inl ⟨h.1,fun hc=>h.2 (List.mem_of_mem_erase hc)⟩)
      ·exact .inr (.inr h)
      ·subst h; exact .inr (.inl ⟨htl q hit,fun hc=>by rw [htn.mem_erase_iff] at hc; exact hc.1 rfl⟩)
     ·rintro (h | h | h)
      ·exact .inl (.inl h)
      ·by_cases hji:q=r
       ·exact .inr hji
       ·exact .inl (.inr (.inl ⟨h.1,fun hc=>h.2 ((htn.mem_erase_iff).2 ⟨hji,hc⟩)⟩))
      ·exact .inl (.inr (.inr h))
   ·
    subst hp0
    rw [hj] at ho; cases ho
    obtain ⟨c1,c2,c3,c4,c5,c6⟩:=putAll_fields (ops:=ops) (s:=s) L
    have hLap:Apart ops L:=fun x hx y hy=>apart x (hL x hx).1 y (hL y hy).1
    have hreads:∀ u ∈ opReads ops oj,lkT u (putAll ops s L).ts=lkT u s1.ts:=by
     intro u hu
     have hu' : u ∈ readsOf ops r:=by simp only [readsOf,hj]; exact hu
     rw [hs1.ts u]
     by_cases hex:∃ y ∈ ivs,dstOf ops y.1=some u
     ·obtain ⟨y,hy,hyd⟩:=hex
      have hyl:=fst_in y hy
      have hyL:y ∈ L:=by
       refine hL' y hy fun hyt=>?_
       have hya:y.1 ∈ aft oj:=by
        rcases (hls y.1 hyl).2.2 with h | h
        ·exact absurd hyd (h u hu')
        ·exact h
       rcases hlD y.1 (haft y.1 hya) with h | h | h
       ·exact (hin y.1 hyl).1 h
       ·exact h.2 hyt
       ·exact hj2 (h.1 ▸ hyl)
      rw [lk_mem hLap hyL hyd,lk_mem apart hy hyd]
     ·rw [lk_not (fun y hy hd=>hex ⟨y,(hL y hy).1,hd⟩),lk_not (fun y hy hd=>hex ⟨y,hy,hd⟩)]
    have hget:=reads_get (ops:=ops) (s:=s1) (s':=putAll ops s L) (o:=oj) hreads
    have hfv' : (putAll ops s L).get fv = .d (.v (.func (.func g) #[] #[])):=by rw [hget fv (by simp [hjo,Op.operands,Call.operands,hcl]),hfv]
    have hds' : toDs V.toD (cl.args.toList.map (putAll ops s L).get)=some ds:=by
     rw [← hds,← has]
     congr 1
     refine List.map_congr_left fun x hx=>hget x ?_
     simp [hjo,Op.operands,Call.operands,hcl]
     first | exact .inr hx | exact .inr (by simpa using hx) | simpa using hx
    have hstL:(putAll ops s L).strip (t :: p)=putAll ops s L:=strip_putAll hst0 (fun y hy=>hv_strip y (hL y hy).1)
    have hev9:evOps P (sems P) p ops [oj] (putAll ops s L) (fun s2=>s2=stM ops s t (t :: p) sz xs 1 L):=by
     simp only [evOps,hjd,hjg,evOp,hjo,hcl,hfv',Option.getD_some]
     refine ⟨by rw [c2,← hsn]; exact htn0,hcal,hmk [] _ _ (t :: p) _ hds' ?_⟩
     rw [vturn_made hstL]
     refine ⟨fun d hd=>?_,?_⟩
     ·cases hd
      show t < (putAll ops s L).n
      rw [c2,← hsn]; exact htn0
     ·simp only [stM,Sa.put,Sa.made,c6,putAll_vc L]
    rw [← hrd3]
    refine op1_sound hj hR2 ?_ hev9
    rintro m4 s4 a4 w4 rfl hR4 hst4 hrd4 hds4
    rw [hrd3]
    refine ih 1 L todo _ m4 _ a4 w4 (by omega) (by omega) htn htl hL hL' (Like.refl _) hR4 (hst3.trans hst4) (hrd4.trans hrd3) (hds4.trans hdd) (fun q hq x hx=>?_) ?_
    ·have hkeep:∀ x,(x ∈ done ∨ (x ∈ l ∧ x ∉ todo) ∨ (x=r ∧ 1 ≤ 0)) → x ∈ done ∨ (x ∈ l ∧ x ∉ todo) ∨ (x=r ∧ 1 ≤ 1):=fun x h=>h.imp id fun h=>h.imp id fun h=>⟨h.1,by omega⟩
     rcases hq with h | h
     ·exact hkeep x (hclo q (.inl h) x hx)
     ·have hx' : x ∈ aft oj:=by rw [h.1] at hx; simpa [aftOf,hj] using hx
      exact hkeep x (hlD x (haft x hx'))
    refine (hlisted.set r).congr fun q=>?_
    constructor
    ·rintro ((h | h | h) | h)
     ·exact .inl h
     ·exact .inr (.inl h)
     ·omega
     ·exact .inr (.inr ⟨h,by omega⟩)
    ·rintro (h | h | h)
     ·exact .inl (.inl h)
     ·exact .inl (.inr (.inl h))
     ·exact .inr h.1
theorem plan_sound:∀ (plan:List Seg) (done:List Nat) (listed:Array Bool) (m:Mp) (s:Sa) (a:Act) (w:World),planOK ops done plan=true → (∀ j ∈ done,j < ops.size) → Listed ops listed (· ∈ done) →
  Rel Mo m s (a :: sv) w → RegNext Mo m s a.defers sv w k Q → evPlan P p ops plan s k → wpAnyIn (Wd (rdOf m s)) n P .any ops Q (flat plan).length listed a w:=by
 intro plan
 induction plan with
 | nil =>
  intro done listed m s a w hp hdn hlisted hR hN h
  simp only [planOK,Bool.and_eq_true] at hp
  refine ⟨?_,hN m s a w h hR (Step.refl _ _ _) rfl rfl⟩
  refine List.eq_nil_iff_forall_not_mem.2 fun i hi=>?_
  obtain ⟨h1,h2,_⟩:=ready_inv hlisted hi
  exact h2 (by simpa using List.all_eq_true.1 hp.1 i (List.mem_range.2 h1))
 | cons x rest ih =>
  intro done listed m s a w hp hdn hlisted hR hN h
  cases x with
  | calm l =>
   have hfr:=planOK_fresh hp
   simp only [planOK,Bool.and_eq_true] at hp
   have hfr2:=planOK_fresh hp.2.2.2
   have hcalm:∀ i ∈ l,calmOK ops l i=true:=List.all_eq_true.1 hp.1
   have hnd:=orderOK_nodup hp.2.1
   simp only [evPlan] at h
   obtain ⟨ivs,s1,h1,h2,h3,h4⟩:=evSeg_run l (fun i hi=>by
    have:=hcalm i hi
    unfold calmOK at this
    split at this
    ·rename_i o ho; simp only [Bool.and_eq_true] at this; exact ⟨o,ho,this.1⟩
    ·cases this) h
   have e:(flat (.calm l :: rest)).length=(flat rest).length + l.length:=by simp only [flat,Seg.idx,List.length_append]; omega
   rw [e]
   refine seg_sound (later:=flat rest) (done:=done) h1 hcalm hp.2.1 (List.all_eq_true.1 hp.2.2.1) (fun j hj=>?_) (fun j hj=>?_) hdn h4 ?_ l.length [] l listed m s a w rfl hnd.1 (fun j hj=>hj) (fun x hx=>by cases hx)
    (fun x hx hxl=>absurd (by rw [← h1]; exact List.mem_map.2 ⟨x,hx,rfl⟩) hxl) (Like.refl s) hR (Step.refl _ _ _) rfl rfl (fun j hj hjt=>absurd hj hjt) (hlisted.congr fun j=>?_)
   ·have:=hfr2.1 j hj
    simp only [List.mem_append,List.mem_reverse,not_or] at this
    exact ⟨this.2,this.1⟩
   ·rcases hfr.2.1 j hj with h | h
    ·exact .inl h
    ·simp only [flat,Seg.idx,List.mem_append] at h; exact .inr h
   ·intro m' s' a' w' listed' hlike hR' hst hrd hds hlisted'
    obtain ⟨m2,hR2,hst2,hrd2⟩:=(hlike.trans h2.symm).wk Mo m' _ w' hR'
    have:=ih (l.reverse ++ done) listed' m2 s1 a' w' hp.2.2.2 (fun j hj=>?_) (hlisted'.congr fun j=>?_) hR2 (by rw [hds]; exact hN.step (hst.trans hst2) (hrd2.trans hrd)) h3
    ·rw [hrd2,hrd] at this; exact this
    ·rcases List.mem_append.1 hj with h | h
     ·exact (hnd.2 j (by simpa using h)).2
     ·exact hdn j h
    ·simp only [List.mem_append,List.mem_reverse]; exact ⟨Or.symm,Or.symm⟩
   ·constructor
    ·exact .inl
    ·rintro (h | h)
     ·exact h
     ·exact absurd h.1 h.2
  | bar i =>
   have hfr:=planOK_fresh hp
   simp only [planOK,Bool.and_eq_true] at hp
   have hfr2:=planOK_fresh hp.2.2
   simp only [evPlan] at h
   obtain ⟨⟨o,ho,hao⟩,hid,_⟩:=orderOK_split [] (post:=[]) hp.1
   rw [ho] at h
   simp only at h
   have hilt:i < ops.size:=(Array.getElem?_eq_some_iff.1 ho).1
   have e:(flat (.bar i :: rest)).length=(flat rest).length + 1:=by simp [flat,Seg.idx]
   rw [e]
   refine ⟨fun hr=>?_,fun j hj=>?_⟩
   ·have:i ∈ Region.ready .any ops listed:=ready_intro hlisted ho hid (fun j hj=>by
     rcases hao j hj with h | h
     ·exact ⟨hdn j h,h⟩
     ·cases h)
    rw [hr] at this; cases this
   ·obtain ⟨hlt,hnD,o',ho',haft⟩:=ready_inv hlisted hj
    have hji:j=i:=by
     refine Classical.byContradiction fun hne=>?_
     have hjr:j ∈ flat rest:=by
      rcases hfr.2.1 j hlt with h | h
      ·exact absurd h hnD
      ·simp only [flat,Seg.idx,List.cons_append,List.nil_append,List.mem_cons] at h
       exact h.resolve_left hne
     obtain ⟨o2,ho2,hb⟩:=okAft_inv (List.all_eq_true.1 hp.2.1 j hjr)
     rw [ho'] at ho2; cases ho2
     obtain ⟨q,hq,hqi⟩:=List.any_eq_true.1 hb
     have hqi' : q=i ∨ q ∈ flat rest:=by simpa using hqi
     have h1:=haft q hq
     have hqs:q < ops.size:=by
      have:q < listed.size:=by
       rcases Nat.lt_or_ge q listed.size with h' | h'
       ·exact h'
       ·simp [Array.getElem?_eq_none h'] at h1
      rw [← hlisted.1]; exact this
     have h2:=(hlisted.false' hqs).1 h1
     rcases hqi' with h3 | h3
     ·subst h3; exact hid h2
     ·exact hfr2.1 q h3 (List.mem_cons_of_mem _ h2)
    subst hji
    refine op1_sound ho hR ?_ h
    intro m' s' a' w' hk hR' hst hrd hds
    have:=ih (j :: done) (listed.setIfInBounds j true) m' s' a' w' hp.2.2 (fun q hq=>?_) ((hlisted.set j).congr fun q=>?_) hR' (by rw [hds]; exact hN.step hst hrd) hk
    ·rw [hrd] at this; exact this
    ·rcases List.mem_cons.1 hq with h | h
     ·subst h; exact hilt
     ·exact hdn q h
    ·simp only [List.mem_cons]; exact ⟨Or.symm,Or.symm⟩
  | fresh l i j =>
   have hfr:=planOK_fresh hp
   simp only [planOK,Bool.and_eq_true] at hp
   have hfr2:=planOK_fresh hp.2.2.2.2
   have hcalm:∀ i ∈ l,calmOK ops l i=true:=List.all_eq_true.1 hp.1
   have hnd:=orderOK_nodup hp.2.1
   obtain ⟨oi,oj,t,ty,ty',x,hi,hj,hid,hio,hjo,hxt,hig,hjg,hjd,hia,hja,hij,hls,hi1,hj1,hi2,hj2,hne⟩:=freshOK_inv hp.2.2.1
   simp only [evPlan,hi,hj,hid,hio,hjo] at h
   obtain ⟨href,hz,h⟩:=h
   obtain ⟨ivs,s1,h1,h2,h3,h4⟩:=evSeg_run l (fun i hi=>by
    have:=hcalm i hi
    unfold calmOK at this
    split at this
    ·rename_i o ho; simp only [Bool.and_eq_true] at this; exact ⟨o,ho,this.1⟩
    ·cases this) h
   have e:(flat (.fresh l i j :: rest)).length=(flat rest).length + (l.length + (2 - 0)):=by simp only [flat,Seg.idx,List.length_append,List.length_cons,List.length_nil]; omega
   rw [e]
   refine fresh_sound (later:=flat rest) (done:=done) h1 hcalm hp.2.1 hi hj hid hio hjo hxt hig hjg hjd hia hja hij hls hi1 hj1 hi2 hj2 hne (List.all_eq_true.1 hp.2.2.2.1) (fun q hq=>?_) (fun q hq=>?_) hdn h4 h2 href hz h3.1 h3.2 ?_ _ 0 [] l listed m s a w (by omega) rfl hnd.1 (fun j hj=>hj) (fun x hx=>by cases hx)
    (fun x hx hxl=>absurd (by rw [← h1]; exact List.mem_map.2 ⟨x,hx,rfl⟩) hxl) (Like.refl s) hR (Step.refl _ _ _) rfl rfl (hlisted.congr fun j=>?_)
   ·have:=hfr2.1 q hq
    simp only [List.mem_cons,List.mem_append,List.mem_reverse,not_or] at this
    exact ⟨this.2.2.2,this.2.2.1,this.2.1,this.1⟩
   ·rcases hfr.2.1 q hq with h | h
    ·exact .inl h
    ·simp only [flat,Seg.idx,List.mem_append,List.mem_cons,List.not_mem_nil,or_false] at h
     rcases h with (h | h | h) | h
     ·exact .inr (.inl h)
     ·exact .inr (.inr (.inl h))
     ·exact .inr (.inr (.inr (.inl h)))
     ·exact .inr (.inr (.inr (.inr h)))
   ·rintro m' s' a' w' listed' ⟨s3,hlike,hk3⟩ hR' hst hrd hds hlisted'
    obtain ⟨m2,hR2,hst2,hrd2⟩:=hlike.wk Mo m' _ w' hR'
    have:=ih (j :: i :: (l.reverse ++ done)) listed' m2 s3 a' w' hp.2.2.2.2 (fun q hq=>?_) (hlisted'.congr fun q=>?_) hR2 (by rw [hds]; exact hN.step (hst.trans hst2) (hrd2.trans hrd)) hk3
    ·rw [hrd2,hrd] at this; exact this
    ·simp only [List.mem_cons,List.mem_append,List.mem_reverse] at hq
     rcases hq with h | h | h | h
     ·subst h; exact (Array.getElem?_eq_some_iff.1 hj).1
     ·subst h; exact (Array.getElem?_eq_some_iff.1 hi).1
     ·exact (hnd.2 q h).2
     ·exact hdn q h
    ·simp only [List.mem_cons,List.mem_append,List.mem_reverse]
     constructor
     ·rintro (h | h | h | h)
      ·exact .inr (.inr (.inr h))
      ·exact .inr (.inr (.inl h))
      ·exact .inr (.inl h)
      ·exact .inl h
     ·rintro (h | h | h | h)
      ·exact .inr (.inr (.inr h))
      ·exact .inr (.inr (.inl h))
      ·exact .inr (.inl h)
      ·exact .inl h
   ·constructor
    ·exact .inl
    ·rintro (h | h | h | h)
     ·exact h
     ·exact absurd h.1 h.2
     ·omega
     ·omega
  | make l j =>
   have hfr:=planOK_fresh hp
   simp only [planOK,Bool.and_eq_true] at hp
   have hfr2:=planOK_fresh hp.2.2.2.2
   have hcalm:∀ i ∈ l,calmOK ops l i=true:=List.all_eq_true.1 hp.1
   have hnd:=orderOK_nodup hp.2.1
   obtain ⟨oj,t,fv,as,hj,hco,hja,hls,hj1,hj2⟩:=makeOK_inv hp.2.2.1
   simp only [evPlan,hj,Option.bind_some,hco] at h
   obtain ⟨hst0,h⟩:=h
   obtain ⟨ivs,s1,h1,h2,h3,h4⟩:=evSeg_run l (fun i hi=>by
    have:=hcalm i hi
    unfold calmOK at this
    split at this
    ·rename_i o ho; simp only [Bool.and_eq_true] at this; exact ⟨o,ho,this.1⟩
    ·cases this) h
   obtain ⟨hst1,htn0,g,ds,sz,xs,hfv,hcal,hds,hmk,h3⟩:=h3
   have e:(flat (.make l j :: rest)).length=(flat rest).length + (l.length + (1 - 0)):=by simp only [flat,Seg.idx,List.length_append,List.length_cons,List.length_nil]; omega
   rw [e]
   refine make_sound (later:=flat rest) (done:=done) h1 hcalm hp.2.1 hj hco hja hls hj1 hj2 (List.all_eq_true.1 hp.2.2.2.1) (fun q hq=>?_) (fun q hq=>?_) hdn h4 h2 hst0 hst1 htn0 hfv hcal hds hmk ?_ _ 0 [] l listed m s a w (by omega) rfl hnd.1 (fun j hj=>hj) (fun x hx=>by cases hx)
    (fun x hx hxl=>absurd (by rw [← h1]; exact List.mem_map.2 ⟨x,hx,rfl⟩) hxl) (Like.refl s) hR (Step.refl _ _ _) rfl rfl (fun q hq x hx=>by rcases hq with h | h; exact absurd h.1 h.2; omega) (hlisted.congr fun j=>?_)
   ·have:=hfr2.1 q hq
    simp only [List.mem_cons,List.mem_append,List.mem_reverse,not_or] at this
    exact ⟨this.2.2,this.2.1,this.1⟩
   ·rcases hfr.2.1 q hq with h | h
    ·exact .inl h
    ·simp only [flat,Seg.idx,List.mem_append,List.mem_cons,List.not_mem_nil,or_false] at h
     rcases h with (h | h) | h
     ·exact .inr (.inl h)
     ·exact .inr (.inr (.inl h))
     ·exact .inr (.inr (.inr h))
   ·intro m' s' a' w' listed' hlike hR' hst hrd hds' hlisted'
    obtain ⟨m2,hR2,hst2,hrd2⟩:=hlike.wk Mo m' _ w' hR'
    have:=ih (j :: (l.reverse ++ done)) listed' m2 _ a' w' hp.2.2.2.2 (fun q hq=>?_) (hlisted'.congr fun q=>?_) hR2 (by rw [hds']; exact hN.step (hst.trans hst2) (hrd2.trans hrd)) h3
    ·rw [hrd2,hrd] at this; exact this
    ·simp only [List.mem_cons,List.mem_append,List.mem_reverse] at hq
     rcases hq with h | h | h
     ·subst h; exact (Array.getElem?_eq_some_iff.1 hj).1
     ·exact (hnd.2 q h).2
     ·exact hdn q h
    ·simp only [List.mem_cons,List.mem_append,List.mem_reverse]
     constructor
     ·rintro (h | h | h)
      ·exact .inr (.inr h)
      ·exact .inr (.inl h)
      ·exact .inl h
     ·rintro (h | h | h)
      ·exact .inr (.inr h)
      ·exact .inr (.inl h)
      ·exact .inl h
   ·constructor
    ·exact .inl
    ·rintro (h | h | h)
     ·exact h
     ·exact absurd h.1 h.2
     ·omega
end Go.Ab
namespace Go.Ab
open Go Go.RowKit
variable {P:Program} {a:Act} {w:World} {n:Nat} {Mo:Cells} {m:Mp} {s:Sa} {p:Name} {sv:List Act} {ops:Array Oper}
theorem listed_none:Listed ops (Array.replicate ops.size false) (· ∈ ([] : List Nat)):=by
 refine ⟨by simp,fun j hj=>?_⟩
 simp [hj]
theorem TC_draw {id:Nat} {Q:Ex → Sa → Prop} (plan:List Seg) (hm:P.follows .mixedOrders=true) (hp:planOK ops [] plan=true) (h:evPlan P p ops plan s (Q .norm)) : TC P p (.region id ops true) s Q:=fun Mo m a sv w n hR=>by
 have hb:Below w.heap.size w { w with drawn:=w.drawn + 1 }:=⟨rfl,rfl,rfl,Nat.le_refl _,fun _ _=>rfl⟩
 have hlen:=(planOK_fresh hp).2.2
 simp only [List.length_nil,Nat.zero_add] at hlen
 refine wpIn_region_any hm ?_
 rw [← hlen]
 rw [show Array.replicate (flat plan).length false=Array.replicate ops.size false by rw [hlen]]
 refine plan_sound plan [] _ m s a _ hp (fun j hj=>by cases hj) listed_none (hR.below hb) ?_ h
 intro m' s' a' w' hk hR' hs hr hd
 exact ⟨.norm,m',s',rfl,hk,hR',(Step.of_below hb).trans hs,hr,by rw [hd]; exact .refl⟩
end Go.Ab
namespace Go.Ab
open Go Go.RowKit
variable {P:Program} {w:World} {n:Nat} {Mo:Cells} {m:Mp} {s:Sa} {as:List Act} {p:Name}
def setLp (s:Sa) (l:Name) (q:Lp) : Sa:={ s with lp:=setN l q s.lp }
theorem Rel.setLoop {l:Name} {q q' : Lp} {r r' : Loop} (h:Rel Mo m s as w) (hl:lookN l s.lp=some q) (hr:w.heap[m.lp l]? = some (.loop r))
  (hq:q'.depth=q.depth ∧ q'.ps=q.ps ∧ q'.assign=q.assign ∧ q'.body=q.body) (hr' : r'.params=r.params ∧ r'.assign=r.assign ∧ r'.body=r.body ∧ r'.tmps=r.tmps)
  (hst:match q'.pending with | none=>r'.state = .ready ∧ r'.pending=none | some (some j)=>r'.state = .done ∧ r'.pending=some j | some none=>r'.state = .busy) :
  Rel Mo m (setLp s l q') as (w.putObj (m.lp l) (.loop r')):=by
 have hne:∀ (b:Nat) (x:Obj),w.heap[b]? = some x → (∀ y,x ≠ .loop y) → (w.putObj (m.lp l) (.loop r')).heap[b]? = some x:=by
  intro b x hx hnx
  have:b ≠ m.lp l:=fun e=>by subst e; rw [hr] at hx; cases hx; exact hnx _ rfl
  rw [World.putObj_heap_other this]; exact hx
 have hstab:Stab w (Tot Mo s.bx s.ow m) (w.putObj (m.lp l) (.loop r')) (Tot Mo s.bx s.ow m):=by
  intro b j c hc hm
  refine ⟨?_,hm⟩
  have hb:b ≠ m.lp l:=fun e=>by subst e; simp [World.cell?,hr] at hc
  rw [World.cell?_of_block (w:=w) (World.putObj_heap_other hb)]; exact hc
 have hsp:∀ i sz v,Spare w m i sz v → Spare (w.putObj (m.lp l) (.loop r')) m i sz v:=by
  intro i sz v hs
  unfold Spare at hs ⊢
  split at hs
  ·exact hs
  ·rcases hs with hs | ⟨h1,h2,h3,c,T,h4,h5⟩
   ·exact .inl hs
   ·exact .inr ⟨h1,h2,h3,c,T,hne _ _ h4 (by simp),h5⟩
  ·exact hs.elim
 have hrep:∀ v c,RepV w (Tot Mo s.bx s.ow m) m v c → RepV (w.putObj (m.lp l) (.loop r')) (Tot Mo s.bx s.ow m) m v c:=fun v c hv=>hv.mono hstab (fun _ _=>rfl) (fun i _ sz v hs=>hsp i sz v hs) (fun _ _=>rfl)
 have hlook:∀ nm x,lookN nm (setLp s l q').lp=some x → (nm=l ∧ x=q') ∨ (nm ≠ l ∧ lookN nm s.lp=some x):=by
  intro nm x hx
  simp only [setLp,lookN_setN,hl,Option.map_some] at hx
  split at hx
  ·rename_i e; exact .inl ⟨e,by cases hx; rfl⟩
  ·rename_i e; exact .inr ⟨e,hx⟩
 refine ⟨h.len,?_,?_,h.inj,?_,h.owx,h.owb,?_,?_,?_,fun b j hm=>by rw [World.putObj_size]; exact h.mo b j hm,h.mks,h.owm,fun k d hk=>⟨(h.vec k d hk).1,(h.vec k d hk).2.putObj hr (by simp) hstab⟩⟩
 ·intro i hi hi'
  have h0:=h.fr i hi hi'
  refine ⟨h0.size,fun t=>hrep _ _ (h0.ts t),fun d hd=>?_⟩
  obtain ⟨x,e,hx⟩:=h0.def_ d hd
  exact ⟨x,e,hne _ _ hx (by simp)⟩
 ·intro nm c hn
  obtain ⟨cs,T,hb⟩:=h.box nm c hn
  exact ⟨cs,T,hb.heap.mono (fun o ho _ h2=>hne _ _ ho h2),hb.size,hb.leafs,fun i hi=>hrep _ _ (hb.rep i hi)⟩
 ·intro i hi hn
  obtain ⟨c,T,h1,h2⟩:=h.oww i hi hn
  exact ⟨c,T,hne _ _ h1 (by simp),h2⟩
 ·intro nm x hx
  rcases hlook nm x hx with ⟨rfl,rfl⟩ | ⟨hnm,hx⟩
  ·obtain ⟨rc,b,hy⟩:=h.lps nm q hl
   have e:=hy.heap
   rw [hr] at e
   cases e
   refine ⟨r',b,⟨?_,hr'.1.trans (hy.ps.trans hq.2.1.symm),hr'.2.1.trans (hy.assign.trans hq.2.2.1.symm),hr'.2.2.1.trans (hy.body.trans hq.2.2.2.symm),by rw [hq.1]; exact hy.own,hr'.2.2.2.trans hy.tmps,hst⟩⟩
   exact World.putObj_heap_same (Array.getElem?_eq_some_iff.1 hr).1
  ·obtain ⟨rc,b,hy⟩:=h.lps nm x hx
   refine ⟨rc,b,⟨?_,hy.ps,hy.assign,hy.body,hy.own,hy.tmps,hy.stat⟩⟩
   have:m.lp nm ≠ m.lp l:=fun e=>hnm (h.lpi nm x l q hx hl e)
   rw [World.putObj_heap_other this]; exact hy.heap
 ·intro nm x hx
  rcases hlook nm x hx with ⟨rfl,rfl⟩ | ⟨_,hx⟩
  ·rw [hq.1]; exact h.dep nm q hl
  ·exact h.dep nm x hx
 ·intro n1 x1 n2 x2 h1 h2 e
  have:∀ nm x,lookN nm (setLp s l q').lp=some x → ∃ y,lookN nm s.lp=some y:=fun nm x hx=>by
   rcases hlook nm x hx with ⟨rfl,rfl⟩ | ⟨_,hx⟩
   ·exact ⟨q,hl⟩
   ·exact ⟨x,hx⟩
  obtain ⟨y1,e1⟩:=this n1 x1 h1
  obtain ⟨y2,e2⟩:=this n2 x2 h2
  exact h.lpi n1 y1 n2 y2 e1 e2 e
theorem Step.setLoop {l:Name} {q q' : Lp} {r' : Loop} (hl:lookN l s.lp=some q) (hlt:m.lp l < w.heap.size) : Step m s w m (setLp s l q') (w.putObj (m.lp l) (.loop r')):=by
 have hL:LpB s.lp m (m.lp l):=⟨l,q,hl,rfl⟩
 refine ⟨⟨rfl,rfl,rfl,by simp,fun b hb _ hn=>?_,fun b c T f hc hn=>?_⟩,fun b o _ h=>h,?_,rfl,rfl,fun _ _=>rfl⟩
 ·exact World.putObj_heap_other (fun e=>hn (e ▸ hL))
 ·have hb:b ≠ m.lp l:=fun e=>hn (by rw [e]; exact hL)
  exact ⟨c,by rw [World.putObj_heap_other hb]; exact hc,rfl,fun _ _=>rfl⟩
 ·rintro b _ ⟨nm,x,hx,rfl⟩
  simp only [setLp,lookN_setN,hl,Option.map_some] at hx
  split at hx
  ·rename_i e; exact ⟨nm,q,by rw [e]; exact hl,rfl⟩
  ·exact ⟨nm,x,hx,rfl⟩
theorem lpD_setN (l:Name) (q q' : Lp) (h:q'.depth=q.depth) : ∀ lp:List (Name × Lp),lookN l lp=some q → lpD (setN l q' lp)=lpD lp:=by
 intro lp
 induction lp with
 | nil=>intro hl; simp [lookN] at hl
 | cons x lp ih =>
  obtain ⟨a,b⟩:=x
  intro hl
  simp only [lookN] at hl
  simp only [setN]
  split
  ·rename_i e
   rw [if_pos e] at hl; cases hl
   simp [lpD,h]
  ·rename_i e
   rw [if_neg e] at hl
   simp only [lpD,List.map_cons] at ih ⊢
   rw [ih hl]
def setAll:List Nat → List V → List (Nat × V) → List (Nat × V)
 | t :: ts,v :: vs,l=>setAll ts vs (setT t v l)
 | _,_,l=>l
def frames (s:Sa) : List Fr:={ rd:=s.rd,n:=s.n,ts:=s.ts } :: s.sv
def Sa.round (s:Sa) (l:Name) (f:Fr) (ps:List Nat) (args:List V) : Sa:={ rd:=some l,n:=f.n,ts:=setAll ps args f.ts,sv:={ rd:=s.rd,n:=s.n,ts:=s.ts } :: s.sv,bx:=s.bx,lp:=s.lp,ow:=s.ow,vc:=s.vc }
theorem tsOK_setAll {M:Cells}:∀ (ps:List Nat) (args:List V) (vs:List Value) (ts:List (Nat × V)) (tmps:Array Value) (nn:Nat),tmps.size=nn → (∀ t ∈ ps,t < nn) → args.length=vs.length → TsOK w M m ts tmps →
  (∀ i (h1:i < args.length) (h2:i < vs.length),RepV w M m args[i] vs[i]) →
  TsOK w M m (setAll ps args ts) ((ps.zip vs).foldl (fun tmps x=>tmps.setIfInBounds x.1 x.2) tmps) ∧ ((ps.zip vs).foldl (fun tmps x=>tmps.setIfInBounds x.1 x.2) tmps).size=nn:=by
 intro ps
 induction ps with
 | nil=>intro args vs ts tmps nn hn _ _ h _; exact ⟨by cases args <;> simpa [setAll] using h,by simpa using hn⟩
 | cons t ps ih =>
  intro args vs ts tmps nn hn hps hlen h hr
  cases args with
  | nil=>cases vs with
   | nil=>exact ⟨by simpa [setAll] using h,by simpa using hn⟩
   | cons v vs=>simp at hlen
  | cons x args=>cases vs with
   | nil=>simp at hlen
   | cons v vs =>
    simp only [setAll,List.zip_cons_cons,List.foldl_cons]
    refine ih args vs _ _ nn (by simpa using hn) (fun u hu=>hps u (List.mem_cons_of_mem _ hu)) (by simpa using hlen) ?_ (fun i h1 h2=>hr (i + 1) (by simpa using h1) (by simpa using h2))
    intro u
    have ht:t < tmps.size:=by rw [hn]; exact hps t List.mem_cons_self
    rw [lkT_setT]
    split
    ·rename_i e; subst e
     rw [Array.getD_eq_getD_getElem?,Array.getElem?_setIfInBounds_self_of_lt ht]
     exact hr 0 (by simp) (by simp)
    ·rename_i e
     have:=h u
     rw [Array.getD_eq_getD_getElem?] at this ⊢
     rw [Array.getElem?_setIfInBounds_ne (fun e'=>e e'.symm)]; exact this
theorem Rel.round {l:Name} {q:Lp} {f:Fr} {args:List V} {vs:Array Value} {r:Loop} {a:Act} (h:Rel Mo m s as w) (hl:lookN l s.lp=some q) (hx:LpOK w m l q as r a) (hf:(frames s).reverse[q.depth]? = some f)
  (hps:∀ t ∈ q.ps.toList,t < f.n) (hlen:args.length=q.ps.size) (ha:ArgsOK w (Tot Mo s.bx s.ow m) m args vs) :
  Rel Mo m (s.round l f q.ps.toList args) ({ tmps:=(q.ps.toList.zip vs.toList).foldl (fun tmps x=>tmps.setIfInBounds x.1 x.2) r.tmps,defers:=[] } :: as) w:=by
 have hfr:FrOK w (Tot Mo s.bx s.ow m) m f a:=by
  have h1:=hx.own
  have hlenf:(frames s).length=as.length:=by simp [frames,h.len]
  obtain ⟨i1,e1⟩:=List.getElem?_eq_some_iff.1 h1
  obtain ⟨i2,e2⟩:=List.getElem?_eq_some_iff.1 hf
  rw [List.getElem_reverse] at e1 e2
  have hi:(frames s).length - 1 - q.depth < (frames s).length:=by simp at i2; omega
  have h0:=h.fr ((frames s).length - 1 - q.depth) hi (by omega)
  have e3:as[(frames s).length - 1 - q.depth]'(by omega)=a:=by rw [← e1]; congr 1; omega
  have e4:(frames s)[(frames s).length - 1 - q.depth]'hi=f:=e2
  rw [e3] at h0
  have:(({ rd:=s.rd,n:=s.n,ts:=s.ts }:Fr) :: s.sv)[(frames s).length - 1 - q.depth]'hi=f:=e4
  rw [this] at h0
  exact h0
 have hts:=tsOK_setAll (w:=w) (m:=m) (M:=Tot Mo s.bx s.ow m) q.ps.toList args vs.toList f.ts r.tmps f.n (by rw [hx.tmps]; exact hfr.size) hps (by simp [ha.1]) (by rw [hx.tmps]; exact hfr.ts) (fun i h1 h2=>by
  have:=ha.2 i h1
  rw [Array.getD_eq_getD_getElem?,Array.getElem?_eq_getElem (by simpa using h2)] at this
  simpa using this)
 refine ⟨by simp [Sa.round,h.len],?_,h.box,h.inj,h.oww,h.owx,h.owb,?_,?_,h.lpi,h.mo,?_,h.owm,h.vec⟩
 ·intro i hi hi'
  cases i with
  | zero=>exact ⟨hts.2,fun t=>hts.1 t,fun d hd=>by simp at hd⟩
  | succ i=>exact h.fr i (by simpa [Sa.round] using hi) (by simpa using hi')
 ·intro nm x hl
  obtain ⟨r,a,hr⟩:=h.lps nm x hl
  refine ⟨r,a,⟨hr.heap,hr.ps,hr.assign,hr.body,?_,hr.tmps,hr.stat⟩⟩
  have:=hr.own
  have hd:=h.dep nm x hl
  rw [List.reverse_cons,List.getElem?_append_left (by simp; omega)]; exact this
 ·intro nm x hl
  have:=h.dep nm x hl
  simp; omega
 ·have:=h.mks
  simpa [marks] using this
end Go.Ab
namespace Go.Ab
open Go Go.RowKit
variable {P:Program} {w:World} {n:Nat} {Mo:Cells} {m:Mp} {s:Sa} {as:List Act} {p:Name}
def jmp:Ex → Option (Option Code)
 | .norm=>none
 | .exit i=>some (some (.exit i))
 | .ret=>some (some .ret)
def goesOn:Ex → Bool
 | .norm=>true
 | _=>false
def EndK (l:Name) (s:Sa) (k:V → Sa → Prop) (e:Ex) (s2:Sa) : Prop :=
 s2.sv.length=s.sv.length + 1 ∧ lpD s2.lp=lpD s.lp ∧ match lookN l s2.lp with
  | some q2=>k (.d (.b (goesOn e))) (setLp s2 l { q2 with pending:=jmp e }).pop
  | none=>False
end Go.Ab
