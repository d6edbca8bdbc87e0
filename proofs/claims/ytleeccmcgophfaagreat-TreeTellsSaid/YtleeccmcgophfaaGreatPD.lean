import Derived.Test.YtleeccmcgophfaaGreatPC
import Derived.Laws.IdiomCopy
import Derived.Laws.AppendOwn
import Derived.Lib.AppendZerosOnto
set_option linter.all false
namespace Go.Ab
open Go Go.RowKit
set_option linter.unusedVariables false
set_option linter.unusedSimpArgs false
variable {P : Program} {w : World} {n : Nat} {Mo : Cells} {m : Mp} {s : Sa} {sa : List Act} {p : Name}
theorem drew_setCells' (b : Nat) : ∀ (vs : List Value) (o : Nat) (w : World),(w.setCells b o vs).drew = w.drew.setCells b o vs
 | [],_,_=>rfl
 | v :: vs,o,w=>drew_setCells' b vs (o + 1) _
theorem setCells_put (b : Nat) : ∀ (vs : List Value) (o : Nat) (w : World),w.setCells b o vs = putCells w b o vs
 | [],_,_=>rfl
 | v :: vs,o,w=>setCells_put b vs (o + 1) _
theorem flatD_take {sz : Nat} : ∀ {xs : List D} (_ : ∀ x ∈ xs,x.cells.length = sz) (i : Nat),flatD (xs.take i) = (flatD xs).take (i * sz)
 | [],_,i=>by simp [flatD]
 | x :: xs,h,0=>by simp [flatD]
 | x :: xs,h,i + 1=>by
  have hx:=h x List.mem_cons_self
  have ih:=flatD_take (xs:=xs) (fun y hy=>h y (List.mem_cons_of_mem _ hy)) i
  have e : ∀ l,flatD (x :: l) = x.cells ++ flatD l:=fun l=>by simp [flatD]
  rw [List.take_succ_cons,e,e,ih,List.take_append,hx,Nat.succ_mul,Nat.add_sub_cancel,List.take_of_length_le (l:=x.cells) (by rw [hx]; omega)]
theorem flatD_drop {sz : Nat} : ∀ {xs : List D} (_ : ∀ x ∈ xs,x.cells.length = sz) (i : Nat),flatD (xs.drop i) = (flatD xs).drop (i * sz)
 | [],_,i=>by simp [flatD]
 | x :: xs,h,0=>by simp [flatD]
 | x :: xs,h,i + 1=>by
  have hx:=h x List.mem_cons_self
  have ih:=flatD_drop (xs:=xs) (fun y hy=>h y (List.mem_cons_of_mem _ hy)) i
  have e : ∀ l,flatD (x :: l) = x.cells ++ flatD l:=fun l=>by simp [flatD]
  rw [List.drop_succ_cons,e,ih,List.drop_append,hx,Nat.succ_mul,Nat.add_sub_cancel,List.drop_of_length_le (l:=x.cells) (by rw [hx]; omega),List.nil_append]
def VRow (w : World) (M : Cells) (xs : List D) (L : List Value) : Prop:=L.length = (flatD xs).length ∧ (∀ v ∈ L,leaf v = true) ∧ ∀ j (hj : j < (flatD xs).length),RepD w M (flatD xs)[j] (L.getD j undef)
theorem VRow.app {M : Cells} {xs ys : List D} {L R : List Value} (h : VRow w M xs L) (h' : VRow w M ys R) : VRow w M (xs ++ ys) (L ++ R) :=
 ⟨by rw [flatD_app,List.length_append,List.length_append,h.1,h'.1],fun v hv=>(List.mem_append.1 hv).elim (h.2.1 v) (h'.2.1 v),fun j hj=>flat_rep_app h.1 h.2.2 h'.2.2 j hj⟩
theorem VRow.take {M : Cells} {xs : List D} {L : List Value} {sz : Nat} (h : VRow w M xs L) (hs : ∀ x ∈ xs,x.cells.length = sz) (i : Nat) : VRow w M (xs.take i) (L.take (i * sz)):=by
 refine ⟨by rw [flatD_take hs,List.length_take,List.length_take,h.1],fun v hv=>h.2.1 v (List.mem_of_mem_take hv),fun j hj=>?_⟩
 have hj' : j < i * sz ∧ j < (flatD xs).length:=by rw [flatD_take hs,List.length_take] at hj; omega
 have e : (flatD (xs.take i))[j]? = ((flatD xs).take (i * sz))[j]?:=by rw [flatD_take hs]
 rw [List.getElem?_eq_getElem hj,List.getElem?_take_of_lt hj'.1,List.getElem?_eq_getElem hj'.2,Option.some.injEq] at e
 rw [e,List.getD_eq_getElem?_getD,List.getElem?_take_of_lt hj'.1,← List.getD_eq_getElem?_getD]
 exact h.2.2 j hj'.2
theorem VRow.drop {M : Cells} {xs : List D} {L : List Value} {sz : Nat} (h : VRow w M xs L) (hs : ∀ x ∈ xs,x.cells.length = sz) (i : Nat) : VRow w M (xs.drop i) (L.drop (i * sz)):=by
 refine ⟨by rw [flatD_drop hs,List.length_drop,List.length_drop,h.1],fun v hv=>h.2.1 v (List.mem_of_mem_drop hv),fun j hj=>?_⟩
 have hj' : i * sz + j < (flatD xs).length:=by rw [flatD_drop hs,List.length_drop] at hj; omega
 have e : (flatD (xs.drop i))[j]? = ((flatD xs).drop (i * sz))[j]?:=by rw [flatD_drop hs]
 rw [List.getElem?_eq_getElem hj,List.getElem?_drop,List.getElem?_eq_getElem hj',Option.some.injEq] at e
 rw [e,List.getD_eq_getElem?_getD,List.getElem?_drop,← List.getD_eq_getElem?_getD]
 exact h.2.2 _ hj'
theorem put2 (b o1 o2 : Nat) (L R : List Value) (c : Array Value) (T : TypeId) (hb : w.heap[b]? = some (.cells c T (0,0))) (h1 : o1 + L.length ≤ c.size) (h2 : o2 + R.length ≤ c.size) :
  ∃ c',(putCells (putCells w b o1 L) b o2 R).heap[b]? = some (.cells c' T (0,0)) ∧ c'.size = c.size ∧
   (∀ o,(o < o2 ∨ o2 + R.length ≤ o) → (o < o1 ∨ o1 + L.length ≤ o) → c'[o]? = c[o]?) ∧ (∀ j (hj : j < R.length),c'[o2 + j]? = some R[j]) ∧
   (∀ j (hj : j < L.length),(o1 + j < o2 ∨ o2 + R.length ≤ o1 + j) → c'[o1 + j]? = some L[j]) ∧ (∀ k,k ≠ b → (putCells (putCells w b o1 L) b o2 R).heap[k]? = w.heap[k]?) ∧
   (putCells (putCells w b o1 L) b o2 R).os = w.os ∧ (putCells (putCells w b o1 L) b o2 R).tape = w.tape ∧ (putCells (putCells w b o1 L) b o2 R).output = w.output ∧ (putCells (putCells w b o1 L) b o2 R).heap.size = w.heap.size:=by
 obtain ⟨c1,p1,p2,p3,p4,p5,p6,p7,p8,p9⟩:=putCells_spec L w b o1 c T hb h1
 obtain ⟨c2,q1,q2,q3,q4,q5,q6,q7,q8,q9⟩:=putCells_spec R (putCells w b o1 L) b o2 c1 T p1 (by rw [p2]; exact h2)
 exact ⟨c2,q1,q2.trans p2,fun o ho ho'=>(q3 o ho).trans (p3 o ho'),q4,fun j hj ho=>(q3 _ ho).trans (p4 j hj),fun k hk=>(q5 k hk).trans (p5 k hk),q6.trans p6,q7.trans p7,q8.trans p8,q9.trans p9⟩
theorem getD_parts {A B C : List Value} {j : Nat} (hj : j < (A ++ B ++ C).length) :
  (A ++ B ++ C).getD j undef = if j < A.length then A.getD j undef else if j < A.length + B.length then B.getD (j - A.length) undef else C.getD (j - (A.length + B.length)) undef:=by
 by_cases h1 : j < A.length
 ·rw [if_pos h1,List.append_assoc,getD_app_l h1]
 ·rw [if_neg h1]
  by_cases h2 : j < A.length + B.length
  ·rw [if_pos h2,getD_app_l (by simp; omega),getD_app_r (by omega)]
  ·rw [if_neg h2,getD_app_r (by simp; omega),List.length_append]
structure InsOK (P : Program) (f : FuncId) (ts te ti : TypeId) : Prop where
 pos : tsz P te ≠ 0
 us : P.underlying ts = some (.slice te)
 ui : P.underlying ti = some (.int .i64)
 zc : isCells (tzero P te) = true
 zl : (tzero P te).cells.length = tsz P te
 shift : ∀ (b off n c i vb voff m vc : Nat) (cs vs : List Value) (w : World) (_ : i < n) (_ : 0 < m) (_ : n + m ≤ c) (_ : n + m ≤ 9223372036854775807) (_ : vb ≠ b)
  (_ : cs.length = n * tsz P te) (_ : vs.length = m * tsz P te)
  (_ : ∀ j v,cs[j]? = some v → w.cell? ⟨b,off + j,none⟩ = some v) (_ : ∀ j,j < (n + m) * tsz P te → (w.cell? ⟨b,off + j,none⟩).isSome = true) (_ : ∀ j,j < (n + m) * tsz P te → w.frozen? ⟨b,off + j,none⟩ = false)
  (_ : ∀ j v,vs[j]? = some v → w.cell? ⟨vb,voff + j,none⟩ = some v) (_ : ∀ v ∈ cs,v.oneCell' = true) (_ : ∀ v ∈ vs,v.oneCell' = true)
  (tA tB : TypeId) (kA kB : Nat) (_ : w.shape? vb = some (tA,kA)) (_ : w.shape? b = some (tB,kB)) (_ : kA ≠ 0) (_ : w.frozen? ⟨b,kB,none⟩ = false),
  Calls P f #[.slice (some ⟨b,off,none⟩) n c,.int .i64 i,.slice (some ⟨vb,voff,none⟩) m vc] w fun e w' =>
   e = .returned (.slice (some ⟨b,off,none⟩) (n + m) c) ∧ w' = (w.drew.setCells b (off + (i + m) * tsz P te) (cs.drop (i * tsz P te))).setCells b (off + i * tsz P te) vs
 fin : ∀ (base : Option Addr) (n c vb voff m vc : Nat) (w w' : World) (v' : Value) (_ : 0 < m) (_ : n ≤ c)
  (_ : ∀ ty,(Builtin.append_ #[ts,ts] ty #[.slice base n c,.slice (some ⟨vb,voff,none⟩) m vc]).run P w = .ok v' w'),
  Calls P f #[.slice base n c,.int .i64 n,.slice (some ⟨vb,voff,none⟩) m vc] w fun e w1=>e = .returned v' ∧ w1 = w'
 zero : ∀ (base ya : Option Addr) (n c i vc : Nat) (w : World) (_ : i ≤ n) (_ : n ≤ c),Calls P f #[.slice base n c,.int .i64 i,.slice ya 0 vc] w fun e w1=>e = .returned (.slice base n c) ∧ w1 = w
 grow : ∀ (b off n c i vb voff m vc G : Nat) (cs vs : List Value) (ROW : Array Value) (w : World) (_ : i < n) (_ : 0 < m) (_ : n ≤ c) (_ : c < n + m)
  (_ : cs.length = n * tsz P te) (_ : vs.length = m * tsz P te)
  (_ : ∀ j v,cs[j]? = some v → w.cell? ⟨b,off + j,none⟩ = some v)
  (_ : ∀ j v,vs[j]? = some v → w.cell? ⟨vb,voff + j,none⟩ = some v) (_ : ∀ v ∈ cs,v.oneCell' = true) (_ : ∀ v ∈ vs,v.oneCell' = true)
  (_ : n + m ≤ G) (_ : n + m ≤ 9223372036854775807) (_ : (n + m) * tsz P te ≤ ROW.size)
  (_ : ∀ ty,(Builtin.append_ #[ts,ti] ty #[.slice (some ⟨b,off,none⟩) i c,.int .i64 ((n : Int) + (m : Int) - (i : Int))]).run P w = .ok (.slice (some ⟨w.heap.size,0,none⟩) (n + m) G) (w.drew.alloc (.cells ROW te))),
  Calls P f #[.slice (some ⟨b,off,none⟩) n c,.int .i64 i,.slice (some ⟨vb,voff,none⟩) m vc] w fun e w' =>
   e = .returned (.slice (some ⟨w.heap.size,0,none⟩) (n + m) G) ∧
   w' = (((w.alloc (.cells ROW te)).drew.setCells w.heap.size (i * tsz P te) vs).drew).setCells w.heap.size ((i + m) * tsz P te) (cs.drop (i * tsz P te))
theorem size_zeroCells (z : Array Value) (k : Nat) : (Builtin.zeroCells z k).size = k * z.size:=by
 simp [Builtin.zeroCells,Nat.mul_comm]
theorem shape_of_block {b : Nat} {c : Array Value} {T : TypeId} {f : Nat × Nat} (h : w.heap[b]? = some (.cells c T f)) : w.shape? b = some (T,c.size):=by
 simp [World.shape?,h]
theorem block_of_cell {b o : Nat} {v : Value} (h : w.cell? ⟨b,o,none⟩ = some v) : ∃ c T f,w.heap[b]? = some (.cells c T f) ∧ c[o]? = some v:=by
 unfold World.cell? at h
 cases hb : w.heap[b]? with
 | none=>simp [hb] at h
 | some x =>
  cases x with
  | cells c T f=>exact ⟨c,T,f,rfl,by simpa [hb] using h⟩
  | _=>simp [hb] at h
theorem TCall_ins {f : FuncId} {ts te ti : TypeId} {nm : Name} {xs ys : List D} {i : Int} {y : V} {k : V → Sa → Prop} (hI : InsOK P f ts te ti) (hc : lookN nm s.vc = some (tsz P te,xs)) (h0 : 0 ≤ i) (h1 : i ≤ xs.length)
  (hy : y.toD = some (.sl ys)) (hyr : ∀ x ∈ ys,x.cells.length = tsz P te) (hb : (xs.length + ys.length) * tbytes P te ≤ 140737488355328) (hmx : xs.length + ys.length ≤ 9223372036854775807)
  (hk : k (.vsl nm) (s.vturn nm (tsz P te) (xs.take i.toNat ++ ys ++ xs.drop i.toNat))) : TCall P p f [.vsl nm,.d (.v (.int .i64 i)),y] s k:=by
 intro Mo m sa w nn vs r hR hargs
 obtain ⟨ii,rfl⟩ : ∃ ii : Nat,i = (ii : Int):=⟨i.toNat,by omega⟩
 simp only [Int.toNat_natCast] at hk
 have hz:=hI.pos
 have hz0 : 0 < tsz P te:=Nat.pos_of_ne_zero hz
 obtain ⟨hn,hvec⟩:=hR.vec nm _ hc
 simp only at hvec
 have hlen:=hvec.len
 have hcap:=hvec.cap
 have a0:=(hargs.2 0 (by simp)).vsl_inv
 obtain ⟨a1,_⟩:=(hargs.2 1 (by simp)).val
 have a2:=(hargs.2 2 (by simp)).toD hy
 obtain ⟨ya,yc,sz',yb,yo,cv,ec,hc1,hc2,ha,hsz,hcell,hrep⟩:=a2.sl_inv
 by_cases hne : ys = []
 ·subst hne
  have evs : vs = #[.slice (m.vl nm).1 xs.length (m.vl nm).2.2,.int .i64 ii,.slice ya 0 yc]:=by
   have hs3 : vs.size = 3:=by rw [hargs.1]; rfl
   apply Array.ext
   ·rw [hs3]; rfl
   ·intro j hj _
    have hj3 : j < 3:=by rw [hs3] at hj; exact hj
    have gd : vs.getD j undef = vs[j]:=by rw [Array.getD_eq_getD_getElem?,Array.getElem?_eq_getElem hj]; rfl
    rw [← gd]
    match j,hj3 with
    | 0,_=>rw [a0,hlen]; rfl
    | 1,_=>exact a1
    | 2,_=>exact ec
  rw [evs]
  have e : xs.take ii ++ [] ++ xs.drop ii = xs:=by simp
  rw [e] at hk
  obtain ⟨g1,g2⟩:=hR.vecTurn nm (m.ow nm) (m.ow nm) (m.vl nm) (tsz P te) xs (w':=w) (fun _=>⟨hn,rfl⟩) ⟨rfl,rfl,rfl,Nat.le_refl _⟩ (fun _ _ _=>rfl) (fun _ c T h=>⟨c,h,rfl,fun _ _=>rfl⟩) (fun _=>.inl rfl) hvec.hd hlen hcap hvec.mx hvec.sz (fun j hj=>hvec.cells j hj)
  refine callsIn_round (callsIn_wide.2 ((hI.zero (m.vl nm).1 ya xs.length (m.vl nm).2.2 ii yc w (by omega) hcap).mono ?_))
  rintro e w1 ⟨rfl,rfl⟩
  refine ⟨_,.vsl nm,_,_,rfl,hk,g1,?_,g2,by simp only [rdOf]; rfl⟩
  have:=@RepV.vsl w1 (Tot Mo (s.vturn nm (tsz P te) xs).bx (s.vturn nm (tsz P te) xs).ow (m.vturn nm (m.ow nm) (m.vl nm))) (m.vturn nm (m.ow nm) (m.vl nm)) nm
  have e2 : (m.vturn nm (m.ow nm) (m.vl nm)).vl nm = m.vl nm:=by simp [Mp.vturn]
  rw [e2] at this
  rw [← hlen]; exact this
 have hya:=ha hne
 subst hya
 have evs : vs = #[.slice (m.vl nm).1 xs.length (m.vl nm).2.2,.int .i64 ii,.slice (some ⟨yb,yo,none⟩) ys.length yc]:=by
  have hs3 : vs.size = 3:=by rw [hargs.1]; rfl
  apply Array.ext
  ·rw [hs3]; rfl
  ·intro j hj _
   have hj3 : j < 3:=by rw [hs3] at hj; exact hj
   have gd : vs.getD j undef = vs[j]:=by rw [Array.getD_eq_getD_getElem?,Array.getElem?_eq_getElem hj]; rfl
   rw [← gd]
   match j,hj3 with
   | 0,_=>rw [a0,hlen]; rfl
   | 1,_=>exact a1
   | 2,_=>exact ec
 obtain ⟨old,ol,oleaf,orep,ocell,hold⟩:=hvec.list (P:=P)
 obtain ⟨L,hnew,oky,aty⟩:=run_firstCells (P:=P) a2 hyr hz
 have hLl:=oky.len
 have hm0 : 0 < ys.length:=List.length_pos_iff.2 hne
 rw [evs]
 have hrowx : VRow w (Tot Mo s.bx s.ow m) xs old:=⟨by rw [ol,flatD_len hvec.sz],oleaf,orep⟩
 have hrowy : VRow w (Tot Mo s.bx s.ow m) ys L:=⟨by rw [hLl,flatD_len hyr],oky.leafs,fun j hj=>oky.flat hz0 j hj⟩
 have hrow:=((hrowx.take hvec.sz ii).app hrowy).app (hrowx.drop hvec.sz ii)
 have hsz' : ∀ x ∈ xs.take ii ++ ys ++ xs.drop ii,x.cells.length = tsz P te:=fun x hx=>by
  rcases List.mem_append.1 hx with hx | hx
  ·rcases List.mem_append.1 hx with hx | hx
   ·exact hvec.sz x (List.mem_of_mem_take hx)
   ·exact hyr x hx
  ·exact hvec.sz x (List.mem_of_mem_drop hx)
 have hnl : (xs.take ii ++ ys ++ xs.drop ii).length = xs.length + ys.length:=by simp; omega
 have post : ∀ (m' : Mp) (v : Value) (w' : World),Rel Mo m' (s.vturn nm (tsz P te) (xs.take ii ++ ys ++ xs.drop ii)) sa w' → (∀ M,RepV w' M m' (.vsl nm) v) → Step m s w m' (s.vturn nm (tsz P te) (xs.take ii ++ ys ++ xs.drop ii)) w' → m'.lp = m.lp →
   ∀ e w1,(e = .returned v ∧ w1 = w') → CallPost Mo m s sa w k e w1:=by
  rintro m' v w' g1 g2 g3 g4 e w1 ⟨rfl,rfl⟩
  exact ⟨v,.vsl nm,m',_,rfl,hk,g1,g2 _,g3,by simp only [rdOf]; rw [show (s.vturn nm (tsz P te) (xs.take ii ++ ys ++ xs.drop ii)).rd = s.rd from rfl,g4]⟩
 refine callsIn_round (callsIn_wide.2 ?_)
 by_cases hie : ii = xs.length
 ·
  subst hie
  obtain ⟨m',v,w',g1,g2,g3,g4,g5⟩:=vec_append (ty:=ts) (ts:=#[ts,ts]) (args:=#[.slice (m.vl nm).1 (m.vl nm).2.1 (m.vl nm).2.2,.slice (some ⟨yb,yo,none⟩) ys.length yc]) hR hc rfl rfl hI.us hI.us hz hI.zc hI.zl rfl rfl (by rw [← ec]; exact a2) hyr hb hmx
  have e : xs.take xs.length ++ ys ++ xs.drop xs.length = xs ++ ys:=by simp
  rw [e] at post
  rw [hlen] at g1
  exact (hI.fin (m.vl nm).1 xs.length (m.vl nm).2.2 yb yo ys.length yc w w' v hm0 hcap (fun ty=>g1)).mono (post m' v w' g2 g3 g4 g5)
 ·have hin : ii < xs.length:=by omega
  have hadd : (xs.length + ys.length) * tsz P te = xs.length * tsz P te + ys.length * tsz P te:=Nat.add_mul _ _ _
  have hadd2 : (ii + ys.length) * tsz P te = ii * tsz P te + ys.length * tsz P te:=Nat.add_mul _ _ _
  have hile : ii * tsz P te ≤ xs.length * tsz P te:=Nat.mul_le_mul_right _ (by omega)
  have hyl : 0 < ys.length * tsz P te:=Nat.mul_pos hm0 hz0
  have hdl : (old.drop (ii * tsz P te)).length = xs.length * tsz P te - ii * tsz P te:=by rw [List.length_drop,ol]
  have htl : (old.take (ii * tsz P te)).length = ii * tsz P te:=by rw [List.length_take,ol]; omega
  have hOl : (old.take (ii * tsz P te) ++ L ++ old.drop (ii * tsz P te)).length = (xs.length + ys.length) * tsz P te:=by
   rw [List.length_append,List.length_append,hdl,htl,hLl]; omega
  have hcells : ∀ (b : Nat) (w' : World) (c' : Array Value) (T : TypeId),w'.heap[b]? = some (.cells c' T (0,0)) →
    (∀ j,j < ii * tsz P te → c'[j]? = some (old.getD j undef)) → (∀ j (hj : j < L.length),c'[ii * tsz P te + j]? = some L[j]) → (∀ j (hj : j < (old.drop (ii * tsz P te)).length),c'[(ii + ys.length) * tsz P te + j]? = some (old.drop (ii * tsz P te))[j]) →
    ∀ j (hj : j < (flatD (xs.take ii ++ ys ++ xs.drop ii)).length),∃ v,w'.cell? ⟨b,j,none⟩ = some v ∧ leaf v = true ∧ RepD w (Tot Mo s.bx s.ow m) (flatD (xs.take ii ++ ys ++ xs.drop ii))[j] v:=by
   intro b w' c' T hb' p1 p2 p3 j hj
   have hjO : j < (old.take (ii * tsz P te) ++ L ++ old.drop (ii * tsz P te)).length:=by rw [hrow.1]; exact hj
   refine ⟨_,?_,?_,hrow.2.2 j hj⟩
   ·rw [cell_of_block hb',getD_parts hjO,htl]
    have hjl : j < (xs.length + ys.length) * tsz P te:=by rw [← hOl]; exact hjO
    split
    ·rename_i hj1
     rw [p1 j hj1,List.getD_eq_getElem?_getD,List.getD_eq_getElem?_getD,List.getElem?_take_of_lt hj1]
    ·rename_i hj1
     split
     ·rename_i hj2
      have:=p2 (j - ii * tsz P te) (by omega)
      rw [show ii * tsz P te + (j - ii * tsz P te) = j from by omega] at this
      rw [this,List.getD_eq_getElem?_getD,List.getElem?_eq_getElem (by omega)]; rfl
     ·rename_i hj2
      have:=p3 (j - (ii * tsz P te + L.length)) (by omega)
      rw [show (ii + ys.length) * tsz P te + (j - (ii * tsz P te + L.length)) = j from by omega] at this
      rw [this,List.getD_eq_getElem?_getD,List.getElem?_eq_getElem (by omega)]; rfl
   ·have:=hrow.2.1 _ (List.getElem_mem hjO)
    rw [List.getD_eq_getElem?_getD,List.getElem?_eq_getElem hjO]; exact this
  rcases hvec.hd with hd | ⟨b,c,T,hb1,hreg,hblk,hszb⟩
  ·omega
  have hcapm : xs.length * tsz P te ≤ (m.vl nm).2.2 * tsz P te:=Nat.mul_le_mul_right _ hcap
  have hneo : nonempty (m.ow nm):=by
   rw [hreg]; simp only [nonempty]
   exact Nat.lt_of_lt_of_le (Nat.mul_pos (by omega) hz0) hcapm
  have ocs : ∀ j v,old[j]? = some v → w.cell? ⟨b,0 + j,none⟩ = some v:=fun j v hv=>by
   have hj:=(List.getElem?_eq_some_iff.1 hv).1
   have:=ocell j hj
   rw [hreg,List.getD_eq_getElem?_getD,hv] at this
   exact this
  have ycs : ∀ j v,L[j]? = some v → w.cell? ⟨yb,yo + j,none⟩ = some v ∧ ¬ Tot Mo s.bx s.ow m yb (yo + j):=fun j v hv=>by
   have hj:=(List.getElem?_eq_some_iff.1 hv).1
   obtain ⟨ad,cap',e1,e2,e3,e4⟩:=aty j hj
   rw [ec] at e1; cases e1
   rw [List.getD_eq_getElem?_getD,hv] at e3
   exact ⟨e3,e4⟩
  have hyb : yb ≠ b:=by
   intro e
   have hv : L[0]? = some L[0]:=List.getElem?_eq_getElem (by omega)
   obtain ⟨g1,g2⟩:=ycs 0 _ hv
   rw [e] at g1 g2
   refine g2 (.inr (.inr ⟨nm,hn,by rw [hreg],by rw [hreg]; exact Nat.zero_le _,?_⟩))
   rw [hreg]; simp only
   rw [cell_of_block hblk] at g1
   have:=(Array.getElem?_eq_some_iff.1 g1).1
   omega
  have one : ∀ l : List Value,(∀ v ∈ l,leaf v = true) → ∀ v ∈ l,v.oneCell' = true:=fun l h v hv=>leaf_oneCell (h v hv)
  by_cases hroom : xs.length + ys.length ≤ (m.vl nm).2.2
  ·
   have hcapn : (xs.length + ys.length) * tsz P te ≤ (m.vl nm).2.2 * tsz P te:=Nat.mul_le_mul_right _ hroom
   obtain ⟨yc0,yT,yf,hyblk,_⟩:=block_of_cell (ycs 0 _ (List.getElem?_eq_getElem (show 0 < L.length by omega))).1
   have hy0 : yc0.size ≠ 0:=by
    have h:=(ycs 0 _ (List.getElem?_eq_getElem (show 0 < L.length by omega))).1
    rw [cell_of_block hyblk] at h
    have:=(Array.getElem?_eq_some_iff.1 h).1
    omega
   have hrun:=hI.shift b 0 xs.length (m.vl nm).2.2 ii yb yo ys.length yc old L w hin hm0 hroom hmx hyb ol hLl ocs (fun j hj=>by
     rw [cell_of_block hblk,Array.getElem?_eq_getElem (by omega)]; rfl) (fun j _=>frozen_of_block hblk) (fun j v hv=>(ycs j v hv).1) (one _ oleaf) (one _ oky.leafs) yT T yc0.size c.size (shape_of_block hyblk) (shape_of_block hblk) hy0 (frozen_of_block hblk)
   obtain ⟨c',q1,q2,q3,q4,q5,q6,q7,q8,q9,q10⟩:=put2 (w:=w.drew) b (0 + (ii + ys.length) * tsz P te) (0 + ii * tsz P te) (old.drop (ii * tsz P te)) L c T hblk (by omega) (by omega)
   obtain ⟨r1,r2⟩:=hR.vecTurn nm (m.ow nm) (m.ow nm) (some ⟨b,0,none⟩,xs.length + ys.length,(m.vl nm).2.2) (tsz P te) (xs.take ii ++ ys ++ xs.drop ii) (w':=putCells (putCells w.drew b (0 + (ii + ys.length) * tsz P te) (old.drop (ii * tsz P te))) b (0 + ii * tsz P te) L)
    (fun _=>⟨hn,rfl⟩) ⟨q7,q8,q9,by rw [q10]; exact Nat.le_refl _⟩ (fun b' _ hne'=>q6 b' (by rw [hreg] at hne'; exact hne' (by rw [hreg] at hneo; exact hneo))) (fun _ c0 T0 hc0=>by
     rw [hreg] at hc0 ⊢
     simp only at hc0 ⊢
     rw [hblk] at hc0; cases hc0
     refine ⟨c',q1,q2,fun o ho=>q3 o ?_ ?_⟩ <;> (right; omega)) (fun _=>.inl rfl) (.inr ⟨b,c',T,rfl,hreg,q1,by rw [q2]; exact hszb⟩) hnl.symm (by rw [hnl]; exact hroom) (by rw [hnl]; exact hmx) hsz' (fun j hj=>by
     rw [hreg]; simp only [Nat.zero_add]
     have:=hcells b _ c' T q1 (fun j hj=>by
       rw [q3 j (by left; omega) (by left; omega),← cell_of_block hblk]
       have h:=ocell j (by omega)
       rw [hreg] at h
       simpa using h) (fun j hj=>by have:=q4 j hj; rwa [Nat.zero_add] at this) (fun j hj=>by
       have:=q5 j hj (by right; omega)
       rwa [Nat.zero_add] at this) j hj
     simpa only [Nat.zero_add] using this)
   rw [hb1]
   refine hrun.mono fun e w1 he=>post _ _ _ r1 (fun M=>?_) r2 rfl e w1 ⟨he.1,by rw [he.2,setCells_put,setCells_put]⟩
   have:=@RepV.vsl (putCells (putCells w.drew b (0 + (ii + ys.length) * tsz P te) (old.drop (ii * tsz P te))) b (0 + ii * tsz P te) L) M (m.vturn nm (m.ow nm) (some ⟨b,0,none⟩,xs.length + ys.length,(m.vl nm).2.2)) nm
   simpa [Mp.vturn] using this
  ·
   obtain ⟨zi,z,hzi,hzz,hzcv⟩:=tzero_inv hI.zc
   have hzs : z.cells.size = tsz P te:=by
    have:=(repV_const (w:=w) (M:=fun _ _=>False) (m:=m) z).csOK (by rw [← hzcv]; exact hI.zc)
    rw [this.size,← hzcv]; exact hI.zl
   have hzisz : zi.size = tsz P te:=by simp [tsz,hzi]
   have hzib : zi.bytes = tbytes P te:=by simp [tbytes,hzi]
   have hik : ii + (xs.length + ys.length - ii) = xs.length + ys.length:=by omega
   have hkk : (xs.length : Int) + (ys.length : Int) - (ii : Int) = ((xs.length + ys.length - ii : Nat) : Int):=by omega
   obtain ⟨G,hG⟩ : ∃ G,G = grownCap w (xs.length + ys.length) (m.vl nm).2.2 te:=⟨_,rfl⟩
   have hGn : xs.length + ys.length ≤ G:=by rw [hG]; exact grownCap_ge w _ _ _
   obtain ⟨ROW,hROW⟩ : ∃ ROW : Array Value,ROW = (old.take (ii * tsz P te)).toArray ++ Builtin.zeroCells z.cells (xs.length + ys.length - ii) ++ Builtin.zeroCells z.cells (G - (xs.length + ys.length)):=⟨_,rfl⟩
   have hGm : ii * tsz P te + (xs.length + ys.length - ii) * tsz P te + (G - (xs.length + ys.length)) * tsz P te = G * tsz P te:=by rw [← Nat.add_mul,← Nat.add_mul]; congr 1; omega
   have hGm2 : (xs.length + ys.length) * tsz P te ≤ G * tsz P te:=Nat.mul_le_mul_right _ hGn
   have hRs : ROW.size = G * tsz P te:=by
    rw [hROW]
    simp only [Array.size_append,List.size_toArray,size_zeroCells,htl,hzs]
    exact hGm
   have hrz : ∀ ty,(Builtin.append_ #[ts,ti] ty #[.slice (some ⟨b,0,none⟩) ii (m.vl nm).2.2,.int .i64 ((xs.length : Int) + (ys.length : Int) - (ii : Int))]).run P w = .ok (.slice (some ⟨w.heap.size,0,none⟩) (xs.length + ys.length) G) (w.drew.alloc (.cells ROW te)):=fun ty=>by
    have h:=Lib.run_append_grow_zeros w ts ti ty te zi z .i64 .i64 hI.us hI.ui hzi hzz (some ⟨b,0,none⟩) ii (m.vl nm).2.2 (old.take (ii * tsz P te)) (by
      rw [hzisz]
      exact Go.run_firstCells_some w.drew (tsz P te) ii ⟨b,0,none⟩ ii (m.vl nm).2.2 (old.take (ii * tsz P te)) (by rw [htl]) (fun j v hj=>by
       rw [Addr.add_lit]
       rw [List.getElem?_take] at hj
       split at hj
       ·exact ocs j v hj
       ·cases hj)) (xs.length + ys.length - ii) (by omega) (by rw [hzisz]; exact hz0) (by omega) (by omega) (by
      rw [hzib]
      have : (xs.length + ys.length - ii) * tbytes P te ≤ (xs.length + ys.length) * tbytes P te:=Nat.mul_le_mul_right _ (by omega)
      omega) (by rw [hzib,hik]; exact growslice_fits (by omega) hb)
    rw [hik,← hG,← hROW] at h
    rw [hkk]
    exact h
   have hrun:=hI.grow b 0 xs.length (m.vl nm).2.2 ii yb yo ys.length yc G old L ROW w hin hm0 hcap (by omega) ol hLl ocs (fun j v hv=>(ycs j v hv).1) (one _ oleaf) (one _ oky.leafs) hGn hmx (by omega) hrz
   have hbl : Below w.heap.size w ((w.alloc (.cells ROW te)).drew):=((Below.refl _ w).alloc (Nat.le_refl _) _).drew
   have hnewb : ((w.alloc (.cells ROW te)).drew).heap[w.heap.size]? = some (.cells ROW te (0,0)):=World.alloc_heap_new w _
   have edr : ∀ (o : Nat) (l : List Value),((((w.alloc (.cells ROW te)).drew.setCells w.heap.size (ii * tsz P te) L).drew).setCells w.heap.size o l) = (((w.alloc (.cells ROW te)).drew.drew.setCells w.heap.size (ii * tsz P te) L).setCells w.heap.size o l):=fun o l=>by
    rw [drew_setCells']
   obtain ⟨c',q1,q2,q3,q4,q5,q6,q7,q8,q9,q10⟩:=put2 (w:=(w.alloc (.cells ROW te)).drew.drew) w.heap.size (ii * tsz P te) ((ii + ys.length) * tsz P te) L (old.drop (ii * tsz P te)) ROW te hnewb (by omega) (by omega)
   obtain ⟨r1,r2⟩:=hR.vecTurn nm (0,0,0) (w.heap.size,0,G * tsz P te) (some ⟨w.heap.size,0,none⟩,xs.length + ys.length,G) (tsz P te) (xs.take ii ++ ys ++ xs.drop ii) (w':=putCells (putCells (w.alloc (.cells ROW te)).drew.drew w.heap.size (ii * tsz P te) L) w.heap.size ((ii + ys.length) * tsz P te) (old.drop (ii * tsz P te)))
    (fun h=>by simp [nonempty] at h) ⟨q7.trans hbl.os,q8.trans hbl.tape,q9.trans hbl.output,by rw [q10]; exact hbl.size⟩ (fun b' hb' _=>(q6 b' (by omega)).trans (hbl.block b' hb')) (fun h=>by simp [nonempty] at h) (fun _=>.inr (Nat.le_refl _))
    (.inr ⟨w.heap.size,c',te,rfl,rfl,q1,by rw [q2]; exact hRs⟩) hnl.symm (by rw [hnl]; exact hGn) (by rw [hnl]; exact hmx) hsz' (fun j hj=>by
     simp only [Nat.zero_add]
     exact hcells w.heap.size _ c' te q1 (fun j hj=>by
       rw [q3 j (by left; omega) (by left; omega),hROW,Array.append_assoc,Array.getElem?_append_left (by simpa [htl] using hj),List.getElem?_toArray,List.getElem?_take_of_lt hj,List.getD_eq_getElem?_getD,List.getElem?_eq_getElem (by omega)]; rfl) (fun j hj=>q5 j hj (by left; omega)) (fun j hj=>q4 j hj) j hj)
   rw [hb1]
   refine hrun.mono fun e w1 he=>post _ _ _ r1 (fun M=>?_) r2 rfl e w1 ⟨he.1,by rw [he.2,edr,setCells_put,setCells_put]⟩
   have:=@RepV.vsl (putCells (putCells (w.alloc (.cells ROW te)).drew.drew w.heap.size (ii * tsz P te) L) w.heap.size ((ii + ys.length) * tsz P te) (old.drop (ii * tsz P te))) M (m.vturn nm (w.heap.size,0,G * tsz P te) (some ⟨w.heap.size,0,none⟩,xs.length + ys.length,G)) nm
   simpa [Mp.vturn] using this
theorem zero_run {t : TypeId} {v : Value} (h : (P.info? t).bind (·.zero) = some v) (w : World) : (zeroValue t).run P w = .ok v w:=by
 cases hi : P.info? t with
 | none=>simp [hi] at h
 | some i =>
  have hz : i.zero = some v:=by simpa [hi] using h
  simp [zeroValue,typeInfo,hi,hz]
theorem size_run {t : TypeId} {k : Nat} (h : tsz P t = k) (hk : k ≠ 0) (w : World) : (Go.sizeOf t).run P w = .ok k w:=by
 subst h
 obtain ⟨i,hi⟩:=tsz_some hk
 simp [Go.sizeOf,typeInfo,hi,tsz]
theorem size_map {t : TypeId} {k : Nat} (h : tsz P t = k) (hk : k ≠ 0) : (P.info? t).map (·.size) = some k:=by
 subst h
 obtain ⟨i,hi⟩:=tsz_some hk
 simp [tsz,hi]
end Go.Ab
namespace Go.Ab
open Go Go.RowKit
set_option linter.unusedVariables false
set_option linter.unusedSimpArgs false
variable {P : Program} {w : World} {n : Nat} {Mo : Cells} {m : Mp} {s : Sa} {sa : List Act} {p : Name}
def MakeOK (P : Program) (f : FuncId) (ds : List D) (sz : Nat) (xs : List D) : Prop :=
 ∀ (p : Name) (args : List V) (s : Sa) (nm : Name) (k : V → Sa → Prop),toDs V.toD args = some ds → k (.vsl nm) (s.vturn nm sz xs) → TCall P p f args s k
structure CloOK (P : Program) (f : FuncId) (ts te : TypeId) : Prop where
 pos : tsz P te ≠ 0
 us : P.underlying ts = some (.slice te)
 zc : isCells (tzero P te) = true
 zl : (tzero P te).cells.length = tsz P te
 nilc : ∀ (n c : Nat) (w : World),Calls P f #[.slice none n c] w fun e w'=>e = .returned (.slice none 0 0) ∧ w' = w
 somec : ∀ (a : Addr) (n c : Nat) (w w' : World) (v' : Value) (_ : ∀ ty,(Builtin.append_ #[ts,ts] ty #[.slice (some ⟨w.heap.size,0,none⟩) 0 0,.slice (some a) n c]).run P (w.alloc (.cells #[] te)) = .ok v' w'),
  Calls P f #[.slice (some a) n c] w fun e w1=>e = .returned v' ∧ w1 = w'
theorem CloOK.make {f : FuncId} {ts te : TypeId} {xs : List D} (hI : CloOK P f ts te) (hxr : ∀ x ∈ xs,x.cells.length = tsz P te) (hb : xs.length * tbytes P te ≤ 140737488355328) (hmx : xs.length ≤ 9223372036854775807) : MakeOK P f [.sl xs] (tsz P te) xs:=by
 intro p args s nm k hd hk Mo m sa w nn vs r hR hargs
 have hz:=hI.pos
 obtain ⟨d1,d2⟩:=toDs_spec hd
 obtain ⟨y,rfl⟩:=List.length_eq_one_iff.1 (d1.symm.trans (by rfl) : args.length = 1)
 have a0:=(hargs.2 0 (by simp)).toD (d2 0 (by simp) (by simp))
 simp only [List.getElem_cons_zero] at a0
 obtain ⟨ya,yc,sz',yb,yo,cv,ec,hc1,hc2,ha,hsz,hcell,hrep⟩:=a0.sl_inv
 have evs : vs = #[.slice ya xs.length yc]:=by
  have hs : vs.size = 1:=by rw [hargs.1]; rfl
  apply Array.ext
  ·rw [hs]; rfl
  ·intro j hj _
   have : j = 0:=by omega
   subst this
   have gd : vs.getD 0 undef = vs[0]:=by rw [Array.getD_eq_getD_getElem?,Array.getElem?_eq_getElem hj]; rfl
   rw [← gd]; exact ec
 rw [evs]
 refine callsIn_round (callsIn_wide.2 ?_)
 have post : ∀ (w' : World) (reg : Nat × Nat × Nat) (hd : Option Addr × Nat × Nat),Rel Mo (m.vturn nm reg hd) (s.vturn nm (tsz P te) xs) sa w' → Step m s w (m.vturn nm reg hd) (s.vturn nm (tsz P te) xs) w' →
   ∀ e w1,(e = .returned (.slice hd.1 hd.2.1 hd.2.2) ∧ w1 = w') → CallPost Mo m s sa w k e w1:=by
  rintro w' reg hd g2 g3 e w1 ⟨rfl,rfl⟩
  refine ⟨_,.vsl nm,_,_,rfl,hk,g2,?_,g3,by simp only [rdOf]; rfl⟩
  have:=@RepV.vsl w1 (Tot Mo (s.vturn nm (tsz P te) xs).bx (s.vturn nm (tsz P te) xs).ow (m.vturn nm reg hd)) (m.vturn nm reg hd) nm
  simpa [Mp.vturn] using this
 have empty : ∀ (w' : World) (base : Option Addr),xs = [] → Below w.heap.size w w' → Rel Mo (m.vturn nm (0,0,0) (base,0,0)) (s.vturn nm (tsz P te) xs) sa w' ∧ Step m s w (m.vturn nm (0,0,0) (base,0,0)) (s.vturn nm (tsz P te) xs) w':=by
  intro w' base hx hbl
  subst hx
  exact hR.vecTurn nm (0,0,0) (0,0,0) (base,0,0) (tsz P te) [] (w':=w') (fun h=>by simp [nonempty] at h) ⟨hbl.os,hbl.tape,hbl.output,hbl.size⟩ (fun b hb' _=>hbl.block b hb') (fun h=>by simp [nonempty] at h) (fun h=>by simp [nonempty] at h)
   (.inl ⟨rfl,rfl⟩) rfl (by simp) (by simp) (by simp) (fun j hj=>by simp [flatD] at hj)
 cases ya with
 | none =>
  have hx : xs = []:=Classical.byContradiction fun h=>by have:=ha h; cases this
  obtain ⟨g1,g2⟩:=empty w none hx (Below.refl _ _)
  exact (hI.nilc _ _ w).mono (post w (0,0,0) (none,0,0) g1 g2)
 | some a =>
  obtain ⟨W0,hW0⟩ : ∃ W0,W0 = w.alloc (.cells #[] te):=⟨_,rfl⟩
  have hbl0 : Below w.heap.size w W0:=by rw [hW0]; exact (Below.refl _ w).alloc (Nat.le_refl _) _
  have hR0:=hR.below hbl0
  obtain ⟨zi,z,hzi,hzz,hzcv⟩:=tzero_inv hI.zc
  have hzs : z.cells.size = tsz P te:=by
   have:=(repV_const (w:=w) (M:=fun _ _=>False) (m:=m) z).csOK (by rw [← hzcv]; exact hI.zc)
   rw [this.size,← hzcv]; exact hI.zl
  have a0' : RepD W0 (Tot Mo s.bx s.ow m) (.sl xs) (.slice (some a) xs.length yc):=by rw [← ec]; exact a0.mono (stab_below _ hbl0)
  obtain ⟨L,hnew,oky,aty⟩:=run_firstCells (P:=P) a0' hxr hz
  have happ:=fun ty=>run_append (P:=P) (w:=W0) (ty:=ty) (ts:=#[ts,ts]) (args:=#[.slice (some ⟨w.heap.size,0,none⟩) 0 0,.slice (some a) xs.length yc]) (L:=L) (old:=[]) (base:=some ⟨w.heap.size,0,none⟩) (len:=0) (cap:=0) (y:=.slice (some a) xs.length yc) (ny:=xs.length) rfl rfl hI.us hI.us hz ⟨zi,hzi,hzz⟩ rfl rfl rfl
   (by rw [Nat.zero_add]; exact hb) (by omega) hnew (fun w' _=>by
    simp only [Builtin.firstCells,Nat.zero_mul]
    exact run_loadCells w' _ 0 (fun _=>undef) (fun q hq=>absurd hq (Nat.not_lt_zero _))) (fun h0 ad had=>by
    have hL0 : L = []:=List.eq_nil_of_length_eq_zero (by rw [oky.len,show xs.length = 0 from by omega]; simp)
    rw [hL0]; rfl)
  by_cases hx0 : xs.length = 0
  ·have hx : xs = []:=List.eq_nil_of_length_eq_zero hx0
   have hL0 : L = []:=List.eq_nil_of_length_eq_zero (by rw [oky.len,hx0]; simp)
   obtain ⟨g1,g2⟩:=empty W0 (some ⟨w.heap.size,0,none⟩) hx hbl0
   refine (hI.somec a xs.length yc w W0 (.slice (some ⟨w.heap.size,0,none⟩) 0 0) (fun ty=>?_)).mono (post W0 (0,0,0) (some ⟨w.heap.size,0,none⟩,0,0) g1 g2)
   rw [← hW0]
   rcases happ ty with ⟨_,h⟩ | ⟨h,_⟩
   ·rw [h,hL0,hx0]; rfl
   ·omega
  ·rcases happ ts with ⟨h,_⟩ | ⟨hcc,nc,rest,hnc,hrun,hrest⟩
   ·omega
   ·have hbl : Below W0.heap.size W0 (W0.drew.alloc (.cells (([] : List Value).toArray ++ L.toArray ++ rest) te)):=((Below.refl _ W0).drew).alloc (Nat.le_refl _) _
    have hnewb : (W0.drew.alloc (.cells (([] : List Value).toArray ++ L.toArray ++ rest) te)).heap[W0.heap.size]? = some (.cells (([] : List Value).toArray ++ L.toArray ++ rest) te (0,0)):=World.alloc_heap_new W0.drew _
    have hnn : (nc - (0 + xs.length)) * tsz P te + xs.length * tsz P te = nc * tsz P te:=by rw [← Nat.add_mul]; congr 1; omega
    rw [hzs] at hrest
    have hLl:=oky.len
    have hsize : (([] : List Value).toArray ++ L.toArray ++ rest).size = nc * tsz P te:=by
     simp only [Array.size_append,List.size_toArray,List.length_nil,hLl,hrest]; omega
    have hz0 : 0 < tsz P te:=Nat.pos_of_ne_zero hz
    obtain ⟨g1,g2⟩:=hR0.vecTurn nm (0,0,0) (W0.heap.size,0,nc * tsz P te) (some ⟨W0.heap.size,0,none⟩,xs.length,nc) (tsz P te) xs (w':=W0.drew.alloc (.cells (([] : List Value).toArray ++ L.toArray ++ rest) te)) (fun h=>by simp [nonempty] at h)
     ⟨hbl.os,hbl.tape,hbl.output,hbl.size⟩ (fun b hb' _=>hbl.block b hb') (fun h=>by simp [nonempty] at h) (fun _=>.inr (Nat.le_refl _)) (.inr ⟨W0.heap.size,_,te,rfl,rfl,hnewb,by simp only; omega⟩) rfl (by simp only; omega) hmx hxr (fun j hj=>by
      have hjl : j < L.length:=by rw [hLl,← flatD_len hxr]; exact hj
      refine ⟨L.getD j undef,?_,?_,oky.flat hz0 j hj⟩
      ·simp only [Nat.zero_add]
       rw [cell_of_block hnewb,Array.getElem?_append_left (by simp; omega)]
       simp [List.getD_eq_getElem?_getD,List.getElem?_eq_getElem hjl]
      ·rw [List.getD_eq_getElem?_getD,List.getElem?_eq_getElem hjl]; exact oky.leafs _ (List.getElem_mem hjl))
    rw [Nat.zero_add] at hrun
    refine (hI.somec a xs.length yc w _ (.slice (some ⟨W0.heap.size,0,none⟩) xs.length nc) (fun ty=>?_)).mono (post _ (W0.heap.size,0,nc * tsz P te) (some ⟨W0.heap.size,0,none⟩,xs.length,nc) g1 ((Step.of_below hbl0).trans g2))
    rw [← hW0]
    rcases happ ty with ⟨h,_⟩ | ⟨hcc',nc',rest',hnc',hrun',hrest'⟩
    ·omega
    ·exact (show (Builtin.append_ #[ts,ts] ty _).run P W0 = (Builtin.append_ #[ts,ts] ts _).run P W0 from rfl).trans hrun
theorem Rel.vecData (h : Rel Mo m s sa w) {nm : Name} {sz : Nat} {xs : List D} (hc : lookN nm s.vc = some (sz,xs)) : RepD w Mo (.sl xs) (.slice (m.vl nm).1 (m.vl nm).2.1 (m.vl nm).2.2):=by
 obtain ⟨hn,hv⟩:=h.vec nm _ hc
 simp only at hv
 rw [hv.len]
 rcases hv.hd with hd | ⟨b,c,T,ha,hrow,hblk,hsz⟩
 ·have hx : xs = []:=List.eq_nil_of_length_eq_zero (by have:=hv.cap; omega)
  subst hx
  exact RepD.sl (xs:=[]) 0 0 0 (fun _ _=>undef) (by simp) (by simp) (by simp) (by simp) (by simp) (by simp)
 ·have hcell : ∀ k (hk : k < xs.length) j (hj : j < xs[k].cells.length),∃ v,w.cell? ⟨b,0 + k * sz + j,none⟩ = some v ∧ leaf v = true ∧ RepD w (Tot Mo s.bx s.ow m) (xs[k].cells)[j] v ∧ ¬ Mo b (0 + k * sz + j):=by
   intro k hk j hj
   have hsz':=hv.sz _ (List.getElem_mem hk)
   rw [hsz'] at hj
   have hz0 : 0 < sz:=by omega
   have hlt:=mul_lt hk hj
   obtain ⟨v,h1,h2,h3⟩:=hv.cells (k * sz + j) (by rw [flatD_len hv.sz]; exact hlt)
   rw [hrow] at h1
   simp only [Nat.zero_add] at h1
   have hg:=flatD_get hz0 hv.sz (k * sz + j)
   have e1 : (k * sz + j) / sz = k:=by rw [Nat.mul_comm,Nat.mul_add_div hz0,Nat.div_eq_of_lt hj,Nat.add_zero]
   have e2 : (k * sz + j) % sz = j:=by rw [Nat.mul_comm,Nat.mul_add_mod,Nat.mod_eq_of_lt hj]
   rw [e1,e2,List.getElem?_eq_getElem (by rw [flatD_len hv.sz]; exact hlt),List.getElem?_eq_getElem hk,Option.bind_some,List.getElem?_eq_getElem (by omega),Option.some.injEq] at hg
   have hcap:=Nat.mul_le_mul_right sz hv.cap
   have hne : nonempty (m.ow nm):=by rw [hrow]; simp only [nonempty]; omega
   refine ⟨v,by rw [Nat.zero_add]; exact h1,h2,by rw [← hg]; exact h3,fun hm=>h.owm nm hn hne _ (by rw [hrow]; exact hm)⟩
  rw [ha]
  refine RepD.sl sz b 0 (fun k j=>(w.cell? ⟨b,0 + k * sz + j,none⟩).getD undef) hv.cap hv.mx (fun _=>rfl) (fun k hk=>hv.sz _ (List.getElem_mem hk)) (fun k hk j hj=>?_) (fun k hk j hj=>?_)
  ·obtain ⟨v,h1,h2,_,h4⟩:=hcell k hk j hj
   rw [h1]; exact ⟨rfl,h2,h4⟩
  ·obtain ⟨v,h1,_,h3,_⟩:=hcell k hk j hj
   simp only [h1,Option.getD_some]
   exact h3.mono (fun b o c hc hm=>⟨hc,fun h=>hm (.inl h)⟩)
theorem MakeOK.pure {f : FuncId} {ds : List D} {sz : Nat} {xs : List D} (h : MakeOK P f ds sz xs) : PureOK P f ds [.sl xs]:=by
 intro M w n vs hlt hs hr
 have h0:=rel_start (m:=⟨fun _=>0,fun _=>(0,0,0),fun _=>0,fun _=>(none,0,0)⟩) ds.length hlt hs hr (Nat.le_refl _)
 have hargs : ArgsOK w (Tot M (s0 ds.length ds).bx (s0 ds.length ds).ow ⟨fun _=>0,fun _=>(0,0,0),fun _=>0,fun _=>(none,0,0)⟩) ⟨fun _=>0,fun _=>(0,0,0),fun _=>0,fun _=>(none,0,0)⟩ (ds.map .d) vs:=by
  refine ⟨by simpa using hs,fun i hi=>?_⟩
  simp only [List.length_map] at hi
  simp only [List.getElem_map]
  refine .d ((hr i hi).mono (fun b o c hc hm=>⟨hc,fun ht=>hm ?_⟩))
  rcases ht with ht | ⟨nm,c,hn,_⟩ | ⟨i,hi,_⟩
  ·exact ht
  ·simp [s0,lookN] at hn
  ·simp [s0] at hi
 have hd : ∀ ds : List D,toDs V.toD (ds.map V.d) = some ds:=by
  intro ds
  induction ds with
  | nil=>rfl
  | cons d ds ih=>simp [toDs,V.toD,V.toD1,ih]
 have hc:=h [] (ds.map .d) (s0 ds.length ds) [] (fun v s'=>v = .vsl [] ∧ s' = (s0 ds.length ds).vturn [] sz xs) (hd ds) ⟨rfl,rfl⟩ M _ _ w n vs none h0 hargs
 refine hc.mono ?_
 rintro e w' ⟨c,v,m',s',rfl,⟨rfl,rfl⟩,hR',hv,hst,_⟩
 refine ⟨c,rfl,⟨hst.keeps.os,hst.keeps.tape,hst.keeps.output,hst.keeps.size,fun b hb'=>hst.keeps.blk b hb' (fun o ho=>?_) (fun hl=>?_)⟩,fun m2=>?_⟩
 ·rcases ho with ⟨nm,c,hn,_⟩ | ⟨i,hi,_⟩
  ·simp [s0,lookN] at hn
  ·simp [s0] at hi
 ·obtain ⟨l,q,hl,_⟩:=hl
  simp [s0,lookN] at hl
 ·have hcv:=hv.vsl_inv
  have:=hR'.vecData (nm:=[]) (sz:=sz) (xs:=xs) (by simp [Sa.vturn,lookN])
  rw [hcv]
  exact .d this
end Go.Ab
namespace Go.Ab
open Go Go.RowKit
variable {P : Program} {w : World} {n : Nat} {Mo : Cells} {m : Mp} {s : Sa} {p : Name} {k : Sa → Prop}
def PCall (P : Program) (g : FuncId) (args : List V) (s : Sa) (k : V → Sa → Prop) : Prop:=∃ ds rs,toDs V.toD args = some ds ∧ PureOK P g ds rs ∧ k (mkRes (rs.map .d)) s
theorem PCall_pure {f : FuncId} {args : List V} {ds rs : List D} {k : V → Sa → Prop} (h : PureOK P f ds rs) (hd : toDs V.toD args = some ds) (hk : k (mkRes (rs.map .d)) s) : PCall P f args s k:=⟨ds,rs,hd,h,hk⟩
def semsP (P : Program) : Sems:={ call:=fun _ g args s k=>PCall P g args s k,yld:=fun _ _ _ _ _=>False,code:=fun _ _ _ _=>False }
def calm : Op → Bool
 | .move _ | .assign _ | .pick _ _ _ | .load _ _ | .fieldAddr _ _ _ | .field _ _ _ | .index _ _ _ | .indexAddr _ _ _ | .binOp _ _ _ _ _ | .unOp _ _ _ | .convert _ _ _ | .build _ _ | .slice _ _ _ _ none | .extract _ _ | .nilCheck _=>true
 | .buildSlice _ l _=>l != 0
 | .call c=>match c.callee with | .builtin .len=>true | .builtin .max=>true | .builtin .min=>true | .value _=>true | _=>false
 | .makeFunc (.func _) f _=>f.isEmpty
 | .lookup _ _ _ _=>true
 | _=>false
theorem binV_ex {t : TypeId} {op : BinOp} {x y : Value} {k : V → Prop} (h : binV P t op x y k) : ∃ v,k v ∧ ∀ k' : V → Prop,k' v → binV P t op x y k':=by
 unfold binV at h ⊢
 split at h
 ·cases op <;> simp only at h ⊢ <;> first
   | exact ⟨_,h.2,fun k' hk=>⟨h.1,hk⟩⟩
   | exact ⟨_,h.2.2,fun k' hk=>⟨h.1,h.2.1,hk⟩⟩
   | (simp only [cmpInt,arith] at h ⊢; exact ⟨_,h.2,fun k' hk=>⟨h.1,hk⟩⟩)
   | (simp only [cmpInt,arith] at h ⊢; exact h.2.elim)
 ·cases op <;> simp only at h ⊢ <;> first
   | exact ⟨_,h.2,fun k' hk=>⟨h.1,hk⟩⟩
   | exact h.2.elim
 ·cases op <;> simp only at h ⊢ <;> first
   | exact ⟨_,h,fun k' hk=>hk⟩
   | exact h.elim
 ·exact h.elim
theorem unV_ex {op : UnOp} {x : Value} {k : V → Prop} (h : unV op x k) : ∃ v,k v ∧ ∀ k' : V → Prop,k' v → unV op x k':=by
 unfold unV at h ⊢
 split at h
 ·exact ⟨_,h,fun k' hk=>hk⟩
 ·exact ⟨_,h,fun k' hk=>hk⟩
 ·exact h.elim
def V.notNil : V → Bool
 | .nil=>false
 | _=>true
def nilOK (s : Sa) : Op → Bool
 | .binOp _ _ _ y _=>(s.get y).notNil
 | .assign x=>(s.get x).notNil
 | _=>true
def BxExt (s s' : Sa) : Prop:=(∀ nm c,lookN nm s.bx = some c → lookN nm s'.bx = some c) ∧ ∀ nm c,lookN nm s.vc = some c → lookN nm s'.vc = some c
theorem BxExt.of_eq {s s' : Sa} (h : s'.bx = s.bx) (h' : s'.vc = s.vc) : BxExt s s':=⟨fun nm c hc=>by rw [h]; exact hc,fun nm c hc=>by rw [h']; exact hc⟩
theorem claim_notNil {s : Sa} {i : Name} {sz : Option Nat} {v : V} (h : v.notNil = true) : s.claim i sz v = (v,s):=by
 unfold Sa.claim
 split
 ·simp [V.notNil] at h
 ·rfl
theorem calm_congr {o : Oper} (hc : calm o.op = true) (hnil : nilOK s o.op = true) (h : evOp P (semsP P) p o s k) : ∃ v,k (s.put o.dst v) ∧
  ∀ s' : Sa,BxExt s s' → s'.n = s.n → (∀ x ∈ o.op.operands,s'.get x = s.get x) → ∀ k' : Sa → Prop,k' (s'.put o.dst v) → evOp P (semsP P) p o s' k':=by
 cases hop : o.op with
 | move x =>
  simp only [evOp,hop] at h ⊢
  exact ⟨_,h,fun s' hb hn hg k' hk=>by rw [hg x (by simp [Op.operands])]; exact hk⟩
 | assign x =>
  simp only [nilOK,hop] at hnil
  simp only [evOp,hop] at h ⊢
  rw [claim_notNil hnil] at h
  exact ⟨_,h,fun s' hb hn hg k' hk=>by
   have e:=hg x (by simp [Op.operands])
   rw [claim_notNil (by rw [e]; exact hnil),e]; exact hk⟩
 | pick c x y =>
  simp only [evOp,hop] at h ⊢
  split at h
  ·rename_i t hct
   cases t with
   | true=>exact ⟨_,h.1 rfl,fun s' hb hn hg k' hk=>by
     rw [hg c (by simp [Op.operands]),hct,hg x (by simp [Op.operands])]; exact ⟨fun _=>hk,fun e=>(by cases e)⟩⟩
   | false=>exact ⟨_,h.2 rfl,fun s' hb hn hg k' hk=>by
     rw [hg c (by simp [Op.operands]),hct,hg y (by simp [Op.operands])]; exact ⟨fun e=>(by cases e),fun _=>hk⟩⟩
  ·exact h.elim
 | load t x =>
  simp only [evOp,hop] at h ⊢
  split at h
  ·rename_i ag hag
   obtain ⟨h0,h⟩:=h
   split at h
   ·rename_i nm off hx
    split at h
    ·rename_i c hcb
     exact ⟨_,h.2,fun s' hb hn hg k' hk=>by simp only [hag,hg x (by simp [Op.operands]),hx,hb.1 _ _ hcb]; exact ⟨h0,h.1,hk⟩⟩
    ·exact h.elim
   ·rename_i cs hx
    exact ⟨_,h.2,fun s' hb hn hg k' hk=>by simp only [hag,hg x (by simp [Op.operands]),hx]; exact ⟨h0,h.1,hk⟩⟩
   ·rename_i nm off hx
    split at h
    ·rename_i c hcb
     exact ⟨_,h.2,fun s' hb hn hg k' hk=>by simp only [hag,hg x (by simp [Op.operands]),hx,hb.2 _ _ hcb]; exact ⟨h0,h.1,hk⟩⟩
    ·exact h.elim
   ·exact h.elim
  ·exact h.elim
 | fieldAddr t x i =>
  simp only [evOp,hop] at h ⊢
  split at h
  ·rename_i off ft hf
   obtain ⟨h0,h⟩:=h
   split at h
   ·rename_i nm o' hx
    exact ⟨_,h,fun s' hb hn hg k' hk=>by simp only [hf,hg x (by simp [Op.operands]),hx]; exact ⟨h0,hk⟩⟩
   ·rename_i cs hx
    exact ⟨_,h,fun s' hb hn hg k' hk=>by simp only [hf,hg x (by simp [Op.operands]),hx]; exact ⟨h0,hk⟩⟩
   ·rename_i nm o' hx
    exact ⟨_,h,fun s' hb hn hg k' hk=>by simp only [hf,hg x (by simp [Op.operands]),hx]; exact ⟨h0,hk⟩⟩
   ·exact h.elim
  ·exact h.elim
 | field t x i =>
  simp only [evOp,hop] at h ⊢
  split at h
  ·rename_i off ft hf
   split at h
   ·rename_i ag hag
    exact ⟨_,h.2.2.2,fun s' hb hn hg k' hk=>by simp only [hf,hag,hg x (by simp [Op.operands])]; exact ⟨h.1,h.2.1,h.2.2.1,hk⟩⟩
   ·exact h.elim
  ·exact h.elim
 | index t x ix =>
  simp only [evOp,hop] at h ⊢
  split at h
  ·rename_i i hi
   split at h
   ·rename_i nn e hne
    split at h
    ·rename_i ag hag
     exact ⟨_,h.2.2.2.2.2,fun s' hb hn hg k' hk=>by simp only [hg x (by simp [Op.operands]),hg ix (by simp [Op.operands]),hi,hne,hag]; exact ⟨h.1,h.2.1,h.2.2.1,h.2.2.2.1,h.2.2.2.2.1,hk⟩⟩
    ·exact h.elim
   ·exact h.elim
  ·exact h.elim
 | indexAddr t x ix =>
  simp only [evOp,hop] at h ⊢
  split at h
  ·rename_i i hi
   split at h
   ·rename_i e he
    split at h
    ·rename_i xs hxs
     obtain ⟨h1,h2,h3,h4⟩:=h
     have hlt : i.toNat < xs.length:=by omega
     obtain ⟨h5,h6⟩:=h4 _ (List.getElem?_eq_getElem hlt)
     refine ⟨_,h6,fun s' hb hn hg k' hk=>?_⟩
     simp only [hg x (by simp [Op.operands]),hg ix (by simp [Op.operands]),hi,he,hxs]
     refine ⟨h1,h2,h3,fun x hx=>?_⟩
     rw [List.getElem?_eq_getElem hlt] at hx
     cases hx
     exact ⟨h5,hk⟩
    ·rename_i hxs
     split at h
     ·rename_i nm hx
      split at h
      ·rename_i c hc'
       obtain ⟨h1,h2,h3,h4,h5⟩:=h
       refine ⟨_,h5,fun s' hb hn hg k' hk=>?_⟩
       simp only [hg x (by simp [Op.operands]),hg ix (by simp [Op.operands]),hi,he,hxs,hx,hb.2 _ _ hc']
       exact ⟨h1,h2,h3,h4,hk⟩
      ·exact h.elim
     ·exact h.elim
   ·rename_i he
    split at h
    ·rename_i nn e hne
     obtain ⟨h1,h2,h3,h4,h⟩:=h
     split at h
     ·rename_i b o' hx
      exact ⟨_,h,fun s' hb hn hg k' hk=>by simp only [hg x (by simp [Op.operands]),hg ix (by simp [Op.operands]),hi,he,hne,hx]; exact ⟨h1,h2,h3,h4,hk⟩⟩
     ·rename_i cs hx
      exact ⟨_,h,fun s' hb hn hg k' hk=>by simp only [hg x (by simp [Op.operands]),hg ix (by simp [Op.operands]),hi,he,hne,hx]; exact ⟨h1,h2,h3,h4,hk⟩⟩
     ·rename_i b o' hx
      exact ⟨_,h,fun s' hb hn hg k' hk=>by simp only [hg x (by simp [Op.operands]),hg ix (by simp [Op.operands]),hi,he,hne,hx]; exact ⟨h1,h2,h3,h4,hk⟩⟩
     ·exact h.elim
    ·exact h.elim
  ·exact h.elim
 | binOp op t x y u =>
  simp only [evOp,hop] at h ⊢
  split at h
  ·rename_i b hb
   split at h
   ·rename_i a ha
    obtain ⟨v,hv,hk⟩:=binV_ex h
    exact ⟨v,hv,fun s' hb' hn hg k' hk'=>by simp only [hg x (by simp [Op.operands]),hg y (by simp [Op.operands]),ha,hb]; exact hk (fun v=>k' (s'.put o.dst v)) hk'⟩
   ·exact h.elim
  ·rename_i ys hys
   split at h
   ·rename_i xs hxs
    split at h
    ·rename_i ks hks
     split at h
     ·rename_i r hr
      split at h
      ·exact ⟨_,h,fun s' hb' hn hg k' hk'=>by simp only [hg x (by simp [Op.operands]),hg y (by simp [Op.operands]),hxs,hys,hks,hr]; exact hk'⟩
      ·exact ⟨_,h,fun s' hb' hn hg k' hk'=>by simp only [hg x (by simp [Op.operands]),hg y (by simp [Op.operands]),hxs,hys,hks,hr]; exact hk'⟩
      ·exact h.elim
     ·exact h.elim
    ·exact h.elim
   ·exact h.elim
  ·rename_i hy
   simp [hop,nilOK,hy,V.notNil] at hnil
  ·exact h.elim
 | unOp op t x =>
  simp only [evOp,hop] at h ⊢
  split at h
  ·rename_i a ha
   obtain ⟨v,hv,hk⟩:=unV_ex h
   exact ⟨v,hv,fun s' hb' hn hg k' hk'=>by simp only [hg x (by simp [Op.operands]),ha]; exact hk (fun v=>k' (s'.put o.dst v)) hk'⟩
  ·exact h.elim
 | convert t u x =>
  simp only [evOp,hop] at h ⊢
  split at h
  ·rename_i kd q c hu hx
   exact ⟨_,h.2,fun s' hb' hn hg k' hk'=>by simp only [hg x (by simp [Op.operands]),hu,hx]; exact ⟨h.1,hk'⟩⟩
  ·exact h.elim
 | build t ps =>
  simp only [evOp,hop] at h ⊢
  obtain ⟨h1,h2,h⟩:=h
  split at h
  ·rename_i cs hcs
   refine ⟨_,h,fun s' hb' hn hg k' hk'=>?_⟩
   have e : (ps.toList.map fun x=>(x.1,s'.get x.2)) = ps.toList.map fun x=>(x.1,s.get x.2):=List.map_congr_left fun x hx=>by
    rw [hg x.2 (by simp only [Op.operands,List.mem_toArray,List.mem_map]; exact ⟨x,hx,rfl⟩)]
   simp only [e,hcs]
   exact ⟨h1,h2,hk'⟩
  ·exact h.elim
 | buildSlice t l ps =>
  have hl : l ≠ 0:=by simpa [calm,hop] using hc
  simp only [evOp,hop] at h ⊢
  split at h
  ·rename_i e he
   obtain ⟨h1,h2,h3,h4,h⟩:=h
   split at h
   ·rename_i xs hxs
    rw [if_neg hl] at h
    refine ⟨_,h.2,fun s' hb' hn hg k' hk'=>?_⟩
    have e' : (ps.toList.map fun x=>s'.get x.2) = ps.toList.map fun x=>s.get x.2:=List.map_congr_left fun x hx=>by
     rw [hg x.2 (by simp only [Op.operands,List.mem_toArray,List.mem_map]; exact ⟨x,hx,rfl⟩)]
    simp only [he,e',hxs,if_neg hl]
    exact ⟨h1,h2,h3,h4,h.1,hk'⟩
   ·exact h.elim
  ·exact h.elim
 | slice t x lo hi mx =>
  cases mx with
  | some y=>simp [calm,hop] at hc
  | none =>
   cases lo with
   | none =>
    cases hi with
    | none =>
     simp only [evOp,hop] at h ⊢
     split at h
     ·rename_i e xs l he hxs hl
      exact ⟨_,h.2.2.2.2.2,fun s' hb' hn hg k' hk'=>by simp only [hg x (by simp [Op.operands]),he,hxs,hl]; exact ⟨h.1,h.2.1,h.2.2.1,h.2.2.2.1,h.2.2.2.2.1,hk'⟩⟩
     ·exact h.elim
    | some hi =>
     simp only [evOp,hop] at h ⊢
     split at h
     ·rename_i e xs l he hxs hl
      split at h
      ·rename_i hh hhi
       exact ⟨_,h.2.2.2.2.2,fun s' hb' hn hg k' hk'=>by simp only [hg x (by simp [Op.operands]),hg hi (by simp [Op.operands]),he,hxs,hl,hhi]; exact ⟨h.1,h.2.1,h.2.2.1,h.2.2.2.1,h.2.2.2.2.1,hk'⟩⟩
      ·exact h.elim
     ·exact h.elim
   | some lo =>
    cases hi with
    | none =>
     simp only [evOp,hop] at h ⊢
     split at h
     ·rename_i e xs l he hxs hl
      exact ⟨_,h.2.2.2.2.2,fun s' hb' hn hg k' hk'=>by simp only [hg x (by simp [Op.operands]),hg lo (by simp [Op.operands]),he,hxs,hl]; exact ⟨h.1,h.2.1,h.2.2.1,h.2.2.2.1,h.2.2.2.2.1,hk'⟩⟩
     ·exact h.elim
    | some hi =>
     simp only [evOp,hop] at h ⊢
     split at h
     ·rename_i e xs l he hxs hl
      split at h
      ·rename_i hh hhi
       exact ⟨_,h.2.2.2.2.2,fun s' hb' hn hg k' hk'=>by simp only [hg x (by simp [Op.operands]),hg lo (by simp [Op.operands]),hg hi (by simp [Op.operands]),he,hxs,hl,hhi]; exact ⟨h.1,h.2.1,h.2.2.1,h.2.2.2.1,h.2.2.2.2.1,hk'⟩⟩
      ·exact h.elim
     ·exact h.elim
 | extract x i =>
  simp only [evOp,hop] at h ⊢
  split at h
  ·rename_i vs hx
   split at h
   ·rename_i v hv
    exact ⟨_,h,fun s' hb' hn hg k' hk'=>by simp only [hg x (by simp [Op.operands]),hx,hv]; exact hk'⟩
   ·exact h.elim
  ·exact h.elim
 | nilCheck x =>
  simp only [evOp,hop] at h ⊢
  split at h
  ·rename_i nm off hx
   exact ⟨_,h,fun s' hb' hn hg k' hk'=>by simp only [hg x (by simp [Op.operands]),hx]; exact hk'⟩
  ·rename_i cs hx
   exact ⟨_,h,fun s' hb' hn hg k' hk'=>by simp only [hg x (by simp [Op.operands]),hx]; exact hk'⟩
  ·rename_i nm off hx
   exact ⟨_,h,fun s' hb' hn hg k' hk'=>by simp only [hg x (by simp [Op.operands]),hx]; exact hk'⟩
  ·exact h.elim
 | makeFunc fn fi cp =>
  cases fn with
  | func f =>
   simp only [evOp,hop] at h ⊢
   refine ⟨_,h.2,fun s' hb hn hg k' hk=>⟨h.1,?_⟩⟩
   have e' : (cp.toList.map fun x=>s'.get x) = cp.toList.map fun x=>s.get x:=List.map_congr_left fun x hx=>by
    rw [hg x (by simp only [Op.operands,Array.mem_append]; exact .inr (by simpa using hx))]
   rw [show cp.toList.map s'.get = cp.toList.map s.get from e']; exact hk
  | _=>simp [calm,hop] at hc
 | lookup t x ix ok =>
  simp only [evOp,hop] at h ⊢
  split at h
  ·rename_i kd et nm hk1 hk2 hx
   split at h
   ·rename_i kd' kvs hb0
    obtain ⟨e1,h⟩:=h
    split at h
    ·rename_i kd2 a hix
     exact ⟨_,h.2.2,fun s' hb hn hg k' hk=>by simp only [hk1,hk2,hg x (by simp [Op.operands]),hx,hb.1 _ _ hb0,hg ix (by simp [Op.operands]),hix]; exact ⟨e1,h.1,h.2.1,hk⟩⟩
    ·exact h.elim
   ·exact h.elim
  ·exact h.elim
 | call c =>
  have eargs : ∀ s' : Sa,(∀ z ∈ (Op.call c).operands,s'.get z = s.get z) → c.args.toList.map s'.get = c.args.toList.map s.get:=fun s' hg =>
   List.map_congr_left fun x hx=>hg x (by simp only [Op.operands,Call.operands]; simp; exact .inr (by simpa using hx))
  cases hcc : c.callee with
  | value f =>
   simp only [evOp,hop,hcc] at h ⊢
   have hf : ∀ s' : Sa,(∀ z ∈ (Op.call c).operands,s'.get z = s.get z) → s'.get f = s.get f:=fun s' hg=>hg f (by simp only [Op.operands,Call.operands,hcc]; simp)
   split at h
   ·rename_i g x y hg'
    obtain ⟨h1,ds,rs,h2,h3,h4,h5⟩:=h
    exact ⟨_,h5,fun s' hb' hn hg k' hk'=>by simp only [hf s' hg,hg',eargs s' hg]; exact ⟨h1,ds,rs,h2,h3,fun d hd=>by rw [hn]; exact h4 d hd,hk'⟩⟩
   ·rename_i g cap hg'
    obtain ⟨h1,ds,rs,h2,h3,h4,h5⟩:=h
    exact ⟨_,h5,fun s' hb' hn hg k' hk'=>by simp only [hf s' hg,hg',eargs s' hg]; exact ⟨h1,ds,rs,h2,h3,fun d hd=>by rw [hn]; exact h4 d hd,hk'⟩⟩
   ·exact h.elim
   ·exact h.elim
  | invoke r nm=>simp [evOp,hop,hcc] at h
  | builtin b =>
   cases b with
   | len =>
    simp only [evOp,hop,hcc] at h ⊢
    split at h
    ·rename_i x t ts ha ht
     split at h
     ·rename_i e xs he hxs
      exact ⟨_,h,fun s' hb' hn hg k' hk'=>by rw [eargs s' hg]; simp only [ha,ht,he,hxs]; exact hk'⟩
     ·rename_i hno
      split at h
      ·rename_i b hu
       have hno' : telem P t = none:=by unfold telem; rw [hu]
       refine ⟨_,h,fun s' hb' hn hg k' hk'=>?_⟩
       rw [eargs s' hg]
       simp only [ha,ht,hu,hno']
       exact hk'
      ·rename_i nn e z hu
       have hno' : telem P t = none:=by unfold telem; rw [hu]
       refine ⟨_,h.2,fun s' hb' hn hg k' hk'=>?_⟩
       rw [eargs s' hg]
       simp only [ha,ht,hu,hno']
       exact ⟨h.1,hk'⟩
      ·rename_i nm _ _
       split at h
       ·rename_i e c he hvc
        refine ⟨_,h,fun s' hb' hn hg k' hk'=>?_⟩
        rw [eargs s' hg]
        have hu : P.underlying t = some (.slice e):=telem_inv he
        simp only [ha,ht,he,sliceOf,hu,hb'.2 _ _ hvc]
        exact hk'
       ·exact h.elim
      ·exact h.elim
    ·exact h.elim
   | max =>
    simp only [evOp,hop,hcc] at h ⊢
    split at h
    ·rename_i q a q2 b ha
     exact ⟨_,h.2,fun s' hb' hn hg k' hk'=>by rw [eargs s' hg]; simp only [ha]; exact ⟨h.1,hk'⟩⟩
    ·exact h.elim
   | min =>
    simp only [evOp,hop,hcc] at h ⊢
    split at h
    ·rename_i q a q2 b ha
     exact ⟨_,h.2,fun s' hb' hn hg k' hk'=>by rw [eargs s' hg]; simp only [ha]; exact ⟨h.1,hk'⟩⟩
    ·exact h.elim
   | _=>simp [calm,hop,hcc] at hc
 | _=>simp [calm,hop] at hc
end Go.Ab
namespace Go.Ab
open Go Go.RowKit
variable {P : Program} {a : Act} {w : World} {n : Nat} {Mo : Cells} {m : Mp} {s : Sa} {p : Name} {k : Sa → Prop} {Q : Exit → Act → World → Prop} {sv : List Act} {ops : Array Oper}
theorem evOp_semsP {o : Oper} (h : evOp P (semsP P) p o s k) : evOp P (sems P) p o s k:=by
 cases hop : o.op with
 | call c =>
  cases hcc : c.callee with
  | value f =>
   simp only [evOp,hop,hcc] at h ⊢
   split at h
   ·obtain ⟨h1,ds,rs,h2,h3,h4⟩:=h
    exact ⟨h1,TCall_pure (p:=[]) h3 h2 h4⟩
   ·obtain ⟨h1,ds,rs,h2,h3,h4⟩:=h
    exact ⟨h1,TCall_pure (p:=[]) h3 h2 h4⟩
   ·exact h.elim
   ·exact h.elim
  | invoke r nm=>simp [evOp,hop,hcc] at h
  | builtin b =>
   cases b with
   | len=>simpa only [evOp,hop,hcc] using h
   | append=>simpa only [evOp,hop,hcc] using h
   | max=>simpa only [evOp,hop,hcc] using h
   | min=>simpa only [evOp,hop,hcc] using h
   | _=>simp [evOp,hop,hcc] at h
 | makeFunc fn fi ca=>cases fn with
  | func f=>simpa only [evOp,hop] using h
  | _=>simp [evOp,hop] at h
 | makeMap t r=>cases r with
  | none=>simpa only [evOp,hop] using h
  | some y=>simp [evOp,hop] at h
 | slice t x lo hi mx=>cases mx with
  | none=>simpa only [evOp,hop] using h
  | some y=>simp [evOp,hop] at h
 | _=>first | (simpa only [evOp,hop] using h) | (simp [evOp,hop] at h; done)
theorem op1_sound {i : Nat} {o : Oper} {K : Act → World → Prop} (hi : ops[i]? = some o) (hR : Rel Mo m s (a :: sv) w)
  (hN : ∀ m' s' a' w',k s' → Rel Mo m' s' (a' :: sv) w' → Step m s w m' s' w' → rdOf m' s' = rdOf m s → a'.defers = a.defers → K a' w')
  (h : evOps P (sems P) p ops [o] s k) : wpOpIn (Wd (rdOf m s)) n P ops Q i K a w:=by
 simp only [evOps] at h
 obtain ⟨hd0,h⟩:=h
 have hd : ∀ (n' : Nat),n' = s.n → ∀ d,o.dst = some d → d < n':=fun n' e d hd=>by rw [hd] at hd0; rw [e]; exact hd0
 unfold wpOpIn
 simp only [hi]
 have run : ∀ (s1 : Sa),Rel Mo m s1 (a :: sv) w → s1.n = s.n → Step m s w m s1 w → rdOf m s1 = rdOf m s → evOp P (sems P) p o s1 k →
   o.wpIn (Wd (rdOf m s)) n P a w K Q:=by
  intro s1 hR1 hn1 hs1 hr1 h1
  rw [← hr1]
  exact evOp_sound hR1 (hd _ hn1) (fun m' s' v w' hk hR' hs' hr'=>hN m' s' _ w' hk hR' (hs1.trans hs') (hr'.trans hr1) put_defers) h1
 have skip : ∀ (s1 : Sa),Rel Mo m s1 (a :: sv) w → s1.n = s.n → Step m s w m s1 w → rdOf m s1 = rdOf m s → k (s1.put o.dst (.tup [])) →
   (∀ f,o.about P w a.eval = some f → (Wd (rdOf m s)).fn f) ∧ K (a.put o.dst undef) w:=by
  intro s1 hR1 hn1 hs1 hr1 h1
  refine ⟨fun _ _=>trivial,?_⟩
  have hR2:=hR1.put (dst:=o.dst) (hd _ hn1) (rep_undef (w:=w) (M:=Tot Mo s1.bx s1.ow m) (m:=m))
  exact hN m _ _ w h1 hR2 (step_put hs1) (by rw [rdOf_put]; exact hr1) put_defers
 split at h
 ·rename_i hg
  have hw : Region.wanted o (yielded ops a.tmps) = true:=by simp [Region.wanted,hg]
  rw [if_pos hw]
  exact run s hR rfl (Step.refl _ _ _) rfl h
 ·rename_i j want hg
  split at h
  ·rename_i t hjt
   split at h
   ·rename_i b hb
    have hv:=hR.get t
    rw [hb] at hv
    have hy:=yielded_bool hjt hv.val.1
    have hw : Region.wanted o (yielded ops a.tmps) = (some b == some want):=by simp [Region.wanted,hg,hy]
    have hRl:=hR.literal hb
    have hst : Step m s w m (s.put (some t) (.d (.v (.bool b)))) w:=step_put (Step.refl _ _ _)
    cases b with
    | true =>
     have h:=h.1 rfl
     cases want with
     | true=>rw [if_pos (by rw [hw]; rfl)]; exact run _ hRl (by rfl) hst (by rfl) h
     | false=>rw [if_neg (by rw [hw]; simp)]; exact skip _ hRl (by rfl) hst (by rfl) h
    | false =>
     have h:=h.2 rfl
     cases want with
     | true=>rw [if_neg (by rw [hw]; simp)]; exact skip _ hRl (by rfl) hst (by rfl) h
     | false=>rw [if_pos (by rw [hw]; rfl)]; exact run _ hRl (by rfl) hst (by rfl) h
   ·rename_i hb
    have hv:=hR.get t
    rw [hb] at hv
    obtain ⟨cs,e,hs,_⟩:=hv.tup_inv
    have hcs : cs = #[]:=by simpa using hs
    subst hcs
    have hy:=yielded_undef hjt e
    rw [if_neg (by simp [Region.wanted,hg,hy])]
    exact skip s hR rfl (Step.refl _ _ _) rfl h
   ·exact h.elim
  ·exact h.elim
structure Like (s s' : Sa) : Prop where
 rd : s.rd = s'.rd
 n : s.n = s'.n
 sv : s.sv = s'.sv
 bx : s.bx = s'.bx
 lp : s.lp = s'.lp
 ow : s.ow = s'.ow
 ts : ∀ t,lkT t s.ts = lkT t s'.ts
 vc : s.vc = s'.vc
theorem Like.refl (s : Sa) : Like s s:=⟨rfl,rfl,rfl,rfl,rfl,rfl,fun _=>rfl,rfl⟩
theorem Like.trans {s s' s'' : Sa} (h : Like s s') (h' : Like s' s'') : Like s s'':=⟨h.rd.trans h'.rd,h.n.trans h'.n,h.sv.trans h'.sv,h.bx.trans h'.bx,h.lp.trans h'.lp,h.ow.trans h'.ow,fun t=>(h.ts t).trans (h'.ts t),h.vc.trans h'.vc⟩
theorem Like.symm {s s' : Sa} (h : Like s s') : Like s' s:=⟨h.rd.symm,h.n.symm,h.sv.symm,h.bx.symm,h.lp.symm,h.ow.symm,fun t=>(h.ts t).symm,h.vc.symm⟩
theorem lkT_setT' (t u : Nat) (v : V) (l : List (Nat × V)) : lkT t (setT u v l) = if u = t then v else lkT t l:=by
 induction l with
 | nil=>simp [setT,lkT]
 | cons x l ih =>
  obtain ⟨y,z⟩:=x
  simp only [setT]
  split
  ·rename_i e; subst e; simp only [lkT]; split <;> rfl
  ·rename_i e
   simp only [lkT,ih]
   split
   ·rename_i e2; subst e2; rw [if_neg (by intro e3; exact e e3.symm)]
   ·rfl
theorem Like.put {s s' : Sa} (h : Like s s') (d : Option Tmp) (v : V) : Like (s.put d v) (s'.put d v):=by
 cases d with
 | none=>exact h
 | some d=>exact ⟨h.rd,h.n,h.sv,h.bx,h.lp,h.ow,fun t=>by simp only [Sa.put,lkT_setT',h.ts t],h.vc⟩
theorem Like.literal {t : Nat} {v : V} (h : lkT t s.ts = v) : Like (s.put (some t) v) s:=⟨rfl,rfl,rfl,rfl,rfl,rfl,fun u=>by
 simp only [Sa.put,lkT_setT']; split
 ·rename_i e; subst e; exact h.symm
 ·rfl,rfl⟩
theorem Like.wk {s s' : Sa} (h : Like s s') : Wk s s':=Wk.of h.rd.symm h.n.symm h.lp.symm (fun t=>.inl (h.ts t).symm) h.sv.symm (fun nm c hc=>by rw [h.bx]; exact hc) (fun i hi=>by rw [h.ow]; exact hi) (fun n c hn=>⟨by rw [h.vc]; exact hn,fun hi=>by rw [← h.ow]; exact hi⟩)
end Go.Ab
namespace Go.Ab
open Go Go.RowKit
variable {P : Program} {a : Act} {w : World} {n : Nat} {Mo : Cells} {m : Mp} {s : Sa} {p : Name} {k : Sa → Prop} {Q : Exit → Act → World → Prop} {sv : List Act} {ops : Array Oper}
def aft (o : Oper) : List Nat:=(o.after.toList.filter (fun e=>Region.binds .any e)).map (fun e=>e.on)
def tmpOf : Operand → Option Nat | .tmp t=>some t | _=>none
def opReads (ops : Array Oper) (o : Oper) : List Nat:=o.op.operands.toList.filterMap tmpOf ++ (match o.guard with | some (j,_)=>((ops[j]?).bind (·.dst)).toList | none=>[])
def dstOf (ops : Array Oper) (i : Nat) : Option Nat:=(ops[i]?).bind (·.dst)
theorem dstOf_eq {i : Nat} {o : Oper} (h : ops[i]? = some o) : dstOf ops i = o.dst:=by simp [dstOf,h]
def evSeg (P : Program) (p : Name) (ops : Array Oper) : List Nat → Sa → (Sa → Prop) → Prop
 | [],s,k=>k s
 | i :: rest,s,k=>match ops[i]? with
  | some o=>nilOK s o.op = true ∧ evOps P (semsP P) p ops [o] s fun s'=>evSeg P p ops rest s' k
  | none=>False
theorem BxExt.like {s s1 s' : Sa} (h : BxExt s s') (hl : Like s1 s) : BxExt s1 s':=⟨fun nm c hc=>h.1 nm c (by rw [← hl.bx]; exact hc),fun nm c hc=>h.2 nm c (by rw [← hl.vc]; exact hc)⟩
theorem BxExt.liker {s s1 s' : Sa} (h : BxExt s s') (hl : Like s1 s') : BxExt s s1:=⟨fun nm c hc=>by rw [hl.bx]; exact h.1 nm c hc,fun nm c hc=>by rw [hl.vc]; exact h.2 nm c hc⟩
def OpFact (P : Program) (p : Name) (ops : Array Oper) (i : Nat) (v : V) (s : Sa) : Prop :=
 ∃ o,ops[i]? = some o ∧ ∀ s' : Sa,BxExt s s' → s'.n = s.n → (∀ t ∈ opReads ops o,lkT t s'.ts = lkT t s.ts) →
  ∀ k' : Sa → Prop,(∀ s1,Like s1 s' → k' (s1.put o.dst v)) → evOps P (sems P) p ops [o] s' k'
theorem OpFact.like {i : Nat} {v : V} {s s1 : Sa} (h : OpFact P p ops i v s) (hl : Like s1 s) : OpFact P p ops i v s1:=by
 obtain ⟨o,ho,h⟩:=h
 exact ⟨o,ho,fun s' hb hn ht k' hk=>h s' (hb.like hl.symm) (hn.trans hl.n) (fun t htm=>(ht t htm).trans (hl.ts t)) k' hk⟩
theorem reads_get {o : Oper} {s s' : Sa} (h : ∀ t ∈ opReads ops o,lkT t s'.ts = lkT t s.ts) : ∀ x ∈ o.op.operands,s'.get x = s.get x:=by
 intro x hx
 cases x with
 | tmp t=>exact h t (List.mem_append_left _ (List.mem_filterMap.2 ⟨.tmp t,by simpa using hx,rfl⟩))
 | const v=>rfl
 | global g=>rfl
 | func g=>rfl
theorem evSeg_op {i : Nat} {o : Oper} (hi : ops[i]? = some o) (hc : calm o.op = true) (hn : nilOK s o.op = true) (h : evOps P (semsP P) p ops [o] s k) :
  ∃ v s1,Like s1 s ∧ k (s1.put o.dst v) ∧ OpFact P p ops i v s:=by
 simp only [evOps] at h
 obtain ⟨hd,h⟩:=h
 have run : ∀ s1 : Sa,Like s1 s → nilOK s1 o.op = true → evOp P (semsP P) p o s1 k → ∃ v,k (s1.put o.dst v) ∧ ∀ s2 : Sa,BxExt s s2 → s2.n = s.n → (∀ t ∈ opReads ops o,lkT t s2.ts = lkT t s.ts) → ∀ k' : Sa → Prop,k' (s2.put o.dst v) → evOp P (sems P) p o s2 k':=by
  intro s1 hl hn1 h1
  obtain ⟨v,hv,hh⟩:=calm_congr hc hn1 h1
  refine ⟨v,hv,fun s2 hb hnn ht k' hk'=>evOp_semsP (hh s2 (hb.like hl) (hnn.trans hl.n.symm) (fun x hx=>?_) k' hk')⟩
  exact reads_get (ops:=ops) (fun t htm=>(ht t htm).trans (hl.ts t).symm) x hx
 have nil1 : ∀ s1 : Sa,Like s1 s → nilOK s1 o.op = true:=by
  intro s1 hl
  have : ∀ x,s1.get x = s.get x:=fun x=>by cases x <;> first | exact hl.ts _ | rfl
  cases hop : o.op <;> simp only [nilOK,hop] at hn ⊢ <;> (rw [this]; exact hn)
 split at h
 ·rename_i hg
  obtain ⟨v,hv,hh⟩:=run s (Like.refl s) hn h
  refine ⟨v,s,Like.refl s,hv,o,hi,fun s' hb hnn ht k' hk'=>?_⟩
  simp only [evOps,hg]
  exact ⟨by rw [hnn]; exact hd,hh s' hb hnn ht k' (hk' s' (Like.refl s'))⟩
 ·rename_i j want hg
  split at h
  ·rename_i t hjt
   have htr : t ∈ opReads ops o:=List.mem_append_right _ (by rw [hg]; simp only [hjt]; simp)
   split at h
   ·rename_i b hb
    cases b with
    | true =>
     have h:=h.1 rfl
     have hl:=Like.literal hb
     cases want with
     | true =>
      obtain ⟨v,hv,hh⟩:=run _ hl (nil1 _ hl) (by simpa using h)
      refine ⟨v,_,hl,hv,o,hi,fun s' hb' hnn ht k' hk'=>?_⟩
      have hb2:=(ht t htr).trans hb
      simp only [evOps,hg,hjt,hb2]
      refine ⟨by rw [hnn]; exact hd,⟨fun _=>?_,fun e=>(by cases e)⟩⟩
      have hl2:=Like.literal hb2
      simp only [if_true]
      exact hh _ (hb'.liker hl2) (hl2.n.trans hnn) (fun t' ht'=>(hl2.ts t').trans (ht t' ht')) k' (hk' _ hl2)
     | false =>
      refine ⟨.tup [],_,hl,by simpa using h,o,hi,fun s' hb' hnn ht k' hk'=>?_⟩
      have hb2:=(ht t htr).trans hb
      simp only [evOps,hg,hjt,hb2]
      refine ⟨by rw [hnn]; exact hd,⟨fun _=>?_,fun e=>(by cases e)⟩⟩
      simpa using hk' _ (Like.literal hb2)
    | false =>
     have h:=h.2 rfl
     have hl:=Like.literal hb
     cases want with
     | false =>
      obtain ⟨v,hv,hh⟩:=run _ hl (nil1 _ hl) (by simpa using h)
      refine ⟨v,_,hl,hv,o,hi,fun s' hb' hnn ht k' hk'=>?_⟩
      have hb2:=(ht t htr).trans hb
      simp only [evOps,hg,hjt,hb2]
      refine ⟨by rw [hnn]; exact hd,⟨fun e=>(by cases e),fun _=>?_⟩⟩
      have hl2:=Like.literal hb2
      simp only [Bool.false_eq_true,if_false]
      exact hh _ (hb'.liker hl2) (hl2.n.trans hnn) (fun t' ht'=>(hl2.ts t').trans (ht t' ht')) k' (hk' _ hl2)
     | true =>
      refine ⟨.tup [],_,hl,by simpa using h,o,hi,fun s' hb' hnn ht k' hk'=>?_⟩
      have hb2:=(ht t htr).trans hb
      simp only [evOps,hg,hjt,hb2]
      refine ⟨by rw [hnn]; exact hd,⟨fun e=>(by cases e),fun _=>?_⟩⟩
      simpa using hk' _ (Like.literal hb2)
   ·rename_i hb
    refine ⟨.tup [],s,Like.refl s,h,o,hi,fun s' hb' hnn ht k' hk'=>?_⟩
    have hb2:=(ht t htr).trans hb
    simp only [evOps,hg,hjt,hb2]
    exact ⟨by rw [hnn]; exact hd,hk' _ (Like.refl s')⟩
   ·exact h.elim
  ·exact h.elim
def putAll (ops : Array Oper) (s : Sa) (l : List (Nat × V)) : Sa:=l.foldl (fun s x=>s.put (dstOf ops x.1) x.2) s
theorem Like.putAll {s s' : Sa} (h : Like s s') (l : List (Nat × V)) : Like (putAll ops s l) (putAll ops s' l):=by
 induction l generalizing s s' with
 | nil=>exact h
 | cons x l ih=>exact ih (h.put _ _)
theorem putAll_append (l l' : List (Nat × V)) : putAll ops s (l ++ l') = putAll ops (putAll ops s l) l':=by simp [putAll]
theorem putAll_fields (l : List (Nat × V)) : (putAll ops s l).rd = s.rd ∧ (putAll ops s l).n = s.n ∧ (putAll ops s l).sv = s.sv ∧ (putAll ops s l).bx = s.bx ∧ (putAll ops s l).lp = s.lp ∧ (putAll ops s l).ow = s.ow:=by
 induction l generalizing s with
 | nil=>exact ⟨rfl,rfl,rfl,rfl,rfl,rfl⟩
 | cons x l ih =>
  have:=ih (s:=s.put (dstOf ops x.1) x.2)
  have e : ∀ d v,(s.put d v).rd = s.rd ∧ (s.put d v).n = s.n ∧ (s.put d v).sv = s.sv ∧ (s.put d v).bx = s.bx ∧ (s.put d v).lp = s.lp ∧ (s.put d v).ow = s.ow:=fun d v=>by cases d <;> exact ⟨rfl,rfl,rfl,rfl,rfl,rfl⟩
  obtain ⟨e1,e2,e3,e4,e5,e6⟩:=e (dstOf ops x.1) x.2
  exact ⟨this.1.trans e1,this.2.1.trans e2,this.2.2.1.trans e3,this.2.2.2.1.trans e4,this.2.2.2.2.1.trans e5,this.2.2.2.2.2.trans e6⟩
theorem putAll_vc : ∀ (l : List (Nat × V)) {s : Sa},(putAll ops s l).vc = s.vc
 | [],s=>rfl
 | x :: l,s=>by
  have e : (s.put (dstOf ops x.1) x.2).vc = s.vc:=by cases dstOf ops x.1 <;> rfl
  exact (putAll_vc l (s:=s.put (dstOf ops x.1) x.2)).trans e
theorem lk_not {t : Nat} {l : List (Nat × V)} (h : ∀ x ∈ l,dstOf ops x.1 ≠ some t) : lkT t (putAll ops s l).ts = lkT t s.ts:=by
 induction l generalizing s with
 | nil=>rfl
 | cons x l ih =>
  have e : putAll ops s (x :: l) = putAll ops (s.put (dstOf ops x.1) x.2) l:=rfl
  rw [e,ih (fun y hy=>h y (List.mem_cons_of_mem _ hy))]
  have hx:=h x List.mem_cons_self
  cases hd : dstOf ops x.1 with
  | none=>rfl
  | some d=>rw [hd] at hx; simp only [Sa.put,lkT_setT']; rw [if_neg (fun e=>hx (by rw [e]))]
def Apart (ops : Array Oper) (l : List (Nat × V)) : Prop:=∀ x ∈ l,∀ y ∈ l,∀ t,dstOf ops x.1 = some t → dstOf ops y.1 = some t → x = y
theorem lk_mem {t : Nat} {l : List (Nat × V)} (ha : Apart ops l) {x : Nat × V} (hx : x ∈ l) (hd : dstOf ops x.1 = some t) : lkT t (putAll ops s l).ts = x.2:=by
 induction l generalizing s with
 | nil=>cases hx
 | cons y l ih =>
  have e : putAll ops s (y :: l) = putAll ops (s.put (dstOf ops y.1) y.2) l:=rfl
  rw [e]
  by_cases hxl : x ∈ l
  ·exact ih (fun a ha' b hb=>ha a (List.mem_cons_of_mem _ ha') b (List.mem_cons_of_mem _ hb)) hxl
  ·have hxy : x = y:=by
    rcases List.mem_cons.1 hx with h | h
    ·exact h
    ·exact absurd h hxl
   subst hxy
   rw [lk_not (fun z hz e=>hxl (by rw [ha x List.mem_cons_self z (List.mem_cons_of_mem _ hz) t hd e]; exact hz)),hd]
   simp [Sa.put,lkT_setT']
end Go.Ab
namespace Go.Ab
open Go Go.RowKit
variable {P : Program} {a : Act} {w : World} {n : Nat} {Mo : Cells} {m : Mp} {s : Sa} {p : Name} {k : Sa → Prop} {Q : Exit → Act → World → Prop} {sv : List Act} {ops : Array Oper}
inductive Seg where
 | calm (l : List Nat)
 | bar (i : Nat)
 | fresh (l : List Nat) (i j : Nat)
 | make (l : List Nat) (j : Nat)
def Seg.idx : Seg → List Nat
 | .calm l=>l
 | .bar i=>[i]
 | .fresh l i j=>l ++ [i,j]
 | .make l j=>l ++ [j]
def flat : List Seg → List Nat
 | []=>[]
 | x :: rest=>x.idx ++ flat rest
def Sa.made (s : Sa) (nm : Name) (sz : Nat) (xs : List D) : Sa:={ s with ow:=nm :: s.ow,vc:=(nm,(sz,xs)) :: s.vc }
def callOf (o : Oper) : Option (Tmp × Operand × List Operand):=match o.dst,o.guard,o.op with
 | some t,none,.call c=>match c.callee with
  | .value fv=>some (t,fv,c.args.toList)
  | _=>none
 | _,_,_=>none
def evPlan (P : Program) (p : Name) (ops : Array Oper) : List Seg → Sa → (Sa → Prop) → Prop
 | [],s,k=>k s
 | .calm l :: rest,s,k=>evSeg P p ops l s fun s'=>evPlan P p ops rest s' k
 | .bar i :: rest,s,k=>match ops[i]? with
  | some o=>evOps P (sems P) p ops [o] s fun s'=>evPlan P p ops rest s' k
  | none=>False
 | .fresh l i j :: rest,s,k=>match ops[i]?,ops[j]? with
  | some oi,some oj=>match oi.dst,oi.op,oj.op with
   | some t,.alloc ty,.store _ _ x=>s.refs (t :: p) = false ∧ (tzero P ty).notNil = true ∧ evSeg P p ops l s fun s1=>(s1.get x).notNil = true ∧ evOps P (sems P) p ops [oi] s1 fun s2=>evOps P (sems P) p ops [oj] s2 fun s3=>evPlan P p ops rest s3 k
   | _,_,_=>False
  | _,_=>False
 | .make l j :: rest,s,k=>match (ops[j]?).bind callOf with
  | some (t,fv,as)=>s.strip (t :: p) = s ∧ evSeg P p ops l s fun s1=>s1.strip (t :: p) = s1 ∧ t < s1.n ∧ ∃ g ds sz xs,s1.get fv = .d (.v (.func (.func g) #[] #[])) ∧ callable P g = true ∧ toDs V.toD (as.map s1.get) = some ds ∧ MakeOK P g ds sz xs ∧
    evPlan P p ops rest ((s1.made (t :: p) sz xs).put (some t) (.vsl (t :: p))) k
  | none=>False
def okAft (ops : Array Oper) (i : Nat) (f : List Nat → Bool) : Bool:=match ops[i]? with | some o=>f (aft o) | none=>false
theorem okAft_inv {i : Nat} {f : List Nat → Bool} (h : okAft ops i f = true) : ∃ o,ops[i]? = some o ∧ f (aft o) = true:=by
 unfold okAft at h
 split at h
 ·rename_i o ho; exact ⟨o,ho,h⟩
 ·cases h
def calmOK (ops : Array Oper) (l : List Nat) (i : Nat) : Bool:=match ops[i]? with
 | some o=>calm o.op && (o.dst.isSome && l.all fun j=>j == i || (dstOf ops j != o.dst && ((opReads ops o).all (fun t=>dstOf ops j != some t) || (aft o).contains j)))
 | none=>false
def orderOK (ops : Array Oper) : List Nat → List Nat → Bool
 | _,[]=>true
 | done,i :: rest=>okAft ops i (fun l=>l.all done.contains) && (!done.contains i && orderOK ops (i :: done) rest)
def aftOf (ops : Array Oper) (i : Nat) : List Nat:=match ops[i]? with | some o=>aft o | none=>[]
def need (ops : Array Oper) : List Nat → List Nat → List Nat
 | [],S=>S
 | j :: rest,S=>need ops rest (if S.contains j then aftOf ops j ++ S else S)
theorem need_all {q : Nat → Prop} : ∀ {l S : List Nat},(∀ j ∈ S,q j) → (∀ j ∈ l,q j → ∀ x ∈ aftOf ops j,q x) → ∀ j ∈ need ops l S,q j:=by
 intro l
 induction l with
 | nil=>intro S h _ j hj; exact h j hj
 | cons i l ih =>
  intro S h hc j hj
  simp only [need] at hj
  refine ih ?_ (fun a ha=>hc a (List.mem_cons_of_mem _ ha)) j hj
  intro x hx
  split at hx
  ·rename_i hi
   rcases List.mem_append.1 hx with hx | hx
   ·exact hc i List.mem_cons_self (h i (by simpa using hi)) x hx
   ·exact h x hx
  ·exact h x hx
def readsOf (ops : Array Oper) (i : Nat) : List Nat:=match ops[i]? with | some o=>opReads ops o | none=>[]
def freshOK (ops : Array Oper) (done l : List Nat) (i j : Nat) : Bool:=match ops[i]?,ops[j]? with
 | some oi,some oj=>match oi.dst,oi.op,oj.op with
  | some t,.alloc _,.store _ (.tmp t') (.tmp x)=>decide (t' = t ∧ x ≠ t ∧ oi.guard = none ∧ oj.guard = none ∧ oj.dst = none ∧ (∀ q ∈ aft oi,q ∈ done) ∧ (∀ q ∈ aft oj,q ∈ done ∨ q ∈ l ∨ q = i) ∧ i ∈ aft oj ∧
    (∀ q ∈ l,dstOf ops q ≠ some t ∧ t ∉ readsOf ops q ∧ (dstOf ops q = some x → q ∈ aft oj)) ∧ i ∉ done ∧ j ∉ done ∧ i ∉ l ∧ j ∉ l ∧ i ≠ j)
  | _,_,_=>false
 | _,_=>false
def makeOK (ops : Array Oper) (done l : List Nat) (j : Nat) : Bool:=match ops[j]? with
 | some oj=>match callOf oj with
  | some (t,_,_)=>decide ((∀ q ∈ aft oj,q ∈ done ∨ q ∈ l) ∧ (∀ q ∈ l,dstOf ops q ≠ some t ∧ t ∉ readsOf ops q ∧ ((∀ u ∈ readsOf ops j,dstOf ops q ≠ some u) ∨ q ∈ aft oj)) ∧ j ∉ done ∧ j ∉ l)
  | none=>false
 | none=>false
theorem makeOK_inv {done l : List Nat} {j : Nat} (h : makeOK ops done l j = true) : ∃ oj t fv as,ops[j]? = some oj ∧ callOf oj = some (t,fv,as) ∧
  (∀ q ∈ aft oj,q ∈ done ∨ q ∈ l) ∧ (∀ q ∈ l,dstOf ops q ≠ some t ∧ t ∉ readsOf ops q ∧ ((∀ u ∈ readsOf ops j,dstOf ops q ≠ some u) ∨ q ∈ aft oj)) ∧ j ∉ done ∧ j ∉ l:=by
 unfold makeOK at h
 split at h
 ·rename_i oj hj
  split at h
  ·rename_i t fv as hc
   exact ⟨oj,t,fv,as,hj,hc,of_decide_eq_true h⟩
  ·cases h
 ·cases h
theorem callOf_inv {o : Oper} {t : Tmp} {fv : Operand} {as : List Operand} (h : callOf o = some (t,fv,as)) : o.dst = some t ∧ o.guard = none ∧ ∃ c,o.op = .call c ∧ c.callee = .value fv ∧ c.args.toList = as:=by
 unfold callOf at h
 split at h
 ·rename_i t' c h1 h2 h3
  split at h
  ·rename_i fv' hcl
   cases h
   exact ⟨h1,h2,c,h3,hcl,rfl⟩
  ·cases h
 ·cases h
def planOK (ops : Array Oper) : List Nat → List Seg → Bool
 | done,[]=>(List.range ops.size).all done.contains && done.length == ops.size
 | done,.calm l :: rest=>l.all (calmOK ops l) && (orderOK ops done l && ((flat rest).all (fun i=>okAft ops i fun al=>al.any (flat rest).contains || l.all (need ops l.reverse al).contains) && planOK ops (l.reverse ++ done) rest))
 | done,.bar i :: rest=>orderOK ops done [i] && ((flat rest).all (fun j=>okAft ops j fun al=>al.any (i :: flat rest).contains) && planOK ops (i :: done) rest)
 | done,.make l j :: rest=>l.all (calmOK ops l) && (orderOK ops done l && (makeOK ops done l j && ((flat rest).all (fun q=>okAft ops q fun al=>al.any (flat rest).contains || (l ++ [j]).all (need ops (j :: l.reverse) al).contains) && planOK ops (j :: (l.reverse ++ done)) rest)))
 | done,.fresh l i j :: rest=>l.all (calmOK ops l) && (orderOK ops done l && (freshOK ops done l i j && ((flat rest).all (fun q=>okAft ops q fun al=>al.any (flat rest).contains || (l ++ [i,j]).all al.contains) && planOK ops (j :: i :: (l.reverse ++ done)) rest)))
theorem orderOK_split : ∀ (pre : List Nat) {done post : List Nat} {i : Nat},orderOK ops done (pre ++ i :: post) = true →
  (∃ o,ops[i]? = some o ∧ ∀ j ∈ aft o,j ∈ done ∨ j ∈ pre) ∧ i ∉ done ∧ i ∉ pre:=by
 intro pre
 induction pre with
 | nil =>
  intro done post i h
  simp only [List.nil_append,orderOK,Bool.and_eq_true,Bool.not_eq_true',List.contains_eq_mem,decide_eq_false_iff_not] at h
  obtain ⟨o,ho,h1⟩:=okAft_inv h.1
  refine ⟨⟨o,ho,fun j hj=>.inl ?_⟩,h.2.1,by simp⟩
  simpa using List.all_eq_true.1 h1 j hj
 | cons x pre ih =>
  intro done post i h
  simp only [List.cons_append,orderOK,Bool.and_eq_true] at h
  obtain ⟨⟨o,ho,h1⟩,h2,h3⟩:=ih h.2.2
  refine ⟨⟨o,ho,fun j hj=>?_⟩,fun hc=>h2 (List.mem_cons_of_mem _ hc),?_⟩
  ·rcases h1 j hj with h | h
   ·rcases List.mem_cons.1 h with h | h
    ·exact .inr (by rw [h]; exact List.mem_cons_self)
    ·exact .inl h
   ·exact .inr (List.mem_cons_of_mem _ h)
  ·intro hc
   rcases List.mem_cons.1 hc with h | h
   ·exact h2 (by rw [h]; exact List.mem_cons_self)
   ·exact h3 h
theorem orderOK_nodup : ∀ {l done : List Nat},orderOK ops done l = true → l.Nodup ∧ ∀ i ∈ l,i ∉ done ∧ i < ops.size:=by
 intro l
 induction l with
 | nil=>intro done _; exact ⟨List.nodup_nil,by simp⟩
 | cons x l ih =>
  intro done h
  have h0:=h
  simp only [orderOK,Bool.and_eq_true,Bool.not_eq_true',List.contains_eq_mem,decide_eq_false_iff_not] at h
  obtain ⟨o,ho,_⟩:=okAft_inv h.1
  obtain ⟨h1,h2⟩:=ih h.2.2
  refine ⟨List.nodup_cons.2 ⟨fun hc=>(h2 x hc).1 List.mem_cons_self,h1⟩,fun i hi=>?_⟩
  rcases List.mem_cons.1 hi with e | e
  ·subst e; exact ⟨h.2.1,(Array.getElem?_eq_some_iff.1 ho).1⟩
  ·exact ⟨fun hc=>(h2 i e).1 (List.mem_cons_of_mem _ hc),(h2 i e).2⟩
theorem freshOK_inv {done l : List Nat} {i j : Nat} (h : freshOK ops done l i j = true) : ∃ oi oj t ty ty' x,ops[i]? = some oi ∧ ops[j]? = some oj ∧ oi.dst = some t ∧ oi.op = .alloc ty ∧ oj.op = .store ty' (.tmp t) (.tmp x) ∧ x ≠ t ∧ oi.guard = none ∧ oj.guard = none ∧ oj.dst = none ∧
  (∀ q ∈ aft oi,q ∈ done) ∧ (∀ q ∈ aft oj,q ∈ done ∨ q ∈ l ∨ q = i) ∧ i ∈ aft oj ∧ (∀ q ∈ l,dstOf ops q ≠ some t ∧ t ∉ readsOf ops q ∧ (dstOf ops q = some x → q ∈ aft oj)) ∧ i ∉ done ∧ j ∉ done ∧ i ∉ l ∧ j ∉ l ∧ i ≠ j:=by
 unfold freshOK at h
 split at h
 ·rename_i oi oj hi hj
  split at h
  ·rename_i t ty ty' t' x h1 h2 h3
   have h:=of_decide_eq_true h
   obtain ⟨rfl,h⟩:=h
   exact ⟨oi,oj,_,ty,ty',x,hi,hj,h1,h2,h3,h⟩
  ·cases h
 ·cases h
theorem planOK_fresh : ∀ {plan : List Seg} {done : List Nat},planOK ops done plan = true → (∀ j ∈ flat plan,j ∉ done) ∧ (∀ j < ops.size,j ∈ done ∨ j ∈ flat plan) ∧ done.length + (flat plan).length = ops.size:=by
 intro plan
 induction plan with
 | nil =>
  intro done h
  simp only [planOK,Bool.and_eq_true,beq_iff_eq] at h
  refine ⟨by simp [flat],fun j hj=>.inl ?_,by simpa [flat] using h.2⟩
  simpa using List.all_eq_true.1 h.1 j (List.mem_range.2 hj)
 | cons x rest ih =>
  intro done h
  cases x with
  | calm l =>
   simp only [planOK,Bool.and_eq_true] at h
   obtain ⟨h1,h2,h3⟩:=ih h.2.2.2
   obtain ⟨h4,h5⟩:=orderOK_nodup h.2.1
   refine ⟨fun j hj=>?_,fun j hj=>?_,?_⟩
   ·simp only [flat,Seg.idx,List.mem_append] at hj
    rcases hj with hj | hj
    ·exact (h5 j hj).1
    ·exact fun hc=>h1 j hj (List.mem_append_right _ hc)
   ·simp only [flat,Seg.idx,List.mem_append]
    rcases h2 j hj with h | h
    ·simp only [List.mem_append,List.mem_reverse] at h
     rcases h with h | h
     ·exact .inr (.inl h)
     ·exact .inl h
    ·exact .inr (.inr h)
   ·simp only [flat,Seg.idx,List.length_append,List.length_reverse] at h3 ⊢; omega
  | bar i =>
   simp only [planOK,Bool.and_eq_true] at h
   obtain ⟨h1,h2,h3⟩:=ih h.2.2
   obtain ⟨h4,h5⟩:=orderOK_nodup h.1
   refine ⟨fun j hj=>?_,fun j hj=>?_,?_⟩
   ·simp only [flat,Seg.idx,List.cons_append,List.nil_append,List.mem_cons] at hj
    rcases hj with hj | hj
    ·subst hj; exact (h5 j (by simp)).1
    ·exact fun hc=>h1 j hj (List.mem_cons_of_mem _ hc)
   ·simp only [flat,Seg.idx,List.cons_append,List.nil_append,List.mem_cons]
    rcases h2 j hj with h | h
    ·rcases List.mem_cons.1 h with h | h
     ·exact .inr (.inl h)
     ·exact .inl h
    ·exact .inr (.inr h)
   ·simp only [flat,Seg.idx,List.length_append,List.length_cons,List.length_nil] at h3 ⊢; omega
  | fresh l i j =>
   simp only [planOK,Bool.and_eq_true] at h
   obtain ⟨h1,h2,h3⟩:=ih h.2.2.2.2
   obtain ⟨h4,h5⟩:=orderOK_nodup h.2.1
   obtain ⟨oi,oj,t,ty,ty',x,hi,hj,_,_,_,_,_,_,_,_,_,_,_,hid,hjd,hil,hjl,hij⟩:=freshOK_inv h.2.2.1
   refine ⟨fun q hq=>?_,fun q hq=>?_,?_⟩
   ·simp only [flat,Seg.idx,List.mem_append,List.mem_cons,List.not_mem_nil,or_false] at hq
    rcases hq with (hq | hq | hq) | hq
    ·exact (h5 q hq).1
    ·subst hq; exact hid
    ·subst hq; exact hjd
    ·exact fun hc=>h1 q hq (by simp [hc])
   ·simp only [flat,Seg.idx,List.mem_append,List.mem_cons,List.not_mem_nil,or_false]
    rcases h2 q hq with h | h
    ·simp only [List.mem_cons,List.mem_append,List.mem_reverse] at h
     rcases h with h | h | h | h
     ·exact .inr (.inl (.inr (.inr h)))
     ·exact .inr (.inl (.inr (.inl h)))
     ·exact .inr (.inl (.inl h))
     ·exact .inl h
    ·exact .inr (.inr h)
   ·simp only [flat,Seg.idx,List.length_append,List.length_reverse,List.length_cons,List.length_nil] at h3 ⊢; omega
  | make l j =>
   simp only [planOK,Bool.and_eq_true] at h
   obtain ⟨h1,h2,h3⟩:=ih h.2.2.2.2
   obtain ⟨h4,h5⟩:=orderOK_nodup h.2.1
   obtain ⟨oj,t,fv,as,hj,_,_,_,hjd,hjl⟩:=makeOK_inv h.2.2.1
   refine ⟨fun q hq=>?_,fun q hq=>?_,?_⟩
   ·simp only [flat,Seg.idx,List.mem_append,List.mem_cons,List.not_mem_nil,or_false] at hq
    rcases hq with (hq | hq) | hq
    ·exact (h5 q hq).1
    ·subst hq; exact hjd
    ·exact fun hc=>h1 q hq (by simp [hc])
   ·simp only [flat,Seg.idx,List.mem_append,List.mem_cons,List.not_mem_nil,or_false]
    rcases h2 q hq with h | h
    ·simp only [List.mem_cons,List.mem_append,List.mem_reverse] at h
     rcases h with h | h | h
     ·exact .inr (.inl (.inr h))
     ·exact .inr (.inl (.inl h))
     ·exact .inl h
    ·exact .inr (.inr h)
   ·simp only [flat,Seg.idx,List.length_append,List.length_reverse,List.length_cons,List.length_nil] at h3 ⊢; omega
theorem evSeg_run : ∀ (l : List Nat) {s : Sa},(∀ i ∈ l,∃ o,ops[i]? = some o ∧ calm o.op = true) → evSeg P p ops l s k →
  ∃ (ivs : List (Nat × V)) (s' : Sa),ivs.map Prod.fst = l ∧ Like s' (putAll ops s ivs) ∧ k s' ∧ ∀ pre i v post,ivs = pre ++ (i,v) :: post → OpFact P p ops i v (putAll ops s pre):=by
 intro l
 induction l with
 | nil=>intro s _ h; exact ⟨[],s,rfl,Like.refl s,h,fun pre i v post e=>by simp at e⟩
 | cons i l ih =>
  intro s hc h
  obtain ⟨o,ho,hcalm⟩:=hc i List.mem_cons_self
  simp only [evSeg,ho] at h
  obtain ⟨v,s1,hl,hk,hf⟩:=evSeg_op ho hcalm h.1 h.2
  obtain ⟨ivs,s',h1,h2,h3,h4⟩:=ih (fun j hj=>hc j (List.mem_cons_of_mem _ hj)) hk
  have e : ∀ l',putAll ops s ((i,v) :: l') = putAll ops (s.put o.dst v) l':=fun l'=>by show putAll ops (s.put (dstOf ops i) v) l' = _; rw [dstOf_eq ho]
  refine ⟨(i,v) :: ivs,s',by simp [h1],?_,h3,fun pre j u post he=>?_⟩
  ·rw [e]; exact h2.trans ((hl.put _ _).putAll ivs)
  ·cases pre with
   | nil=>simp only [List.nil_append,List.cons.injEq,Prod.mk.injEq] at he; obtain ⟨⟨rfl,rfl⟩,_⟩:=he; exact hf
   | cons x pre =>
    simp only [List.cons_append,List.cons.injEq] at he
    obtain ⟨rfl,he⟩:=he
    rw [e]
    exact (h4 pre j u post he).like (((hl.put _ _).putAll pre).symm)
end Go.Ab
