import Derived.Test.YtleeccmcgophfaaPI
import Derived.Test.YtleeccmcgophfaaProg
import Derived.Test.YtleeccmcgophfaaPJ
set_option linter.all false
namespace Go.Fn
set_option maxRecDepth 100000
open Go Go.Ab Go.Tx Go.Proofs
noncomputable section
theorem pm:Go.Proofs.Try.prog.follows .mixedOrders=true:=by kernel_rfl
abbrev t0:Ty:=.st (.prod (.int .u64) (.prod (.int .i64) .unit))
abbrev D0:Type:=(Int×(Int×Unit))
abbrev t1:Ty:=.st (.prod (.int .i64) (.prod (.int .i64) (.prod (.int .u64) (.prod (.int .u64) (.prod (.int .i64) (.prod .bool .unit))))))
abbrev D1:Type:=(Int×(Int×(Int×(Int×(Int×(Bool×Unit))))))
abbrev t2:Ty:=.st (.prod (.int .u64) (.prod (.int .u64) .unit))
abbrev D2:Type:=(Int×(Int×Unit))
abbrev t3:Ty:=.st (.prod t2 (.prod (.int .u64) (.prod (.int .u64) (.prod .bool .unit))))
abbrev D3:Type:=(D2×(Int×(Int×(Bool×Unit))))
abbrev t4:Ty:=.st (.prod (.arr 16 (.int .u64)) (.prod (.int .u64) (.prod (.sl t0) (.prod t2 (.prod (.int .u64) (.prod (.int .u64) (.prod (.int .i64) (.prod t3 (.prod (.sl (.int .u64)) (.prod t2 (.prod (.arr 4 (.sl t0)) .unit)))))))))))
abbrev D4:Type:=((Fin 16→Int)×(Int×((List D0)×(D2×(Int×(Int×(Int×(D3×((List Int)×(D2×((Fin 4→(List D0))×Unit)))))))))))
abbrev t5:Ty:=.st (.prod (.sl t0) (.prod (.sl t0) (.prod t2 (.prod (.int .u64) (.prod (.int .u64) .unit)))))
abbrev D5:Type:=((List D0)×((List D0)×(D2×(Int×(Int×Unit)))))
abbrev t6:Ty:=.st (.prod (.int .u64) (.prod (.int .i64) (.prod (.sl t0) (.prod (.int .i64) (.prod .bool (.prod (.sl (.int .u64)) (.prod (.sl (.int .u64)) (.prod (.sl t1) (.prod t4 (.prod t5 (.prod (.sl (.int .u64)) (.prod (.sl (.int .u64)) .unit))))))))))))
abbrev D6:Type:=(Int×(Int×((List D0)×(Int×(Bool×((List Int)×((List Int)×((List D1)×(D4×(D5×((List Int)×((List Int)×Unit))))))))))))
abbrev t7:Ty:=.st (.prod (.int .i64) (.prod (.int .u64) (.prod (.int .u64) (.prod (.sl t6) .unit))))
abbrev D7:Type:=(Int×(Int×(Int×((List D6)×Unit))))
def F11 (a0:D7) (a1:Int):Option (D6×Bool) := aO (σ:=Unit) (ρ:=(D6×Bool)) (fun s2 => some (((Ty.zero t6:D6),false))) fun j2_1 => aO (σ:=D6) (ρ:=(D6×Bool)) (fun s2 => some ((s2,true))) fun j2_2 => aH (σ:=Int) (ρ:=(D6×Bool)) (fun s2 => if (decide (s2<((List.length a0.2.2.2.1:Nat):Int)))=true then Option.bind (aA a0.2.2.2.1 s2) fun v3 => if (v3.1==a1)=true then Option.bind (aA a0.2.2.2.1 s2) fun v4 => done (j2_2 v4) else turn (IntKind.wrap .i64 (s2+(1:Int))) else done (j2_1 ())) (0:Int)
def L11:Lib Go.Proofs.Try.prog:=(L0 _).add pm 11 [t7,(.int .u64)] (.prod t6 .bool) (fun st=>F11 st.1 st.2) [] [(1,[6],[],[],[],[])] [] au (fun _=>by kernel_rfl)
def F58 (a0:Int):Option Bool := some ((if (decide (a0≥(1:Int)))=true then (decide (a0≤(2305843009213693952:Int))) else false))
def L58:Lib Go.Proofs.Try.prog:=L11.add pm 58 [(.int .u64)] .bool (fun st=>F58 st) [] [] [] au (fun _=>by kernel_rfl)
def F97 (a0:Int):Option Bool := some ((if (decide (a0≥(0:Int)))=true then (decide (a0≤(5:Int))) else false))
def L97:Lib Go.Proofs.Try.prog:=L58.add pm 97 [(.int .i64)] .bool (fun st=>F97 st) [] [] [] au (fun _=>by kernel_rfl)
def F82 (a0:(List D0)):Option Bool := aO (σ:=Unit) (ρ:=Bool) (fun s1 => some true) fun j1_1 => aO (σ:=Unit) (ρ:=Bool) (fun s1 => some false) fun j1_2 => aH (σ:=Int) (ρ:=Bool) (fun s1 => if (decide (s1<((List.length a0:Nat):Int)))=true then Option.bind (aA a0 s1) fun v2 => Option.bind (F97 v2.2.1) fun v3 => Option.bind (if ((!(!v3))&&true)=true then (aA a0 s1) else some (Ty.zero t0:D0)) fun v4 => Option.bind (if ((!(if (!v3)=true then true else (v4.2.1==(2:Int))))&&((decide (s1>(0:Int)))&&true))=true then (aA a0 (IntKind.wrap .i64 (s1 - (1:Int)))) else some (Ty.zero t0:D0)) fun v5 => Option.bind (if ((!(if (!v3)=true then true else (v4.2.1==(2:Int))))&&((decide (s1>(0:Int)))&&true))=true then (aA a0 s1) else some (Ty.zero t0:D0)) fun v6 => if (if (if (!v3)=true then true else (v4.2.1==(2:Int)))=true then true else (if (decide (s1>(0:Int)))=true then (decide (v5.1≥v6.1)) else false))=true then done (j1_2 ()) else turn (IntKind.wrap .i64 (s1+(1:Int))) else done (j1_1 ())) (0:Int)
def L82:Lib Go.Proofs.Try.prog:=L97.add pm 82 [(.sl t0)] .bool (fun st=>F82 st) [(82,4,[.calm (.range 33)])] [(1,[3],[],[],[],[])] [] au (fun _=>by kernel_rfl)
def F59 (a0:(List D0)):Option Bool := aO (σ:=Unit) (ρ:=Bool) (fun s1 => Option.bind (if ((decide (((List.length a0:Nat):Int)≤(16:Int)))&&true)=true then (F82 a0) else some false) fun v1 => some ((if (decide (((List.length a0:Nat):Int)≤(16:Int)))=true then v1 else false))) fun j1_1 => aO (σ:=Unit) (ρ:=Bool) (fun s1 => some false) fun j1_2 => aH (σ:=Int) (ρ:=Bool) (fun s1 => if (decide (s1<((List.length a0:Nat):Int)))=true then Option.bind (aA a0 s1) fun v2 => if (v2.2.1==(5:Int))=true then done (j1_2 ()) else turn (IntKind.wrap .i64 (s1+(1:Int))) else done (j1_1 ())) (0:Int)
def L59:Lib Go.Proofs.Try.prog:=L82.add pm 59 [(.sl t0)] .bool (fun st=>F59 st) [] [(1,[3],[],[],[],[])] [] au (fun _=>by kernel_rfl)
def F30 (a0:(List D0)) (a1:(List D0)):Option Bool := if (((List.length a0:Nat):Int) != ((List.length a1:Nat):Int))=true then some false else aO (σ:=Unit) (ρ:=Bool) (fun s2 => some true) fun j2_1 => aO (σ:=Unit) (ρ:=Bool) (fun s2 => some false) fun j2_2 => aH (σ:=Int) (ρ:=Bool) (fun s2 => if (decide (s2<((List.length a0:Nat):Int)))=true then Option.bind (aA a0 s2) fun v3 => Option.bind (aA a1 s2) fun v4 => if (!(eqK (.prod (.int .u64) (.prod (.int .i64) .unit)) v3 v4))=true then done (j2_2 ()) else turn (IntKind.wrap .i64 (s2+(1:Int))) else done (j2_1 ())) (0:Int)
def L30:Lib Go.Proofs.Try.prog:=L59.add pm 30 [(.sl t0),(.sl t0)] .bool (fun st=>F30 st.1 st.2) [(30,6,[.calm (.range 9)])] [(1,[5],[],[],[],[])] [] au (fun _=>by kernel_rfl)
def F31 (a0:(List Int)) (a1:(List Int)):Option Bool := if (((List.length a0:Nat):Int) != ((List.length a1:Nat):Int))=true then some false else aO (σ:=Unit) (ρ:=Bool) (fun s2 => some true) fun j2_1 => aO (σ:=Unit) (ρ:=Bool) (fun s2 => some false) fun j2_2 => aH (σ:=Int) (ρ:=Bool) (fun s2 => if (decide (s2<((List.length a0:Nat):Int)))=true then Option.bind (aA a0 s2) fun v3 => Option.bind (aA a1 s2) fun v4 => if (v3 != v4)=true then done (j2_2 ()) else turn (IntKind.wrap .i64 (s2+(1:Int))) else done (j2_1 ())) (0:Int)
def L31:Lib Go.Proofs.Try.prog:=L30.add pm 31 [(.sl (.int .u64)),(.sl (.int .u64))] .bool (fun st=>F31 st.1 st.2) [(31,6,[.calm (.range 9)])] [(1,[5],[],[],[],[])] [] au (fun _=>by kernel_rfl)
def F32 (a0:(List D1)) (a1:(List D1)):Option Bool := if (((List.length a0:Nat):Int) != ((List.length a1:Nat):Int))=true then some false else aO (σ:=Unit) (ρ:=Bool) (fun s2 => some true) fun j2_1 => aO (σ:=Unit) (ρ:=Bool) (fun s2 => some false) fun j2_2 => aH (σ:=Int) (ρ:=Bool) (fun s2 => if (decide (s2<((List.length a0:Nat):Int)))=true then Option.bind (aA a0 s2) fun v3 => Option.bind (aA a1 s2) fun v4 => if (!(eqK (.prod (.int .i64) (.prod (.int .i64) (.prod (.int .u64) (.prod (.int .u64) (.prod (.int .i64) (.prod .bool .unit)))))) v3 v4))=true then done (j2_2 ()) else turn (IntKind.wrap .i64 (s2+(1:Int))) else done (j2_1 ())) (0:Int)
def L32:Lib Go.Proofs.Try.prog:=L31.add pm 32 [(.sl t1),(.sl t1)] .bool (fun st=>F32 st.1 st.2) [(32,6,[.calm (.range 9)])] [(1,[5],[],[],[],[])] [] au (fun _=>by kernel_rfl)
def F33 (a0:D4) (a1:D4):Option Bool := aO (σ:=Unit) (ρ:=Bool) (fun s2 => Option.bind (if ((if (eqK (.arr 16 (.int .u64)) a0.1 a1.1)=true then (a0.2.1==a1.2.1) else false)&&true)=true then (F30 a0.2.2.1 a1.2.2.1) else some false) fun v2 => zN ((if (if (if (if (eqK (.arr 16 (.int .u64)) a0.1 a1.1)=true then (a0.2.1==a1.2.1) else false)=true then v2 else false)=true then (eqK (.prod (.int .u64) (.prod (.int .u64) .unit)) a0.2.2.2.1 a1.2.2.2.1) else false)=true then (a0.2.2.2.2.1==a1.2.2.2.2.1) else false)) fun v3 => Option.bind (if ((if (if (if v3=true then (a0.2.2.2.2.2.1==a1.2.2.2.2.2.1) else false)=true then (a0.2.2.2.2.2.2.1==a1.2.2.2.2.2.2.1) else false)=true then (eqK (.prod t2 (.prod (.int .u64) (.prod (.int .u64) (.prod .bool .unit)))) a0.2.2.2.2.2.2.2.1 a1.2.2.2.2.2.2.2.1) else false)&&true)=true then (F31 a0.2.2.2.2.2.2.2.2.1 a1.2.2.2.2.2.2.2.2.1) else some false) fun v4 => zN ((if (if (if (if v3=true then (a0.2.2.2.2.2.1==a1.2.2.2.2.2.1) else false)=true then (a0.2.2.2.2.2.2.1==a1.2.2.2.2.2.2.1) else false)=true then (eqK (.prod t2 (.prod (.int .u64) (.prod (.int .u64) (.prod .bool .unit)))) a0.2.2.2.2.2.2.2.1 a1.2.2.2.2.2.2.2.1) else false)=true then v4 else false)) fun v5 => some ((if v5=true then (eqK (.prod (.int .u64) (.prod (.int .u64) .unit)) a0.2.2.2.2.2.2.2.2.2.1 a1.2.2.2.2.2.2.2.2.2.1) else false))) fun j2_1 => aO (σ:=Unit) (ρ:=Bool) (fun s2 => some false) fun j2_2 => aH (σ:=Int) (ρ:=Bool) (fun s2 => if (decide (s2<(4:Int)))=true then Option.bind (nI (if (decide ((0:Int)≤s2))=true then (decide (s2<(4:Int))) else false)) fun v3 => Option.bind (DF a0.2.2.2.2.2.2.2.2.2.2.1 s2) fun v4 => Option.bind (nI (if (decide ((0:Int)≤s2))=true then (decide (s2<(4:Int))) else false)) fun v5 => Option.bind (DF a1.2.2.2.2.2.2.2.2.2.2.1 s2) fun v6 => Option.bind (F30 v4 v6) fun v7 => if (!v7)=true then done (j2_2 ()) else turn (IntKind.wrap .i64 (s2+(1:Int))) else done (j2_1 ())) (0:Int)
def L33:Lib Go.Proofs.Try.prog:=L32.add pm 33 [t4,t4] .bool (fun st=>F33 st.1 st.2) [(33,4,[.calm (.range 10)])] [(1,[5],[],[],[],[])] [] au (fun _=>by kernel_rfl)
def F34 (a0:D5) (a1:D5):Option Bool := Option.bind (F30 a0.1 a1.1) fun v2 => Option.bind (if (v2&&true)=true then (F30 a0.2.1 a1.2.1) else some false) fun v3 => zN ((if (if (if (if v2=true then v3 else false)=true then (eqK (.prod (.int .u64) (.prod (.int .u64) .unit)) a0.2.2.1 a1.2.2.1) else false)=true then (a0.2.2.2.1==a1.2.2.2.1) else false)=true then (a0.2.2.2.2.1==a1.2.2.2.2.1) else false)) fun v4 => some v4
def L34:Lib Go.Proofs.Try.prog:=L33.add pm 34 [t5,t5] .bool (fun st=>F34 st.1 st.2) [] [] [] au (fun _=>by kernel_rfl)
def F14 (a0:D6) (a1:D6):Option Bool := Option.bind (if ((!(if (a0.1 != a1.1)=true then true else (a0.2.1 != a1.2.1)))&&true)=true then (F30 a0.2.2.1 a1.2.2.1) else some false) fun v2 => zN ((if (if (if (if (a0.1 != a1.1)=true then true else (a0.2.1 != a1.2.1))=true then true else (!v2))=true then true else (a0.2.2.2.1 != a1.2.2.2.1))=true then true else (!(a0.2.2.2.2.1==a1.2.2.2.2.1)))) fun v3 => if v3=true then some false else Option.bind (F31 a0.2.2.2.2.2.1 a1.2.2.2.2.2.1) fun v4 => Option.bind (if (v4&&true)=true then (F31 a0.2.2.2.2.2.2.1 a1.2.2.2.2.2.2.1) else some false) fun v5 => Option.bind (if ((if v4=true then v5 else false)&&true)=true then (F32 a0.2.2.2.2.2.2.2.1 a1.2.2.2.2.2.2.2.1) else some false) fun v6 => Option.bind (if ((if (if v4=true then v5 else false)=true then v6 else false)&&true)=true then (F33 a0.2.2.2.2.2.2.2.2.1 a1.2.2.2.2.2.2.2.2.1) else some false) fun v7 => Option.bind (if ((if (if (if v4=true then v5 else false)=true then v6 else false)=true then v7 else false)&&true)=true then (F34 a0.2.2.2.2.2.2.2.2.2.1 a1.2.2.2.2.2.2.2.2.2.1) else some false) fun v8 => Option.bind (if ((if (if (if (if v4=true then v5 else false)=true then v6 else false)=true then v7 else false)=true then v8 else false)&&true)=true then (F31 a0.2.2.2.2.2.2.2.2.2.2.1 a1.2.2.2.2.2.2.2.2.2.2.1) else some false) fun v9 => Option.bind (if ((if (if (if (if (if v4=true then v5 else false)=true then v6 else false)=true then v7 else false)=true then v8 else false)=true then v9 else false)&&true)=true then (F31 a0.2.2.2.2.2.2.2.2.2.2.2.1 a1.2.2.2.2.2.2.2.2.2.2.2.1) else some false) fun v10 => some ((if (if (if (if (if (if v4=true then v5 else false)=true then v6 else false)=true then v7 else false)=true then v8 else false)=true then v9 else false)=true then v10 else false))
def L14:Lib Go.Proofs.Try.prog:=L34.add pm 14 [t6,t6] .bool (fun st=>F14 st.1 st.2) [] [] [] au (fun _=>by kernel_rfl)
abbrev iG (x:D6) (y:Int):D6:=(y,x.2)
abbrev iH (x:D6) (y:Int):D6:=(x.1,(y,x.2.2))
abbrev jZ (x:D6) (y:(List D0)):D6:=(x.1,(x.2.1,(y,x.2.2.2)))
abbrev iI (x:D6) (y:Int):D6:=(x.1,(x.2.1,(x.2.2.1,(y,x.2.2.2.2))))
abbrev ku (x:D6) (y:Bool):D6:=(x.1,(x.2.1,(x.2.2.1,(x.2.2.2.1,(y,x.2.2.2.2.2)))))
abbrev Q5 (x:D6) (y:(List Int)):D6:=(x.1,(x.2.1,(x.2.2.1,(x.2.2.2.1,(x.2.2.2.2.1,(x.2.2.2.2.2.1,(y,x.2.2.2.2.2.2.2)))))))
abbrev dH (x:D6) (y:(List Int)):D6:=(x.1,(x.2.1,(x.2.2.1,(x.2.2.2.1,(x.2.2.2.2.1,(y,x.2.2.2.2.2.2))))))
abbrev Q7 (x:D6) (y:(List D1)):D6:=(x.1,(x.2.1,(x.2.2.1,(x.2.2.2.1,(x.2.2.2.2.1,(x.2.2.2.2.2.1,(x.2.2.2.2.2.2.1,(y,x.2.2.2.2.2.2.2.2))))))))
abbrev Nk (x:D6) (y:D4):D6:=(x.1,(x.2.1,(x.2.2.1,(x.2.2.2.1,(x.2.2.2.2.1,(x.2.2.2.2.2.1,(x.2.2.2.2.2.2.1,(x.2.2.2.2.2.2.2.1,(y,x.2.2.2.2.2.2.2.2.2)))))))))
abbrev Nl (x:D6) (y:D5):D6:=(x.1,(x.2.1,(x.2.2.1,(x.2.2.2.1,(x.2.2.2.2.1,(x.2.2.2.2.2.1,(x.2.2.2.2.2.2.1,(x.2.2.2.2.2.2.2.1,(x.2.2.2.2.2.2.2.2.1,(y,x.2.2.2.2.2.2.2.2.2.2))))))))))
abbrev Np (x:D6) (y:(List Int)):D6:=(x.1,(x.2.1,(x.2.2.1,(x.2.2.2.1,(x.2.2.2.2.1,(x.2.2.2.2.2.1,(x.2.2.2.2.2.2.1,(x.2.2.2.2.2.2.2.1,(x.2.2.2.2.2.2.2.2.1,(x.2.2.2.2.2.2.2.2.2.1,(y,x.2.2.2.2.2.2.2.2.2.2.2)))))))))))
abbrev Nq (x:D6) (y:(List Int)):D6:=(x.1,(x.2.1,(x.2.2.1,(x.2.2.2.1,(x.2.2.2.2.1,(x.2.2.2.2.2.1,(x.2.2.2.2.2.2.1,(x.2.2.2.2.2.2.2.1,(x.2.2.2.2.2.2.2.2.1,(x.2.2.2.2.2.2.2.2.2.1,(x.2.2.2.2.2.2.2.2.2.2.1,(y,x.2.2.2.2.2.2.2.2.2.2.2.2))))))))))))
def F60 (a0:D6):Option Bool := aO (σ:=D6) (ρ:=Bool) (fun s1 => Option.bind (F14 s1 a0) fun v2 => some v2) fun j1_1 => if (a0.2.1==(1:Int))=true then j1_1 (Q5 (ku (iI (jZ (iH (iG (Ty.zero t6:D6) a0.1) a0.2.1) a0.2.2.1) a0.2.2.2.1) a0.2.2.2.2.1) a0.2.2.2.2.2.2.1) else aO (σ:=D6) (ρ:=Bool) (fun s1 => j1_1 s1) fun j1_2 => if (a0.2.1==(2:Int))=true then j1_2 (dH (ku (iI (jZ (iH (iG (Ty.zero t6:D6) a0.1) a0.2.1) a0.2.2.1) a0.2.2.2.1) a0.2.2.2.2.1) a0.2.2.2.2.2.1) else aO (σ:=D6) (ρ:=Bool) (fun s1 => j1_2 s1) fun j1_3 => if (a0.2.1==(3:Int))=true then j1_3 (Q7 (ku (iI (jZ (iH (iG (Ty.zero t6:D6) a0.1) a0.2.1) a0.2.2.1) a0.2.2.2.1) a0.2.2.2.2.1) a0.2.2.2.2.2.2.2.1) else aO (σ:=D6) (ρ:=Bool) (fun s1 => j1_3 s1) fun j1_4 => if (a0.2.1==(4:Int))=true then j1_4 (Nk (ku (iI (jZ (iH (iG (Ty.zero t6:D6) a0.1) a0.2.1) a0.2.2.1) a0.2.2.2.1) a0.2.2.2.2.1) a0.2.2.2.2.2.2.2.2.1) else aO (σ:=D6) (ρ:=Bool) (fun s1 => j1_4 s1) fun j1_5 => if (a0.2.1==(5:Int))=true then j1_5 (Nl (ku (iI (jZ (iH (iG (Ty.zero t6:D6) a0.1) a0.2.1) a0.2.2.1) a0.2.2.2.1) a0.2.2.2.2.1) a0.2.2.2.2.2.2.2.2.2.1) else aO (σ:=D6) (ρ:=Bool) (fun s1 => j1_5 s1) fun j1_6 => if (a0.2.1==(6:Int))=true then j1_6 (Nq (Np (ku (iI (jZ (iH (iG (Ty.zero t6:D6) a0.1) a0.2.1) a0.2.2.1) a0.2.2.2.1) a0.2.2.2.2.1) a0.2.2.2.2.2.2.2.2.2.2.1) a0.2.2.2.2.2.2.2.2.2.2.2.1) else j1_6 (ku (iI (jZ (iH (iG (Ty.zero t6:D6) a0.1) a0.2.1) a0.2.2.1) a0.2.2.2.1) a0.2.2.2.2.1)
def L60:Lib Go.Proofs.Try.prog:=L14.add pm 60 [t6] .bool (fun st=>F60 st) [] [] [] au (fun _=>by kernel_rfl)
def F61 (a0:(List D0)):Option (List Int) := aO (σ:=(List Int)) (ρ:=(List Int)) (fun s1 => some s1) fun j1_1 => aH (σ:=((List Int)×Int)) (ρ:=(List Int)) (fun s1 => if (decide (s1.2<((List.length a0:Nat):Int)))=true then Option.bind (aA a0 s1.2) fun v3 => aO (σ:=(List Int)) (ρ:=(((List Int)×Int) ⊕ (List Int))) (fun s4 => turn (s4,(IntKind.wrap .i64 (s1.2+(1:Int))))) fun j4_3 => if (v3.2.1==(0:Int))=true then Option.bind (aA a0 s1.2) fun v4 => Option.bind (some ([v4.1]:List Int)) fun v5 => Option.bind (FY 8 s1.1 v5) fun v6 => j4_3 v6 else j4_3 s1.1 else done (j1_1 s1.1)) (([]:List Int),(0:Int))
def L61:Lib Go.Proofs.Try.prog:=L60.add pm 61 [(.sl t0)] (.sl (.int .u64)) (fun st=>F61 st) [] [(1,[3,4],[],[],[],[])] [] au (fun _=>by kernel_rfl)
def F62 (a0:(List Int)):Option Bool := aO (σ:=Unit) (ρ:=Bool) (fun s1 => some true) fun j1_1 => aO (σ:=Unit) (ρ:=Bool) (fun s1 => some false) fun j1_2 => aH (σ:=Int) (ρ:=Bool) (fun s1 => if (decide (s1<((List.length a0:Nat):Int)))=true then Option.bind (aA a0 s1) fun v2 => Option.bind (F58 v2) fun v3 => Option.bind (if ((!(!v3))&&((decide (s1>(0:Int)))&&true))=true then (aA a0 (IntKind.wrap .i64 (s1 - (1:Int)))) else some (0:Int)) fun v4 => Option.bind (if ((!(!v3))&&((decide (s1>(0:Int)))&&true))=true then (aA a0 s1) else some (0:Int)) fun v5 => if (if (!v3)=true then true else (if (decide (s1>(0:Int)))=true then (decide (v4≥v5)) else false))=true then done (j1_2 ()) else turn (IntKind.wrap .i64 (s1+(1:Int))) else done (j1_1 ())) (0:Int)
def L62:Lib Go.Proofs.Try.prog:=L61.add pm 62 [(.sl (.int .u64))] .bool (fun st=>F62 st) [(62,4,[.calm (.range 22)])] [(1,[3],[],[],[],[])] [] au (fun _=>by kernel_rfl)
def F83 (a0:D1):Option Bool := zN ((if (if (if (if (decide (a0.1≥(0:Int)))=true then (decide (a0.1<(1048576:Int))) else false)=true then (decide (a0.2.2.2.2.1≥(0:Int))) else false)=true then (decide (a0.2.2.2.2.1<(1048576:Int))) else false)=true then (decide (a0.2.1≥(1:Int))) else false)) fun v1 => zN ((if (if (if v1=true then (decide (a0.2.1≤(1048576:Int))) else false)=true then (decide (a0.2.1≤(IntKind.wrap .i64 ((1048576:Int) - a0.1)))) else false)=true then (decide (a0.2.1≤(IntKind.wrap .i64 ((1048576:Int) - a0.2.2.2.2.1)))) else false)) fun v2 => some v2
def L83:Lib Go.Proofs.Try.prog:=L62.add pm 83 [t1] .bool (fun st=>F83 st) [] [] [] au (fun _=>by kernel_rfl)
def F63 (a0:(List D1)):Option Bool := if (decide (((List.length a0:Nat):Int)>(16:Int)))=true then some false else aO (σ:=Unit) (ρ:=Bool) (fun s1 => some true) fun j1_1 => aO (σ:=Unit) (ρ:=Bool) (fun s1 => some false) fun j1_2 => aH (σ:=Int) (ρ:=Bool) (fun s1 => if (decide (s1<((List.length a0:Nat):Int)))=true then Option.bind (aA a0 s1) fun v2 => Option.bind (F83 v2) fun v3 => Option.bind (if ((!(!v3))&&((decide (s1>(0:Int)))&&true))=true then (aA a0 (IntKind.wrap .i64 (s1 - (1:Int)))) else some (Ty.zero t1:D1)) fun v4 => Option.bind (if ((!(!v3))&&((decide (s1>(0:Int)))&&true))=true then (aA a0 (IntKind.wrap .i64 (s1 - (1:Int)))) else some (Ty.zero t1:D1)) fun v5 => Option.bind (if ((!(!v3))&&((decide (s1>(0:Int)))&&true))=true then (aA a0 s1) else some (Ty.zero t1:D1)) fun v6 => if (if (!v3)=true then true else (if (decide (s1>(0:Int)))=true then (decide ((IntKind.wrap .i64 (v4.1+v5.2.1))>v6.1)) else false))=true then done (j1_2 ()) else turn (IntKind.wrap .i64 (s1+(1:Int))) else done (j1_1 ())) (0:Int)
def L63:Lib Go.Proofs.Try.prog:=L83.add pm 63 [(.sl t1)] .bool (fun st=>F63 st) [(63,6,[.calm (.range 31)])] [(1,[3],[],[],[],[])] [] au (fun _=>by kernel_rfl)
def F86 (a0:(List D0)) (a1:Int):Option Int := aO (σ:=Unit) (ρ:=Int) (fun s2 => some ((2:Int))) fun j2_1 => aO (σ:=Int) (ρ:=Int) (fun s2 => some s2) fun j2_2 => aH (σ:=Int) (ρ:=Int) (fun s2 => if (decide (s2<((List.length a0:Nat):Int)))=true then Option.bind (aA a0 s2) fun v3 => if (v3.1==a1)=true then Option.bind (aA a0 s2) fun v4 => done (j2_2 v4.2.1) else turn (IntKind.wrap .i64 (s2+(1:Int))) else done (j2_1 ())) (0:Int)
def L86:Lib Go.Proofs.Try.prog:=L63.add pm 86 [(.sl t0),(.int .u64)] (.int .i64) (fun st=>F86 st.1 st.2) [] [(1,[5],[],[],[],[])] [] au (fun _=>by kernel_rfl)
def F98 (a0:Int):Option Int := if (if (decide (a0<(0:Int)))=true then true else (decide (a0>(5:Int))))=true then some ((2:Int)) else some a0
def L98:Lib Go.Proofs.Try.prog:=L86.add pm 98 [(.int .i64)] (.int .i64) (fun st=>F98 st) [] [] [] au (fun _=>by kernel_rfl)
def F85 (a0:Int) (a1:Int):Option Bool := Option.bind (F98 a0) fun v2 => Option.bind (F98 a1) fun v3 => some ((decide (v2≤v3)))
def L85:Lib Go.Proofs.Try.prog:=L98.add pm 85 [(.int .i64),(.int .i64)] .bool (fun st=>F85 st.1 st.2) [] [] [] au (fun _=>by kernel_rfl)
def F65 (a0:(List D0)) (a1:(List D0)):Option Bool := aO (σ:=Unit) (ρ:=Bool) (fun s2 => aO (σ:=Unit) (ρ:=Bool) (fun s2 => some true) fun j2_1 => aO (σ:=Unit) (ρ:=Bool) (fun s2 => some false) fun j2_2 => aH (σ:=Int) (ρ:=Bool) (fun s2 => if (decide (s2<((List.length a1:Nat):Int)))=true then Option.bind (aA a1 s2) fun v3 => Option.bind (F86 a0 v3.1) fun v4 => Option.bind (aA a1 s2) fun v5 => Option.bind (F85 v4 v5.2.1) fun v6 => if (!v6)=true then done (j2_2 ()) else turn (IntKind.wrap .i64 (s2+(1:Int))) else done (j2_1 ())) (0:Int)) fun j2_1 => aO (σ:=Unit) (ρ:=Bool) (fun s2 => some false) fun j2_2 => aH (σ:=Int) (ρ:=Bool) (fun s2 => if (decide (s2<((List.length a0:Nat):Int)))=true then Option.bind (aA a0 s2) fun v3 => Option.bind (aA a0 s2) fun v4 => Option.bind (F86 a1 v4.1) fun v5 => Option.bind (F85 v3.2.1 v5) fun v6 => if (!v6)=true then done (j2_2 ()) else turn (IntKind.wrap .i64 (s2+(1:Int))) else done (j2_1 ())) (0:Int)
def L65:Lib Go.Proofs.Try.prog:=L85.add pm 65 [(.sl t0),(.sl t0)] .bool (fun st=>F65 st.1 st.2) [(65,4,[.calm (.range 14)]),(65,9,[.calm (.range 14)])] [(1,[5],[],[],[],[]),(2,[6],[],[],[],[])] [] au (fun _=>by kernel_rfl)
def F84 (a0:D2):Option Bool := some ((if (decide (a0.1≤a0.2.1))=true then (decide (a0.2.1≤(2305843009213693952:Int))) else false))
def L84:Lib Go.Proofs.Try.prog:=L65.add pm 84 [t2] .bool (fun st=>F84 st) [] [] [] au (fun _=>by kernel_rfl)
def F64 (a0:(List D0)) (a1:D4):Option Bool := aO (σ:=Unit) (ρ:=Bool) (fun s2 => if (if (a1.2.2.2.2.2.2.1 != (1:Int))=true then (!(eqK (.prod t2 (.prod (.int .u64) (.prod (.int .u64) (.prod .bool .unit)))) a1.2.2.2.2.2.2.2.1 (Ty.zero t3:D3))) else false)=true then some false else Option.bind (F59 a1.2.2.1) fun v2 => Option.bind (if (v2&&true)=true then (F65 a0 a1.2.2.1) else some false) fun v3 => Option.bind (if ((if (if (if (if v2=true then v3 else false)=true then (decide (a1.2.2.2.2.2.2.1≥(0:Int))) else false)=true then (decide (a1.2.2.2.2.2.2.1≤(2:Int))) else false)=true then (decide (((List.length a1.2.2.2.2.2.2.2.2.1:Nat):Int)≤(8:Int))) else false)&&true)=true then (F84 a1.2.2.2.2.2.2.2.2.2.1) else some false) fun v4 => zN ((if (if (if (if (if v2=true then v3 else false)=true then (decide (a1.2.2.2.2.2.2.1≥(0:Int))) else false)=true then (decide (a1.2.2.2.2.2.2.1≤(2:Int))) else false)=true then (decide (((List.length a1.2.2.2.2.2.2.2.2.1:Nat):Int)≤(8:Int))) else false)=true then v4 else false)) fun v5 => some v5) fun j2_1 => aO (σ:=Unit) (ρ:=Bool) (fun s2 => some false) fun j2_2 => aH (σ:=Int) (ρ:=Bool) (fun s2 => if (decide (s2<(4:Int)))=true then Option.bind (nI (if (decide ((0:Int)≤s2))=true then (decide (s2<(4:Int))) else false)) fun v3 => Option.bind (DF a1.2.2.2.2.2.2.2.2.2.2.1 s2) fun v4 => Option.bind (F59 v4) fun v5 => if (!v5)=true then done (j2_2 ()) else turn (IntKind.wrap .i64 (s2+(1:Int))) else done (j2_1 ())) (0:Int)
def L64:Lib Go.Proofs.Try.prog:=L84.add pm 64 [(.sl t0),t4] .bool (fun st=>F64 st.1 st.2) [] [(1,[5],[],[],[],[])] [] au (fun _=>by kernel_rfl)
def F42 (a0:D6):Option Bool := Option.bind (F58 a0.1) fun v1 => Option.bind (if ((!(if (if (!v1)=true then true else (decide (a0.2.1<(1:Int))))=true then true else (decide (a0.2.1>(6:Int)))))&&true)=true then (F59 a0.2.2.1) else some false) fun v2 => zN ((if (if (if (if (if (!v1)=true then true else (decide (a0.2.1<(1:Int))))=true then true else (decide (a0.2.1>(6:Int))))=true then true else (!v2))=true then true else (decide (a0.2.2.2.1<(1:Int))))=true then true else (decide (a0.2.2.2.1>(4096:Int))))) fun v3 => Option.bind (if ((!v3)&&true)=true then (F60 a0) else some false) fun v4 => if (if v3=true then true else (!v4))=true then some false else Option.bind (if ((a0.2.1 != (4:Int))&&true)=true then (F61 a0.2.2.1) else some ([]:List Int)) fun v5 => if (if (a0.2.1 != (4:Int))=true then (decide (((List.length v5:Nat):Int)>(0:Int))) else false)=true then some false else aO (σ:=Bool) (ρ:=Bool) (fun s6 => some s6) fun j6_1 => if (a0.2.1==(1:Int))=true then j6_1 (decide (((List.length a0.2.2.2.2.2.2.1:Nat):Int)≤(IntKind.wrap .i64 ((16:Int) * (IntKind.wrap .i64 (a0.2.2.2.1 - (1:Int))))))) else aO (σ:=Bool) (ρ:=Bool) (fun s6 => j6_1 s6) fun j6_2 => if (a0.2.1==(2:Int))=true then Option.bind (if ((decide (((List.length a0.2.2.2.2.2.1:Nat):Int)≤(64:Int)))&&true)=true then (F62 a0.2.2.2.2.2.1) else some false) fun v6 => j6_2 (if (decide (((List.length a0.2.2.2.2.2.1:Nat):Int)≤(64:Int)))=true then v6 else false) else aO (σ:=Bool) (ρ:=Bool) (fun s6 => j6_2 s6) fun j6_3 => if (a0.2.1==(3:Int))=true then Option.bind (F63 a0.2.2.2.2.2.2.2.1) fun v6 => j6_3 v6 else aO (σ:=Bool) (ρ:=Bool) (fun s6 => j6_3 s6) fun j6_4 => if (a0.2.1==(4:Int))=true then Option.bind (F64 a0.2.2.1 a0.2.2.2.2.2.2.2.2.1) fun v6 => j6_4 (if v6=true then (!a0.2.2.2.2.1) else false) else if (a0.2.1==(5:Int))=true then Option.bind (F59 a0.2.2.2.2.2.2.2.2.2.1.1) fun v6 => Option.bind (if (v6&&true)=true then (F59 a0.2.2.2.2.2.2.2.2.2.1.2.1) else some false) fun v7 => Option.bind (if ((if v6=true then v7 else false)&&true)=true then (F65 a0.2.2.2.2.2.2.2.2.2.1.1 a0.2.2.2.2.2.2.2.2.2.1.2.1) else some false) fun v8 => j6_4 (if (if v6=true then v7 else false)=true then v8 else false) else some ((if (decide (((List.length a0.2.2.2.2.2.2.2.2.2.2.1:Nat):Int)≤(64:Int)))=true then (decide (((List.length a0.2.2.2.2.2.2.2.2.2.2.2.1:Nat):Int)≤(1024:Int))) else false))
def L42:Lib Go.Proofs.Try.prog:=L64.add pm 42 [t6] .bool (fun st=>F42 st) [] [] [] au (fun _=>by kernel_rfl)
def F24 (a0:D7):Option Bool := if (if (if (decide (a0.1<(0:Int)))=true then true else (decide (a0.1>(1099511627776:Int))))=true then true else (decide (((List.length a0.2.2.2.1:Nat):Int)>(1024:Int))))=true then some false else aO (σ:=Unit) (ρ:=Bool) (fun s1 => some true) fun j1_1 => aO (σ:=Unit) (ρ:=Bool) (fun s1 => some false) fun j1_2 => aH (σ:=Int) (ρ:=Bool) (fun s1 => if (decide (s1<((List.length a0.2.2.2.1:Nat):Int)))=true then Option.bind (aA a0.2.2.2.1 s1) fun v2 => Option.bind (F42 v2) fun v3 => Option.bind (if ((!(!v3))&&((decide (s1>(0:Int)))&&true))=true then (aA a0.2.2.2.1 (IntKind.wrap .i64 (s1 - (1:Int)))) else some (Ty.zero t6:D6)) fun v4 => Option.bind (if ((!(!v3))&&((decide (s1>(0:Int)))&&true))=true then (aA a0.2.2.2.1 s1) else some (Ty.zero t6:D6)) fun v5 => if (if (!v3)=true then true else (if (decide (s1>(0:Int)))=true then (decide (v4.1≥v5.1)) else false))=true then done (j1_2 ()) else turn (IntKind.wrap .i64 (s1+(1:Int))) else done (j1_1 ())) (0:Int)
def L24:Lib Go.Proofs.Try.prog:=L42.add pm 24 [t7] .bool (fun st=>F24 st) [(24,6,[.calm (.range 27)])] [(1,[3],[],[],[],[])] [] au (fun _=>by kernel_rfl)
def F89 (a0:Int):Option Int := Option.bind (F98 a0) fun v1 => if (v1==(0:Int))=true then some ((5:Int)) else Option.bind (F98 a0) fun v2 => some v2
def L89:Lib Go.Proofs.Try.prog:=L24.add pm 89 [(.int .i64)] (.int .i64) (fun st=>F89 st) [] [] [] au (fun _=>by kernel_rfl)
abbrev yS (x:D0) (y:Int):D0:=(y,x.2)
abbrev yU (x:D0) (y:Int):D0:=(x.1,(y,x.2.2))
def F67 (a0:(List D0)):Option (List D0) := aO (σ:=(List D0)) (ρ:=(List D0)) (fun s1 => some s1) fun j1_1 => aH (σ:=((List D0)×Int)) (ρ:=(List D0)) (fun s1 => if (decide (s1.2<((List.length a0:Nat):Int)))=true then Option.bind (aA a0 s1.2) fun v3 => Option.bind (aA a0 s1.2) fun v4 => Option.bind (F89 v4.2.1) fun v5 => Option.bind (some ([(yU (yS (Ty.zero t0:D0) v3.1) v5)]:List D0)) fun v6 => Option.bind (FY 16 s1.1 v6) fun v7 => turn (v7,(IntKind.wrap .i64 (s1.2+(1:Int)))) else done (j1_1 s1.1)) (([]:List D0),(0:Int))
def L67:Lib Go.Proofs.Try.prog:=L89.add pm 67 [(.sl t0)] (.sl t0) (fun st=>F67 st) [(67,5,[.calm (.range 14),.bar 14,.bar 15])] [(1,[3,4],[],[],[],[])] [] au (fun _=>by kernel_rfl)
def F88 (a0:Int) (a1:Int):Option Int := Option.bind (F98 a0) fun v2 => Option.bind (F98 a1) fun v3 => if (decide (v2>v3))=true then Option.bind (F98 a0) fun v4 => some v4 else Option.bind (F98 a1) fun v4 => some v4
def L88:Lib Go.Proofs.Try.prog:=L67.add pm 88 [(.int .i64),(.int .i64)] (.int .i64) (fun st=>F88 st.1 st.2) [] [] [] au (fun _=>by kernel_rfl)
def F87 (a0:(List D0)) (a1:Int) (a2:Int):Option (List D0) := aO (σ:=((List D0)×Bool)) (ρ:=(List D0)) (fun s3 => aO (σ:=(List D0)) (ρ:=(List D0)) (fun s5 => some s5) fun j5_1 => if (!s3.2)=true then Option.bind (some ([(yU (yS (Ty.zero t0:D0) a1) a2)]:List D0)) fun v5 => Option.bind (FY 16 s3.1 v5) fun v6 => j5_1 v6 else j5_1 s3.1) fun j3_1 => aH (σ:=((List D0)×(Bool×Int))) (ρ:=(List D0)) (fun s3 => if (decide (s3.2.2<((List.length a0:Nat):Int)))=true then Option.bind (if ((!s3.2.1)&&true)=true then (aA a0 s3.2.2) else some (Ty.zero t0:D0)) fun v6 => aO (σ:=((List D0)×Bool)) (ρ:=(((List D0)×(Bool×Int)) ⊕ (List D0))) (fun s7 => Option.bind (aA a0 s3.2.2) fun v9 => aO (σ:=(List D0)) (ρ:=(((List D0)×(Bool×Int)) ⊕ (List D0))) (fun s10 => turn (s10,s7.2,(IntKind.wrap .i64 (s3.2.2+(1:Int))))) fun j10_3 => if (v9.1 != a1)=true then Option.bind (aA a0 s3.2.2) fun v10 => Option.bind (some ([v10]:List D0)) fun v11 => Option.bind (FY 16 s7.1 v11) fun v12 => j10_3 v12 else j10_3 s7.1) fun j7_3 => if (if (!s3.2.1)=true then (decide (v6.1>a1)) else false)=true then Option.bind (some ([(yU (yS (Ty.zero t0:D0) a1) a2)]:List D0)) fun v7 => Option.bind (FY 16 s3.1 v7) fun v8 => j7_3 (v8,true) else j7_3 (s3.1,s3.2.1) else done (j3_1 (s3.1,s3.2.1))) (([]:List D0),(a2==(2:Int)),(0:Int))
def L87:Lib Go.Proofs.Try.prog:=L88.add pm 87 [(.sl t0),(.int .u64),(.int .i64)] (.sl t0) (fun st=>F87 st.1 st.2.1 st.2.2) [] [(1,[7,8,9],[],[],[],[])] [] au (fun _=>by kernel_rfl)
def F66 (a0:(List D0)) (a1:(List D0)):Option (List D0) := aO (σ:=(List D0)) (ρ:=(List D0)) (fun s2 => aO (σ:=(List D0)) (ρ:=(List D0)) (fun s3 => some s3) fun j3_1 => aH (σ:=((List D0)×Int)) (ρ:=(List D0)) (fun s3 => if (decide (s3.2<((List.length a1:Nat):Int)))=true then Option.bind (aA a1 s3.2) fun v5 => Option.bind (aA a1 s3.2) fun v6 => Option.bind (F86 a0 v6.1) fun v7 => Option.bind (aA a1 s3.2) fun v8 => Option.bind (F88 v7 v8.2.1) fun v9 => Option.bind (F87 s3.1 v5.1 v9) fun v10 => turn (v10,(IntKind.wrap .i64 (s3.2+(1:Int)))) else done (j3_1 s3.1)) (s2,(0:Int))) fun j2_1 => aH (σ:=((List D0)×Int)) (ρ:=(List D0)) (fun s2 => if (decide (s2.2<((List.length a0:Nat):Int)))=true then Option.bind (aA a0 s2.2) fun v4 => Option.bind (aA a0 s2.2) fun v5 => Option.bind (aA a0 s2.2) fun v6 => Option.bind (F86 a1 v6.1) fun v7 => Option.bind (F88 v5.2.1 v7) fun v8 => Option.bind (F87 s2.1 v4.1 v8) fun v9 => turn (v9,(IntKind.wrap .i64 (s2.2+(1:Int)))) else done (j2_1 s2.1)) (a0,(0:Int))
def L66:Lib Go.Proofs.Try.prog:=L87.add pm 66 [(.sl t0),(.sl t0)] (.sl t0) (fun st=>F66 st.1 st.2) [(66,5,[.calm (.range 20),.bar 20]),(66,9,[.calm (.range 20),.bar 20])] [(1,[5,6],[],[],[],[]),(2,[5,7],[],[],[],[])] [] au (fun _=>by kernel_rfl)
def F43 (a0:(List D0)) (a1:(List D0)):Option Bool := Option.bind (F67 a1) fun v2 => Option.bind (F66 v2 ([]:List D0)) fun v3 => Option.bind (F65 a0 v3) fun v4 => some v4
def L43:Lib Go.Proofs.Try.prog:=L66.add pm 43 [(.sl t0),(.sl t0)] .bool (fun st=>F43 st.1 st.2) [] [] [] au (fun _=>by kernel_rfl)
def F47 (a0:D6):Option Int := Option.bind (Ej .i64 (IntKind.wrap .i64 ((IntKind.wrap .i64 (((List.length a0.2.2.2.2.2.2.1:Nat):Int)+(16:Int))) - (1:Int))) (16:Int)) fun v1 => some ((IntKind.wrap .i64 ((1:Int)+v1)))
def L47:Lib Go.Proofs.Try.prog:=L43.add pm 47 [t6] (.int .i64) (fun st=>F47 st) [] [] [] au (fun _=>by kernel_rfl)
def F29 (a0:D7) (a1:D6):Option Int := Option.bind (F47 a1) fun v2 => aO (σ:=Int) (ρ:=Int) (fun s3 => some s3) fun j3_1 => aH (σ:=(Int×Int)) (ρ:=Int) (fun s3 => if (decide (s3.2<((List.length a1.2.2.2.2.2.1:Nat):Int)))=true then Option.bind (aA a1.2.2.2.2.2.1 s3.2) fun v5 => Option.bind (F11 a0 v5) fun v6 => turn ((IntKind.wrap .i64 (s3.1+v6.1.2.2.2.1)),(IntKind.wrap .i64 (s3.2+(1:Int)))) else done (j3_1 s3.1)) (v2,(0:Int))
def L29:Lib Go.Proofs.Try.prog:=L47.add pm 29 [t7,t6] (.int .i64) (fun st=>F29 st.1 st.2) [(29,5,[.calm (.range 13)])] [(1,[5,6],[],[],[],[])] [] au (fun _=>by kernel_rfl)
def F25 (a0:D7) (a1:D6):Option Bool := aO (σ:=Unit) (ρ:=Bool) (fun s2 => Option.bind (if ((!(a1.2.1 != (2:Int)))&&true)=true then (F29 a0 a1) else some (0:Int)) fun v2 => some ((if (a1.2.1 != (2:Int))=true then true else (decide (v2≤a1.2.2.2.1))))) fun j2_1 => aO (σ:=D6) (ρ:=Bool) (fun s2 => some false) fun j2_2 => aH (σ:=Int) (ρ:=Bool) (fun s2 => if (decide (s2<((List.length a1.2.2.2.2.2.1:Nat):Int)))=true then Option.bind (aA a1.2.2.2.2.2.1 s2) fun v3 => Option.bind (F11 a0 v3) fun v4 => Option.bind (if ((!(!v4.2))&&true)=true then (F43 a1.2.2.1 v4.1.2.2.1) else some false) fun v5 => if (if (!v4.2)=true then true else (!v5))=true then done (j2_2 v4.1) else turn (IntKind.wrap .i64 (s2+(1:Int))) else done (j2_1 ())) (0:Int)
def L25:Lib Go.Proofs.Try.prog:=L29.add pm 25 [t7,t6] .bool (fun st=>F25 st.1 st.2) [(25,4,[.calm (.range 13)]),(25,7,[.calm (.range 12)])] [(1,[5],[],[],[],[])] [] au (fun _=>by kernel_rfl)
def F28 (a0:(List Int)) (a1:Int):Option Bool := aO (σ:=Unit) (ρ:=Bool) (fun s2 => some false) fun j2_1 => aO (σ:=Unit) (ρ:=Bool) (fun s2 => some true) fun j2_2 => aH (σ:=Int) (ρ:=Bool) (fun s2 => if (decide (s2<((List.length a0:Nat):Int)))=true then Option.bind (aA a0 s2) fun v3 => if (v3==a1)=true then done (j2_2 ()) else turn (IntKind.wrap .i64 (s2+(1:Int))) else done (j2_1 ())) (0:Int)
def L28:Lib Go.Proofs.Try.prog:=L25.add pm 28 [(.sl (.int .u64)),(.int .u64)] .bool (fun st=>F28 st.1 st.2) [] [(1,[5],[],[],[],[])] [] au (fun _=>by kernel_rfl)
def F12 (a0:D7) (a1:Int):Option (List Int) := aO (σ:=(List Int)) (ρ:=(List Int)) (fun s2 => some s2) fun j2_1 => aH (σ:=((List Int)×Int)) (ρ:=(List Int)) (fun s2 => if (decide (s2.2<((List.length a0.2.2.2.1:Nat):Int)))=true then Option.bind (aA a0.2.2.2.1 s2.2) fun v4 => Option.bind (F28 v4.2.2.2.2.2.1 a1) fun v5 => aO (σ:=(List Int)) (ρ:=(((List Int)×Int) ⊕ (List Int))) (fun s6 => turn (s6,(IntKind.wrap .i64 (s2.2+(1:Int))))) fun j6_3 => if v5=true then Option.bind (aA a0.2.2.2.1 s2.2) fun v6 => Option.bind (some ([v6.1]:List Int)) fun v7 => Option.bind (FY 8 s2.1 v7) fun v8 => j6_3 v8 else j6_3 s2.1 else done (j2_1 s2.1)) (([]:List Int),(0:Int))
def L12:Lib Go.Proofs.Try.prog:=L28.add pm 12 [t7,(.int .u64)] (.sl (.int .u64)) (fun st=>F12 st.1 st.2) [] [(1,[5,6],[],[],[],[])] [] au (fun _=>by kernel_rfl)
def F68 (a0:D7) (a1:Int):Option (List Int) := aO (σ:=Unit) (ρ:=(List Int)) (fun s2 => some (([]:List Int))) fun j2_1 => aO (σ:=(List Int)) (ρ:=(List Int)) (fun s2 => some s2) fun j2_2 => aH (σ:=(Int×(List Int))) (ρ:=(List Int)) (fun s2 => if (decide (((List.length s2.2:Nat):Int)≤((List.length a0.2.2.2.1:Nat):Int)))=true then Option.bind (F12 a0 s2.1) fun v4 => if (((List.length v4:Nat):Int)==(0:Int))=true then done (j2_2 s2.2) else Option.bind (aA v4 (0:Int)) fun v5 => Option.bind (some ([v5]:List Int)) fun v6 => Option.bind (FY 8 s2.2 v6) fun v7 => turn (v5,v7) else done (j2_1 ())) (a1,([]:List Int))
def L68:Lib Go.Proofs.Try.prog:=L12.add pm 68 [t7,(.int .u64)] (.sl (.int .u64)) (fun st=>F68 st.1 st.2) [] [(1,[1,5],[],[],[],[])] [] au (fun _=>by kernel_rfl)
def F44 (a0:D7) (a1:Int):Option Bool := Option.bind (F68 a0 a1) fun v2 => Option.bind (if ((!(if (a1==a0.2.2.1)=true then (((List.length v2:Nat):Int)==(0:Int)) else false))&&((decide (((List.length v2:Nat):Int)>(0:Int)))&&true))=true then (aA v2 (IntKind.wrap .i64 (((List.length v2:Nat):Int) - (1:Int)))) else some (0:Int)) fun v3 => some ((if (if (a1==a0.2.2.1)=true then (((List.length v2:Nat):Int)==(0:Int)) else false)=true then true else (if (decide (((List.length v2:Nat):Int)>(0:Int)))=true then (v3==a0.2.2.1) else false)))
def L44:Lib Go.Proofs.Try.prog:=L68.add pm 44 [t7,(.int .u64)] .bool (fun st=>F44 st.1 st.2) [(44,2,[.calm (.range 26)])] [] [] au (fun _=>by kernel_rfl)
def F26 (a0:D7) (a1:D6):Option Bool := Option.bind (F12 a0 a1.1) fun v2 => if (a1.1==a0.2.2.1)=true then some ((if (if (((List.length v2:Nat):Int)==(0:Int))=true then (a1.2.1==(2:Int)) else false)=true then (decide (a1.2.2.2.1≤(1024:Int))) else false)) else zN ((if (decide (((List.length v2:Nat):Int)<(1:Int)))=true then true else (if (decide (((List.length v2:Nat):Int)>(1:Int)))=true then (if (if (!a1.2.2.2.2.1)=true then true else (a1.2.1==(2:Int)))=true then true else (a1.2.1==(4:Int))) else false))) fun v3 => if v3=true then some false else Option.bind (if ((!(a1.2.1 != (2:Int)))&&true)=true then (F44 a0 a1.1) else some false) fun v4 => some ((if (a1.2.1 != (2:Int))=true then true else v4))
def L26:Lib Go.Proofs.Try.prog:=L44.add pm 26 [t7,t6] .bool (fun st=>F26 st.1 st.2) [] [] [] au (fun _=>by kernel_rfl)
def F99 (a0:Int):Option Int := Option.bind (Bc .u64 a0 (30:Int)) fun v1 => Option.bind (Bc .u64 (IntKind.wrap .u64 ((Go.Ab.tZ .u64 a0 v1) * (13787848793156543929:Int))) (27:Int)) fun v2 => Option.bind (Bc .u64 (IntKind.wrap .u64 ((Go.Ab.tZ .u64 (IntKind.wrap .u64 ((Go.Ab.tZ .u64 a0 v1) * (13787848793156543929:Int))) v2) * (10723151780598845931:Int))) (31:Int)) fun v3 => some ((Go.Ab.tZ .u64 (IntKind.wrap .u64 ((Go.Ab.tZ .u64 (IntKind.wrap .u64 ((Go.Ab.tZ .u64 a0 v1) * (13787848793156543929:Int))) v2) * (10723151780598845931:Int))) v3))
def L99:Lib Go.Proofs.Try.prog:=L26.add pm 99 [(.int .u64)] (.int .u64) (fun st=>F99 st) [] [] [] au (fun _=>by kernel_rfl)
def F90 (a0:Int) (a1:Int) (a2:Int):Option Int := Option.bind (F99 (IntKind.wrap .u64 ((IntKind.wrap .u64 (a0+(IntKind.wrap .u64 (a2 * (11400714819323198485:Int)))))+(IntKind.wrap .u64 (a1 * (15111065706836454659:Int)))))) fun v3 => Option.bind (Bc .u64 v3 (20:Int)) fun v4 => some v4
def L90:Lib Go.Proofs.Try.prog:=L99.add pm 90 [(.int .u64),(.int .u64),(.int .u64)] (.int .u64) (fun st=>F90 st.1 st.2.1 st.2.2) [] [] [] au (fun _=>by kernel_rfl)
def F69 (a0:Int) (a1:Int):Option Int := Option.bind (Bc .u64 (Go.Ab.Nz .u64 (IntKind.wrap .u64 (a1 - (1:Int))) (2305843009213693951:Int)) (30:Int)) fun v2 => aO (σ:=(Int×Int)) (ρ:=Int) (fun s3 => Option.bind (NJ .u64 s3.1 (30:Int)) fun v5 => some ((IntKind.wrap .u64 (v5+s3.2)))) fun j3_1 => aH (σ:=(Int×(Int×Int))) (ρ:=Int) (fun s3 => if (decide (s3.2.2<(8:Int)))=true then Option.bind (abn (IntKind.wrap .u64 ((7:Int) - s3.2.2)) (2:Int)) fun v6 => aO (σ:=(Int×Int)) (ρ:=((Int×(Int×Int)) ⊕ Int)) (fun s7 => turn (s7.1,s7.2,(IntKind.wrap .u64 (s3.2.2+(1:Int))))) fun j7_3 => if (v6==(0:Int))=true then Option.bind (F90 a0 (IntKind.wrap .u64 ((7:Int) - s3.2.2)) s3.2.1) fun v7 => j7_3 ((Go.Ab.tZ .u64 s3.1 (Go.Ab.Nz .u64 v7 (2147483647:Int))),s3.2.1) else Option.bind (F90 a0 (IntKind.wrap .u64 ((7:Int) - s3.2.2)) s3.1) fun v7 => j7_3 (s3.1,(Go.Ab.tZ .u64 s3.2.1 (Go.Ab.Nz .u64 v7 (1073741823:Int)))) else done (j3_1 (s3.1,s3.2.1))) (v2,(Go.Ab.Nz .u64 (Go.Ab.Nz .u64 (IntKind.wrap .u64 (a1 - (1:Int))) (2305843009213693951:Int)) (1073741823:Int)),(0:Int))
def L69:Lib Go.Proofs.Try.prog:=L90.add pm 69 [(.int .u64),(.int .u64)] (.int .u64) (fun st=>F69 st.1 st.2) [] [(1,[5,6,7],[],[],[],[])] [] au (fun _=>by kernel_rfl)
def F45 (a0:Int) (a1:D2) (a2:Int):Option Bool := Option.bind (F69 a0 a2) fun v3 => some ((if (if (if (decide (a2≥(1:Int)))=true then (decide (a2≤(2305843009213693952:Int))) else false)=true then (decide (v3≥a1.1)) else false)=true then (decide (v3<a1.2.1)) else false))
def L45:Lib Go.Proofs.Try.prog:=L69.add pm 45 [(.int .u64),t2,(.int .u64)] .bool (fun st=>F45 st.1 st.2.1 st.2.2) [] [] [] au (fun _=>by kernel_rfl)
def F46 (a0:D2) (a1:D2):Option Bool := zN ((if (if (if (a0.1==a0.2.1)=true then true else (a1.1==a1.2.1))=true then true else (decide (a0.2.1≤a1.1)))=true then true else (decide (a1.2.1≤a0.1)))) fun v2 => some v2
def L46:Lib Go.Proofs.Try.prog:=L45.add pm 46 [t2,t2] .bool (fun st=>F46 st.1 st.2) [] [] [] au (fun _=>by kernel_rfl)
def F27 (a0:D7):Option Bool := aO (σ:=Unit) (ρ:=Bool) (fun s1 => some true) fun j1_1 => aO (σ:=(D6×D6)) (ρ:=Bool) (fun s1 => some false) fun j1_2 => aH (σ:=Int) (ρ:=Bool) (fun s1 => if (decide (s1<((List.length a0.2.2.2.1:Nat):Int)))=true then Option.bind (aA a0.2.2.2.1 s1) fun v2 => aO (σ:=Unit) (ρ:=(Int ⊕ Bool)) (fun s3 => turn (IntKind.wrap .i64 (s1+(1:Int)))) fun j3_4 => aO (σ:=D6) (ρ:=(Int ⊕ Bool)) (fun s3 => done (j1_2 (s3,v2))) fun j3_5 => aH (σ:=Int) (ρ:=(Int ⊕ Bool)) (fun s3 => if (if (decide (s3<((List.length a0.2.2.2.1:Nat):Int)))=true then (v2.2.1==(4:Int)) else false)=true then Option.bind (aA a0.2.2.2.1 s3) fun v4 => Option.bind (F45 a0.2.1 v2.2.2.2.2.2.2.2.2.1.2.2.2.2.2.2.2.2.2.1 v4.1) fun v5 => Option.bind (if ((!v5)&&((if (v4.2.1==(4:Int))=true then (s3 != s1) else false)&&true))=true then (F46 v2.2.2.2.2.2.2.2.2.1.2.2.2.2.2.2.2.2.2.1 v4.2.2.2.2.2.2.2.2.1.2.2.2.2.2.2.2.2.2.1) else some false) fun v6 => if (if v5=true then true else (if (if (v4.2.1==(4:Int))=true then (s3 != s1) else false)=true then (!v6) else false))=true then done (j3_5 v4) else turn (IntKind.wrap .i64 (s3+(1:Int))) else done (j3_4 ())) (0:Int) else done (j1_1 ())) (0:Int)
def L27:Lib Go.Proofs.Try.prog:=L46.add pm 27 [t7] .bool (fun st=>F27 st) [] [(1,[3],[],[],[],[]),(2,[5],[],[],[],[])] [] au (fun _=>by kernel_rfl)
def F10 (a0:D7):Option Bool := Option.bind (F11 a0 a0.2.2.1) fun v1 => Option.bind (F24 a0) fun v2 => if (if (!v2)=true then true else (!v1.2))=true then some false else aO (σ:=Unit) (ρ:=Bool) (fun s3 => Option.bind (F27 a0) fun v3 => some v3) fun j3_1 => aO (σ:=Unit) (ρ:=Bool) (fun s3 => some false) fun j3_2 => aH (σ:=Int) (ρ:=Bool) (fun s3 => if (decide (s3<((List.length a0.2.2.2.1:Nat):Int)))=true then Option.bind (aA a0.2.2.2.1 s3) fun v4 => Option.bind (F25 a0 v4) fun v5 => Option.bind (if ((!(!v5))&&true)=true then (aA a0.2.2.2.1 s3) else some (Ty.zero t6:D6)) fun v6 => Option.bind (if ((!(!v5))&&true)=true then (F26 a0 v6) else some false) fun v7 => if (if (!v5)=true then true else (!v7))=true then done (j3_2 ()) else turn (IntKind.wrap .i64 (s3+(1:Int))) else done (j3_1 ())) (0:Int)
def L10:Lib Go.Proofs.Try.prog:=L27.add pm 10 [t7] .bool (fun st=>F10 st) [(10,7,[.calm (.range 18)])] [(1,[5],[],[],[],[])] [] au (fun _=>by kernel_rfl)
def F6 (a0:D7):Option Bool := if (decide (((List.length a0.2.2.2.1:Nat):Int)>(20:Int)))=true then some false else aO (σ:=Unit) (ρ:=Bool) (fun s1 => Option.bind (F10 a0) fun v1 => some v1) fun j1_1 => aO (σ:=D6) (ρ:=Bool) (fun s1 => some false) fun j1_2 => aH (σ:=Int) (ρ:=Bool) (fun s1 => if (decide (s1<((List.length a0.2.2.2.1:Nat):Int)))=true then Option.bind (aA a0.2.2.2.1 s1) fun v2 => zN ((if (if (if (decide (((List.length v2.2.2.1:Nat):Int)>(20:Int)))=true then true else (decide (((List.length v2.2.2.2.2.2.1:Nat):Int)>(70:Int))))=true then true else (decide (((List.length v2.2.2.2.2.2.2.1:Nat):Int)>(300:Int))))=true then true else (decide (((List.length v2.2.2.2.2.2.2.2.1:Nat):Int)>(20:Int))))) fun v3 => if v3=true then done (j1_2 v2) else turn (IntKind.wrap .i64 (s1+(1:Int))) else done (j1_1 ())) (0:Int)
def L6:Lib Go.Proofs.Try.prog:=L10.add pm 6 [t7] .bool (fun st=>F6 st) [] [(1,[12],[],[],[],[])] [] au (fun _=>by kernel_rfl)
def F48 (a0:D6):Option Int := some a0.1
def L48:Lib Go.Proofs.Try.prog:=L6.add pm 48 [t6] (.int .u64) (fun st=>F48 st) [] [] [] au (fun _=>by kernel_rfl)
abbrev t8:Ty:=.st (.prod (.sl t6) (.prod (.cst (.fnc 48)) .unit))
abbrev D8:Type:=((List D6)×(Unit×Unit))
abbrev t9:Ty:=.st (.prod (.sl t6) (.prod (.cst .nilf) .unit))
abbrev D9:Type:=((List D6)×(Unit×Unit))
abbrev yV (x:D9) (y:(List D6)):D9:=(y,x.2)
abbrev yX (x:D9) (y:Unit):D8:=(x.1,(y,x.2.2))
def F35 (a0:D7):Option D8 := some ((yX (yV (Ty.zero t9:D9) a0.2.2.2.1) ()))
def L35:Lib Go.Proofs.Try.prog:=L48.add pm 35 [t7] t8 (fun st=>F35 st) [] [] [] au (fun _=>by kernel_rfl)
def F52 (a0:Int):Option Bool := some ((a0 != a0))
def L52:Lib Go.Proofs.Try.prog:=L35.add pm 52 [(.int .u64)] .bool (fun st=>F52 st) [] [] [] au (fun _=>by kernel_rfl)
def F51 (a0:Int) (a1:Int):Option Int := Option.bind (F52 a0) fun v2 => Option.bind (F52 a1) fun v3 => aO (σ:=Int) (ρ:=Int) (fun s4 => some s4) fun j4_1 => if v2=true then if v3=true then j4_1 (0:Int) else j4_1 (-1:Int) else if v3=true then some ((1:Int)) else if (decide (a0<a1))=true then some ((-1:Int)) else if (decide (a0>a1))=true then some ((1:Int)) else some ((0:Int))
def L51:Lib Go.Proofs.Try.prog:=L52.add pm 51 [(.int .u64),(.int .u64)] (.int .i64) (fun st=>F51 st.1 st.2) [] [] [] au (fun _=>by kernel_rfl)
def F15 (a0:D7) (a1:Int):Option (D6×Bool) := Option.bind (F35 a0) fun v2 => aO (σ:=(Int×Bool)) (ρ:=(D6×Bool)) (fun s3 => if (!s3.2)=true then some (((Ty.zero t6:D6),false)) else Option.bind (aA a0.2.2.2.1 s3.1) fun v5 => some ((v5,true))) fun j3_1 => aO (σ:=Int) (ρ:=(D6×Bool)) (fun s3 => Option.bind (if ((decide (s3<((List.length v2.1:Nat):Int)))&&true)=true then (aA v2.1 s3) else some (Ty.zero t6:D6)) fun v4 => if (decide (s3<((List.length v2.1:Nat):Int)))=true then Option.bind (F48 v4) fun v5 => Option.bind (F51 v5 a1) fun v6 => j3_1 (s3,(v6==(0:Int))) else j3_1 (s3,false)) fun j3_2 => aH (σ:=(Int×Int)) (ρ:=(D6×Bool)) (fun s3 => if (decide (s3.1<s3.2))=true then Option.bind (Bc .u64 (IntKind.wrap .u64 (IntKind.wrap .i64 (s3.1+s3.2))) (1:Int)) fun v5 => Option.bind (aA v2.1 (IntKind.wrap .i64 v5)) fun v6 => Option.bind (F48 v6) fun v7 => Option.bind (F51 v7 a1) fun v8 => aO (σ:=(Int×Int)) (ρ:=((Int×Int) ⊕ (D6×Bool))) (fun s9 => turn (s9.1,s9.2)) fun j9_4 => if (decide (v8<(0:Int)))=true then j9_4 ((IntKind.wrap .i64 ((IntKind.wrap .i64 v5)+(1:Int))),s3.2) else j9_4 (s3.1,(IntKind.wrap .i64 v5)) else done (j3_2 s3.1)) ((0:Int),((List.length v2.1:Nat):Int))
def L15:Lib Go.Proofs.Try.prog:=L51.add pm 15 [t7,(.int .u64)] (.prod t6 .bool) (fun st=>F15 st.1 st.2) [] [(3,[9,10],[],[],[],[])] [] au (fun _=>by kernel_rfl)
def F37 (a0:Int) (a1:Int):Option Bool := Option.bind (F52 a0) fun v2 => Option.bind (if (v2&&true)=true then (F52 a1) else some false) fun v3 => some ((if (if v2=true then (!v3) else false)=true then true else (decide (a0<a1))))
def L37:Lib Go.Proofs.Try.prog:=L15.add pm 37 [(.int .u64),(.int .u64)] .bool (fun st=>F37 st.1 st.2) [] [] [] au (fun _=>by kernel_rfl)
def F38 (a0:Int):Option Bool := some ((a0 != a0))
def L38:Lib Go.Proofs.Try.prog:=L37.add pm 38 [(.int .u64)] .bool (fun st=>F38 st) [] [] [] au (fun _=>by kernel_rfl)
def F16 (a0:(List Int)) (a1:Int):Option (Int×Bool) := aO (σ:=Int) (ρ:=(Int×Bool)) (fun s2 => Option.bind (if ((decide (s2<((List.length a0:Nat):Int)))&&true)=true then (aA a0 s2) else some (0:Int)) fun v3 => Option.bind (if ((decide (s2<((List.length a0:Nat):Int)))&&((!(v3==a1))&&true))=true then (aA a0 s2) else some (0:Int)) fun v4 => Option.bind (if ((decide (s2<((List.length a0:Nat):Int)))&&((!(v3==a1))&&true))=true then (F38 v4) else some false) fun v5 => Option.bind (if ((decide (s2<((List.length a0:Nat):Int)))&&((!(v3==a1))&&(v5&&true)))=true then (F38 a1) else some false) fun v6 => some ((s2,(if (decide (s2<((List.length a0:Nat):Int)))=true then (if (v3==a1)=true then true else (if v5=true then v6 else false)) else false)))) fun j2_1 => aH (σ:=(Int×Int)) (ρ:=(Int×Bool)) (fun s2 => if (decide (s2.1<s2.2))=true then Option.bind (Bc .u64 (IntKind.wrap .u64 (IntKind.wrap .i64 (s2.1+s2.2))) (1:Int)) fun v4 => Option.bind (aA a0 (IntKind.wrap .i64 v4)) fun v5 => Option.bind (F37 v5 a1) fun v6 => aO (σ:=(Int×Int)) (ρ:=((Int×Int) ⊕ (Int×Bool))) (fun s7 => turn (s7.1,s7.2)) fun j7_3 => if v6=true then j7_3 ((IntKind.wrap .i64 ((IntKind.wrap .i64 v4)+(1:Int))),s2.2) else j7_3 (s2.1,(IntKind.wrap .i64 v4)) else done (j2_1 s2.1)) ((0:Int),((List.length a0:Nat):Int))
def L16:Lib Go.Proofs.Try.prog:=L38.add pm 16 [(.sl (.int .u64)),(.int .u64)] (.prod (.int .i64) .bool) (fun st=>F16 st.1 st.2) [] [(1,[7,8],[],[],[],[])] [] au (fun _=>by kernel_rfl)
abbrev bn (x:D7) (y:(List D6)):D7:=(x.1,(x.2.1,(x.2.2.1,(y,x.2.2.2.2))))
def F20 (a0:D7) (a1:D6):Option D7 := Option.bind (F35 a0) fun v2 => aO (σ:=(List D6)) (ρ:=D7) (fun s3 => aO (σ:=D7) (ρ:=D7) (fun s4 => some s4) fun j4_1 => if (decide (((List.length s3:Nat):Int)≤(1024:Int)))=true then j4_1 (bn a0 s3) else j4_1 a0) fun j3_1 => Option.bind (F48 a1) fun v3 => aO (σ:=(Int×Bool)) (ρ:=D7) (fun s4 => Option.bind (FY 632 ([]:List D6) v2.1) fun v6 => if s4.2=true then Option.bind (aA v6 s4.1) fun v7 => Option.bind (eF v6 s4.1 a1) fun v8 => j3_1 v8 else Option.bind (some ([a1]:List D6)) fun v7 => Option.bind (abo 632 v6 s4.1 v7) fun v8 => j3_1 v8) fun j4_2 => aO (σ:=Int) (ρ:=D7) (fun s4 => Option.bind (if ((decide (s4<((List.length v2.1:Nat):Int)))&&true)=true then (aA v2.1 s4) else some (Ty.zero t6:D6)) fun v5 => if (decide (s4<((List.length v2.1:Nat):Int)))=true then Option.bind (F48 v5) fun v6 => Option.bind (F51 v6 v3) fun v7 => j4_2 (s4,(v7==(0:Int))) else j4_2 (s4,false)) fun j4_3 => aH (σ:=(Int×Int)) (ρ:=D7) (fun s4 => if (decide (s4.1<s4.2))=true then Option.bind (Bc .u64 (IntKind.wrap .u64 (IntKind.wrap .i64 (s4.1+s4.2))) (1:Int)) fun v6 => Option.bind (aA v2.1 (IntKind.wrap .i64 v6)) fun v7 => Option.bind (F48 v7) fun v8 => Option.bind (F51 v8 v3) fun v9 => aO (σ:=(Int×Int)) (ρ:=((Int×Int) ⊕ D7)) (fun s10 => turn (s10.1,s10.2)) fun j10_5 => if (decide (v9<(0:Int)))=true then j10_5 ((IntKind.wrap .i64 ((IntKind.wrap .i64 v6)+(1:Int))),s4.2) else j10_5 (s4.1,(IntKind.wrap .i64 v6)) else done (j4_3 s4.1)) ((0:Int),((List.length v2.1:Nat):Int))
def L20:Lib Go.Proofs.Try.prog:=L16.add pm 20 [t7,t6] t7 (fun st=>F20 st.1 st.2) [(100,3,[.calm (.range 16)]),(54,11,[.calm (.range 8),.bar 8]),(54,15,[.calm (.range 8),.bar 8]),(39,1,[.calm [0,1,2,3,4],.bar 5,.calm [6,7,8,9,10]]),(20,1,[.calm [0,1,2],.bar 3,.calm [4]])] [(4,[9,10],[],[],[],[])] [(53,.clo 23 49),(54,.ins 23 49 3)] (aJ (Go.InsK.U1) (aJ (Go.InsK.U0) au)) (fun _=>by kernel_rfl)
def F80 (a0:Int):Option Int := aO (σ:=(Int×Int)) (ρ:=Int) (fun s1 => aO (σ:=(Int×Int)) (ρ:=Int) (fun s3 => Option.bind (ZV (ByteArray.mk #[0,1,2,2,3,3,3,3,4,4,4,4,4,4,4,4,5,5,5,5,5,5,5,5,5,5,5,5,5,5,5,5,6,6,6,6,6,6,6,6,6,6,6,6,6,6,6,6,6,6,6,6,6,6,6,6,6,6,6,6,6,6,6,6,7,7,7,7,7,7,7,7,7,7,7,7,7,7,7,7,7,7,7,7,7,7,7,7,7,7,7,7,7,7,7,7,7,7,7,7,7,7,7,7,7,7,7,7,7,7,7,7,7,7,7,7,7,7,7,7,7,7,7,7,7,7,7,7,8,8,8,8,8,8,8,8,8,8,8,8,8,8,8,8,8,8,8,8,8,8,8,8,8,8,8,8,8,8,8,8,8,8,8,8,8,8,8,8,8,8,8,8,8,8,8,8,8,8,8,8,8,8,8,8,8,8,8,8,8,8,8,8,8,8,8,8,8,8,8,8,8,8,8,8,8,8,8,8,8,8,8,8,8,8,8,8,8,8,8,8,8,8,8,8,8,8,8,8,8,8,8,8,8,8,8,8,8,8,8,8,8,8,8,8,8,8,8,8,8,8,8,8,8,8,8,8]) (IntKind.wrap .u8 s3.1)) fun v5 => some ((IntKind.wrap .i64 (s3.2+(IntKind.wrap .i64 v5))))) fun j3_1 => if (decide (s1.1≥(256:Int)))=true then Option.bind (Bc .u32 s1.1 (8:Int)) fun v3 => j3_1 (v3,(IntKind.wrap .i64 (s1.2+(8:Int)))) else j3_1 (s1.1,s1.2)) fun j1_1 => if (decide (a0≥(65536:Int)))=true then Option.bind (Bc .u32 a0 (16:Int)) fun v1 => j1_1 (v1,(16:Int)) else j1_1 (a0,(0:Int))
def L80:Lib Go.Proofs.Try.prog:=L20.add pm 80 [(.int .u32)] (.int .i64) (fun st=>F80 st) [] [] [] au (fun _=>by kernel_rfl)
def F81 (a0:Int):Option Int := aO (σ:=(Int×Int)) (ρ:=Int) (fun s1 => aO (σ:=(Int×Int)) (ρ:=Int) (fun s3 => aO (σ:=(Int×Int)) (ρ:=Int) (fun s5 => Option.bind (ZV (ByteArray.mk #[0,1,2,2,3,3,3,3,4,4,4,4,4,4,4,4,5,5,5,5,5,5,5,5,5,5,5,5,5,5,5,5,6,6,6,6,6,6,6,6,6,6,6,6,6,6,6,6,6,6,6,6,6,6,6,6,6,6,6,6,6,6,6,6,7,7,7,7,7,7,7,7,7,7,7,7,7,7,7,7,7,7,7,7,7,7,7,7,7,7,7,7,7,7,7,7,7,7,7,7,7,7,7,7,7,7,7,7,7,7,7,7,7,7,7,7,7,7,7,7,7,7,7,7,7,7,7,7,8,8,8,8,8,8,8,8,8,8,8,8,8,8,8,8,8,8,8,8,8,8,8,8,8,8,8,8,8,8,8,8,8,8,8,8,8,8,8,8,8,8,8,8,8,8,8,8,8,8,8,8,8,8,8,8,8,8,8,8,8,8,8,8,8,8,8,8,8,8,8,8,8,8,8,8,8,8,8,8,8,8,8,8,8,8,8,8,8,8,8,8,8,8,8,8,8,8,8,8,8,8,8,8,8,8,8,8,8,8,8,8,8,8,8,8,8,8,8,8,8,8,8,8,8,8,8,8]) (IntKind.wrap .u8 s5.1)) fun v7 => some ((IntKind.wrap .i64 (s5.2+(IntKind.wrap .i64 v7))))) fun j5_1 => if (decide (s3.1≥(256:Int)))=true then Option.bind (Bc .u64 s3.1 (8:Int)) fun v5 => j5_1 (v5,(IntKind.wrap .i64 (s3.2+(8:Int)))) else j5_1 (s3.1,s3.2)) fun j3_1 => if (decide (s1.1≥(65536:Int)))=true then Option.bind (Bc .u64 s1.1 (16:Int)) fun v3 => j3_1 (v3,(IntKind.wrap .i64 (s1.2+(16:Int)))) else j3_1 (s1.1,s1.2)) fun j1_1 => if (decide (a0≥(4294967296:Int)))=true then Option.bind (Bc .u64 a0 (32:Int)) fun v1 => j1_1 (v1,(32:Int)) else j1_1 (a0,(0:Int))
def L81:Lib Go.Proofs.Try.prog:=L80.add pm 81 [(.int .u64)] (.int .i64) (fun st=>F81 st) [] [] [] au (fun _=>by kernel_rfl)
def F56 (a0:Int):Option Int := Option.bind (F81 a0) fun v1 => some v1
def L56:Lib Go.Proofs.Try.prog:=L81.add pm 56 [(.int .u64)] (.int .i64) (fun st=>F56 st) [] [] [] au (fun _=>by kernel_rfl)
def F72 (a0:(List Int)) (a1:Int) (a2:Int):Option ((List Int)×Unit) := aO (σ:=(List Int)) (ρ:=((List Int)×Unit)) (fun s3 => some ((s3,()))) fun j3_1 => aH (σ:=(Int×(List Int))) (ρ:=((List Int)×Unit)) (fun s3 => if (decide (s3.1<a2))=true then aO (σ:=(List Int)) (ρ:=((Int×(List Int)) ⊕ ((List Int)×Unit))) (fun s5 => turn ((IntKind.wrap .i64 (s3.1+(1:Int))),s5)) fun j5_3 => aH (σ:=(Int×(List Int))) (ρ:=((Int×(List Int)) ⊕ ((List Int)×Unit))) (fun s5 => Option.bind (if ((decide (s5.1>a1))&&true)=true then (aA s5.2 s5.1) else some (0:Int)) fun v7 => Option.bind (if ((decide (s5.1>a1))&&true)=true then (aA s5.2 s5.1) else some (0:Int)) fun v8 => Option.bind (if ((decide (s5.1>a1))&&true)=true then (aA s5.2 (IntKind.wrap .i64 (s5.1 - (1:Int)))) else some (0:Int)) fun v9 => Option.bind (if ((decide (s5.1>a1))&&true)=true then (aA s5.2 (IntKind.wrap .i64 (s5.1 - (1:Int)))) else some (0:Int)) fun v10 => Option.bind (if ((decide (s5.1>a1))&&true)=true then (F37 v8 v10) else some false) fun v11 => if (if (decide (s5.1>a1))=true then v11 else false)=true then Option.bind (aA s5.2 (IntKind.wrap .i64 (s5.1 - (1:Int)))) fun v12 => Option.bind (aA s5.2 (IntKind.wrap .i64 (s5.1 - (1:Int)))) fun v13 => Option.bind (aA s5.2 s5.1) fun v14 => Option.bind (aA s5.2 s5.1) fun v15 => Option.bind (aA s5.2 s5.1) fun v16 => Option.bind (eF s5.2 s5.1 v13) fun v17 => Option.bind (aA v17 (IntKind.wrap .i64 (s5.1 - (1:Int)))) fun v18 => Option.bind (eF v17 (IntKind.wrap .i64 (s5.1 - (1:Int))) v15) fun v19 => turn ((IntKind.wrap .i64 (s5.1 - (1:Int))),v19) else done (j5_3 s5.2)) (s3.1,s3.2) else done (j3_1 s3.2)) ((IntKind.wrap .i64 (a1+(1:Int))),a0)
def L72:Lib Go.Proofs.Try.prog:=L56.turn pm 72 (.int .u64) [(.int .i64),(.int .i64)] .unit (fun st=>F72 st.1 st.2.1 st.2.2) [(72,4,[.calm (.range 15)]),(72,6,[.calm (.range 18)])] [(1,[6],[[987654]],[],[],[]),(2,[7],[[987654]],[],[],[])] [] au (fun _=>by kernel_rfl)
def F92 (a0:(List Int)) (a1:Int) (a2:Int) (a3:Int):Option ((List Int)×Unit) := aO (σ:=(List Int)) (ρ:=((List Int)×Unit)) (fun s4 => some ((s4,()))) fun j4_1 => aO (σ:=(List Int)) (ρ:=((List Int)×Unit)) (fun s4 => some ((s4,()))) fun j4_2 => aH (σ:=(Int×(List Int))) (ρ:=((List Int)×Unit)) (fun s4 => if (decide ((IntKind.wrap .i64 ((IntKind.wrap .i64 ((2:Int) * s4.1))+(1:Int)))≥a2))=true then done (j4_2 s4.2) else Option.bind (if ((decide ((IntKind.wrap .i64 ((IntKind.wrap .i64 ((IntKind.wrap .i64 ((2:Int) * s4.1))+(1:Int)))+(1:Int)))<a2))&&true)=true then (aA s4.2 (IntKind.wrap .i64 (a3+(IntKind.wrap .i64 ((IntKind.wrap .i64 ((2:Int) * s4.1))+(1:Int)))))) else some (0:Int)) fun v6 => Option.bind (if ((decide ((IntKind.wrap .i64 ((IntKind.wrap .i64 ((IntKind.wrap .i64 ((2:Int) * s4.1))+(1:Int)))+(1:Int)))<a2))&&true)=true then (aA s4.2 (IntKind.wrap .i64 (a3+(IntKind.wrap .i64 ((IntKind.wrap .i64 ((2:Int) * s4.1))+(1:Int)))))) else some (0:Int)) fun v7 => Option.bind (if ((decide ((IntKind.wrap .i64 ((IntKind.wrap .i64 ((IntKind.wrap .i64 ((2:Int) * s4.1))+(1:Int)))+(1:Int)))<a2))&&true)=true then (aA s4.2 (IntKind.wrap .i64 ((IntKind.wrap .i64 (a3+(IntKind.wrap .i64 ((IntKind.wrap .i64 ((2:Int) * s4.1))+(1:Int)))))+(1:Int)))) else some (0:Int)) fun v8 => Option.bind (if ((decide ((IntKind.wrap .i64 ((IntKind.wrap .i64 ((IntKind.wrap .i64 ((2:Int) * s4.1))+(1:Int)))+(1:Int)))<a2))&&true)=true then (aA s4.2 (IntKind.wrap .i64 ((IntKind.wrap .i64 (a3+(IntKind.wrap .i64 ((IntKind.wrap .i64 ((2:Int) * s4.1))+(1:Int)))))+(1:Int)))) else some (0:Int)) fun v9 => Option.bind (if ((decide ((IntKind.wrap .i64 ((IntKind.wrap .i64 ((IntKind.wrap .i64 ((2:Int) * s4.1))+(1:Int)))+(1:Int)))<a2))&&true)=true then (F37 v7 v9) else some false) fun v10 => aO (σ:=Int) (ρ:=((Int×(List Int)) ⊕ ((List Int)×Unit))) (fun s11 => Option.bind (aA s4.2 (IntKind.wrap .i64 (a3+s4.1))) fun v12 => Option.bind (aA s4.2 (IntKind.wrap .i64 (a3+s4.1))) fun v13 => Option.bind (aA s4.2 (IntKind.wrap .i64 (a3+s11))) fun v14 => Option.bind (aA s4.2 (IntKind.wrap .i64 (a3+s11))) fun v15 => Option.bind (F37 v13 v15) fun v16 => if (!v16)=true then done (j4_1 s4.2) else Option.bind (aA s4.2 (IntKind.wrap .i64 (a3+s11))) fun v17 => Option.bind (aA s4.2 (IntKind.wrap .i64 (a3+s11))) fun v18 => Option.bind (aA s4.2 (IntKind.wrap .i64 (a3+s4.1))) fun v19 => Option.bind (aA s4.2 (IntKind.wrap .i64 (a3+s4.1))) fun v20 => Option.bind (aA s4.2 (IntKind.wrap .i64 (a3+s4.1))) fun v21 => Option.bind (eF s4.2 (IntKind.wrap .i64 (a3+s4.1)) v18) fun v22 => Option.bind (aA v22 (IntKind.wrap .i64 (a3+s11))) fun v23 => Option.bind (eF v22 (IntKind.wrap .i64 (a3+s11)) v20) fun v24 => turn (s11,v24)) fun j11_4 => if (if (decide ((IntKind.wrap .i64 ((IntKind.wrap .i64 ((IntKind.wrap .i64 ((2:Int) * s4.1))+(1:Int)))+(1:Int)))<a2))=true then v10 else false)=true then j11_4 (IntKind.wrap .i64 ((IntKind.wrap .i64 ((IntKind.wrap .i64 ((2:Int) * s4.1))+(1:Int)))+(1:Int))) else j11_4 (IntKind.wrap .i64 ((IntKind.wrap .i64 ((2:Int) * s4.1))+(1:Int)))) (a1,a0)
def L92:Lib Go.Proofs.Try.prog:=L72.turn pm 92 (.int .u64) [(.int .i64),(.int .i64),(.int .i64)] .unit (fun st=>F92 st.1 st.2.1 st.2.2.1 st.2.2.2) [(92,3,[.calm (.range 20)]),(92,5,[.calm (.range 14)]),(92,6,[.calm (.range 24)])] [(1,[8],[[987654]],[],[],[])] [] au (fun _=>by kernel_rfl)
def F73 (a0:(List Int)) (a1:Int) (a2:Int):Option ((List Int)×Unit) := Option.bind (Ej .i64 (IntKind.wrap .i64 ((IntKind.wrap .i64 (a2 - a1)) - (1:Int))) (2:Int)) fun v3 => aO (σ:=(List Int)) (ρ:=((List Int)×Unit)) (fun s4 => aO (σ:=(List Int)) (ρ:=((List Int)×Unit)) (fun s5 => some ((s5,()))) fun j5_1 => aH (σ:=(Int×(List Int))) (ρ:=((List Int)×Unit)) (fun s5 => if (decide (s5.1≥(0:Int)))=true then Option.bind (aA s5.2 (IntKind.wrap .i64 (a1+s5.1))) fun v7 => Option.bind (aA s5.2 (IntKind.wrap .i64 (a1+s5.1))) fun v8 => Option.bind (aA s5.2 a1) fun v9 => Option.bind (aA s5.2 a1) fun v10 => Option.bind (aA s5.2 a1) fun v11 => Option.bind (eF s5.2 a1 v8) fun v12 => Option.bind (aA v12 (IntKind.wrap .i64 (a1+s5.1))) fun v13 => Option.bind (eF v12 (IntKind.wrap .i64 (a1+s5.1)) v10) fun v14 => Option.bind (F92 v14 (0:Int) s5.1 a1) fun v15 => turn ((IntKind.wrap .i64 (s5.1 - (1:Int))),v15.1) else done (j5_1 s5.2)) ((IntKind.wrap .i64 ((IntKind.wrap .i64 (a2 - a1)) - (1:Int))),s4)) fun j4_1 => aH (σ:=(Int×(List Int))) (ρ:=((List Int)×Unit)) (fun s4 => if (decide (s4.1≥(0:Int)))=true then Option.bind (F92 s4.2 s4.1 (IntKind.wrap .i64 (a2 - a1)) a1) fun v6 => turn ((IntKind.wrap .i64 (s4.1 - (1:Int))),v6.1) else done (j4_1 s4.2)) (v3,a0)
def L73:Lib Go.Proofs.Try.prog:=L92.turn pm 73 (.int .u64) [(.int .i64),(.int .i64)] .unit (fun st=>F73 st.1 st.2.1 st.2.2) [(73,10,[.calm (.range 20)])] [(1,[9],[[987654]],[],[],[]),(2,[10],[[987654]],[],[],[])] [(92,.turn 92 (.int .u64) [(.int .i64),(.int .i64),(.int .i64)] .unit)] (aJ rfl au) (fun _=>by kernel_rfl)
def F93 (a0:Int):Option Int := Option.bind (F56 (IntKind.wrap .u64 a0)) fun v1 => Option.bind (NJ .u64 (1:Int) v1) fun v2 => some v2
def L93:Lib Go.Proofs.Try.prog:=L73.add pm 93 [(.int .i64)] (.int .u64) (fun st=>F93 st) [] [] [] au (fun _=>by kernel_rfl)
def F74 (a0:(List Int)) (a1:Int) (a2:Int):Option ((List Int)×Unit) := aO (σ:=(List Int)) (ρ:=((List Int)×Unit)) (fun s3 => some ((s3,()))) fun j3_1 => if (decide ((IntKind.wrap .i64 (a2 - a1))≥(8:Int)))=true then Option.bind (F93 (IntKind.wrap .i64 (a2 - a1))) fun v3 => Option.bind (Ej .i64 (IntKind.wrap .i64 (a2 - a1)) (4:Int)) fun v4 => aO (σ:=(Int×(List Int))) (ρ:=((List Int)×Unit)) (fun s5 => j3_1 s5.2) fun j5_2 => aH (σ:=(Int×(Int×(List Int)))) (ρ:=((List Int)×Unit)) (fun s5 => Option.bind (Ej .i64 (IntKind.wrap .i64 (a2 - a1)) (4:Int)) fun v8 => if (decide (s5.1≤(IntKind.wrap .i64 ((IntKind.wrap .i64 (a1+(IntKind.wrap .i64 (v8 * (2:Int)))))+(1:Int)))))=true then Option.bind (NJ .u64 s5.2.1 (13:Int)) fun v9 => Option.bind (Bc .u64 (Go.Ab.tZ .u64 s5.2.1 v9) (7:Int)) fun v10 => Option.bind (NJ .u64 (Go.Ab.tZ .u64 (Go.Ab.tZ .u64 s5.2.1 v9) v10) (17:Int)) fun v11 => aO (σ:=Int) (ρ:=((Int×(Int×(List Int))) ⊕ ((List Int)×Unit))) (fun s12 => Option.bind (aA s5.2.2 (IntKind.wrap .i64 (a1+s12))) fun v13 => Option.bind (aA s5.2.2 (IntKind.wrap .i64 (a1+s12))) fun v14 => Option.bind (aA s5.2.2 s5.1) fun v15 => Option.bind (aA s5.2.2 s5.1) fun v16 => Option.bind (aA s5.2.2 s5.1) fun v17 => Option.bind (eF s5.2.2 s5.1 v14) fun v18 => Option.bind (aA v18 (IntKind.wrap .i64 (a1+s12))) fun v19 => Option.bind (eF v18 (IntKind.wrap .i64 (a1+s12)) v16) fun v20 => turn ((IntKind.wrap .i64 (s5.1+(1:Int))),(Go.Ab.tZ .u64 (Go.Ab.tZ .u64 (Go.Ab.tZ .u64 s5.2.1 v9) v10) v11),v20)) fun j12_4 => if (decide ((IntKind.wrap .i64 (Go.Ab.Nz .u64 (Go.Ab.tZ .u64 (Go.Ab.tZ .u64 (Go.Ab.tZ .u64 s5.2.1 v9) v10) v11) (IntKind.wrap .u64 (v3 - (1:Int)))))≥(IntKind.wrap .i64 (a2 - a1))))=true then j12_4 (IntKind.wrap .i64 ((IntKind.wrap .i64 (Go.Ab.Nz .u64 (Go.Ab.tZ .u64 (Go.Ab.tZ .u64 (Go.Ab.tZ .u64 s5.2.1 v9) v10) v11) (IntKind.wrap .u64 (v3 - (1:Int))))) - (IntKind.wrap .i64 (a2 - a1)))) else j12_4 (IntKind.wrap .i64 (Go.Ab.Nz .u64 (Go.Ab.tZ .u64 (Go.Ab.tZ .u64 (Go.Ab.tZ .u64 s5.2.1 v9) v10) v11) (IntKind.wrap .u64 (v3 - (1:Int))))) else done (j5_2 (s5.2.1,s5.2.2))) ((IntKind.wrap .i64 ((IntKind.wrap .i64 (a1+(IntKind.wrap .i64 (v4 * (2:Int))))) - (1:Int))),(IntKind.wrap .u64 (IntKind.wrap .i64 (a2 - a1))),a0) else j3_1 a0
def L74:Lib Go.Proofs.Try.prog:=L93.turn pm 74 (.int .u64) [(.int .i64),(.int .i64)] .unit (fun st=>F74 st.1 st.2.1 st.2.2) [(94,1,[.calm (.range 9),.bar 9]),(94,2,[.calm (.range 9),.bar 9]),(94,3,[.calm (.range 9),.bar 9]),(74,10,[.calm (.range 20)])] [(1,[9],[[7,0],[987654]],[],[],[])] [] au (fun _=>by kernel_rfl)
def F75 (a0:(List Int)) (a1:Int) (a2:Int):Option ((List Int)×(Int×Int)) := Option.bind (Ej .i64 (IntKind.wrap .i64 (a2 - a1)) (4:Int)) fun v3 => Option.bind (Ej .i64 (IntKind.wrap .i64 (a2 - a1)) (4:Int)) fun v4 => Option.bind (Ej .i64 (IntKind.wrap .i64 (a2 - a1)) (4:Int)) fun v5 => aO (σ:=(Int×Int)) (ρ:=((List Int)×(Int×Int))) (fun s6 => aO (σ:=Int) (ρ:=((List Int)×(Int×Int))) (fun s8 => some ((a0,(s6.1,s8)))) fun j8_1 => if (s6.2==(0:Int))=true then j8_1 (1:Int) else aO (σ:=Int) (ρ:=((List Int)×(Int×Int))) (fun s8 => j8_1 s8) fun j8_2 => if (s6.2==(12:Int))=true then j8_2 (2:Int) else j8_2 (0:Int)) fun j6_1 => if (decide ((IntKind.wrap .i64 (a2 - a1))≥(8:Int)))=true then aO (σ:=(Int×(Int×(Int×Int)))) (ρ:=((List Int)×(Int×Int))) (fun s6 => aO (σ:=(Int×(Int×Int))) (ρ:=((List Int)×(Int×Int))) (fun s10 => aO (σ:=(Int×(Int×Int))) (ρ:=((List Int)×(Int×Int))) (fun s13 => aO (σ:=(Int×(Int×Int))) (ρ:=((List Int)×(Int×Int))) (fun s16 => j6_1 (s16.2.1,s16.2.2)) fun j16_2 => Option.bind (aA a0 s13.1) fun v16 => Option.bind (aA a0 s13.1) fun v17 => Option.bind (aA a0 s10.1) fun v18 => Option.bind (aA a0 s10.1) fun v19 => Option.bind (F37 v17 v19) fun v20 => if v20=true then j16_2 (s13.1,s10.1,(IntKind.wrap .i64 (s13.2.2+(1:Int)))) else j16_2 (s10.1,s13.1,s13.2.2)) fun j13_2 => Option.bind (aA a0 s6.2.2.1) fun v13 => Option.bind (aA a0 s6.2.2.1) fun v14 => Option.bind (aA a0 s10.2.1) fun v15 => Option.bind (aA a0 s10.2.1) fun v16 => Option.bind (F37 v14 v16) fun v17 => if v17=true then j13_2 (s6.2.2.1,s10.2.1,(IntKind.wrap .i64 (s10.2.2+(1:Int)))) else j13_2 (s10.2.1,s6.2.2.1,s10.2.2)) fun j10_2 => Option.bind (aA a0 s6.2.1) fun v10 => Option.bind (aA a0 s6.2.1) fun v11 => Option.bind (aA a0 s6.1) fun v12 => Option.bind (aA a0 s6.1) fun v13 => Option.bind (F37 v11 v13) fun v14 => if v14=true then j10_2 (s6.2.1,s6.1,(IntKind.wrap .i64 (s6.2.2.2+(1:Int)))) else j10_2 (s6.1,s6.2.1,s6.2.2.2)) fun j6_2 => if (decide ((IntKind.wrap .i64 (a2 - a1))≥(50:Int)))=true then aO (σ:=(Int×(Int×Int))) (ρ:=((List Int)×(Int×Int))) (fun s6 => aO (σ:=(Int×(Int×Int))) (ρ:=((List Int)×(Int×Int))) (fun s9 => aO (σ:=(Int×(Int×Int))) (ρ:=((List Int)×(Int×Int))) (fun s12 => aO (σ:=(Int×(Int×Int))) (ρ:=((List Int)×(Int×Int))) (fun s15 => aO (σ:=(Int×(Int×Int))) (ρ:=((List Int)×(Int×Int))) (fun s18 => aO (σ:=(Int×(Int×Int))) (ρ:=((List Int)×(Int×Int))) (fun s21 => aO (σ:=(Int×(Int×Int))) (ρ:=((List Int)×(Int×Int))) (fun s24 => aO (σ:=(Int×(Int×Int))) (ρ:=((List Int)×(Int×Int))) (fun s27 => aO (σ:=(Int×(Int×Int))) (ρ:=((List Int)×(Int×Int))) (fun s30 => j6_2 (s12.2.1,s21.2.1,s30.2.1,s30.2.2)) fun j30_3 => Option.bind (aA a0 s27.1) fun v30 => Option.bind (aA a0 s27.1) fun v31 => Option.bind (aA a0 s24.1) fun v32 => Option.bind (aA a0 s24.1) fun v33 => Option.bind (F37 v31 v33) fun v34 => if v34=true then j30_3 (s27.1,s24.1,(IntKind.wrap .i64 (s27.2.2+(1:Int)))) else j30_3 (s24.1,s27.1,s27.2.2)) fun j27_3 => Option.bind (aA a0 (IntKind.wrap .i64 ((IntKind.wrap .i64 (a1+(IntKind.wrap .i64 (v5 * (3:Int)))))+(1:Int)))) fun v27 => Option.bind (aA a0 (IntKind.wrap .i64 ((IntKind.wrap .i64 (a1+(IntKind.wrap .i64 (v5 * (3:Int)))))+(1:Int)))) fun v28 => Option.bind (aA a0 s24.2.1) fun v29 => Option.bind (aA a0 s24.2.1) fun v30 => Option.bind (F37 v28 v30) fun v31 => if v31=true then j27_3 ((IntKind.wrap .i64 ((IntKind.wrap .i64 (a1+(IntKind.wrap .i64 (v5 * (3:Int)))))+(1:Int))),s24.2.1,(IntKind.wrap .i64 (s24.2.2+(1:Int)))) else j27_3 (s24.2.1,(IntKind.wrap .i64 ((IntKind.wrap .i64 (a1+(IntKind.wrap .i64 (v5 * (3:Int)))))+(1:Int))),s24.2.2)) fun j24_3 => Option.bind (aA a0 (IntKind.wrap .i64 (a1+(IntKind.wrap .i64 (v5 * (3:Int)))))) fun v24 => Option.bind (aA a0 (IntKind.wrap .i64 (a1+(IntKind.wrap .i64 (v5 * (3:Int)))))) fun v25 => Option.bind (aA a0 (IntKind.wrap .i64 ((IntKind.wrap .i64 (a1+(IntKind.wrap .i64 (v5 * (3:Int))))) - (1:Int)))) fun v26 => Option.bind (aA a0 (IntKind.wrap .i64 ((IntKind.wrap .i64 (a1+(IntKind.wrap .i64 (v5 * (3:Int))))) - (1:Int)))) fun v27 => Option.bind (F37 v25 v27) fun v28 => if v28=true then j24_3 ((IntKind.wrap .i64 (a1+(IntKind.wrap .i64 (v5 * (3:Int))))),(IntKind.wrap .i64 ((IntKind.wrap .i64 (a1+(IntKind.wrap .i64 (v5 * (3:Int))))) - (1:Int))),(IntKind.wrap .i64 (s21.2.2+(1:Int)))) else j24_3 ((IntKind.wrap .i64 ((IntKind.wrap .i64 (a1+(IntKind.wrap .i64 (v5 * (3:Int))))) - (1:Int))),(IntKind.wrap .i64 (a1+(IntKind.wrap .i64 (v5 * (3:Int))))),s21.2.2)) fun j21_3 => Option.bind (aA a0 s18.1) fun v21 => Option.bind (aA a0 s18.1) fun v22 => Option.bind (aA a0 s15.1) fun v23 => Option.bind (aA a0 s15.1) fun v24 => Option.bind (F37 v22 v24) fun v25 => if v25=true then j21_3 (s18.1,s15.1,(IntKind.wrap .i64 (s18.2.2+(1:Int)))) else j21_3 (s15.1,s18.1,s18.2.2)) fun j18_3 => Option.bind (aA a0 (IntKind.wrap .i64 ((IntKind.wrap .i64 (a1+(IntKind.wrap .i64 (v4 * (2:Int)))))+(1:Int)))) fun v18 => Option.bind (aA a0 (IntKind.wrap .i64 ((IntKind.wrap .i64 (a1+(IntKind.wrap .i64 (v4 * (2:Int)))))+(1:Int)))) fun v19 => Option.bind (aA a0 s15.2.1) fun v20 => Option.bind (aA a0 s15.2.1) fun v21 => Option.bind (F37 v19 v21) fun v22 => if v22=true then j18_3 ((IntKind.wrap .i64 ((IntKind.wrap .i64 (a1+(IntKind.wrap .i64 (v4 * (2:Int)))))+(1:Int))),s15.2.1,(IntKind.wrap .i64 (s15.2.2+(1:Int)))) else j18_3 (s15.2.1,(IntKind.wrap .i64 ((IntKind.wrap .i64 (a1+(IntKind.wrap .i64 (v4 * (2:Int)))))+(1:Int))),s15.2.2)) fun j15_3 => Option.bind (aA a0 (IntKind.wrap .i64 (a1+(IntKind.wrap .i64 (v4 * (2:Int)))))) fun v15 => Option.bind (aA a0 (IntKind.wrap .i64 (a1+(IntKind.wrap .i64 (v4 * (2:Int)))))) fun v16 => Option.bind (aA a0 (IntKind.wrap .i64 ((IntKind.wrap .i64 (a1+(IntKind.wrap .i64 (v4 * (2:Int))))) - (1:Int)))) fun v17 => Option.bind (aA a0 (IntKind.wrap .i64 ((IntKind.wrap .i64 (a1+(IntKind.wrap .i64 (v4 * (2:Int))))) - (1:Int)))) fun v18 => Option.bind (F37 v16 v18) fun v19 => if v19=true then j15_3 ((IntKind.wrap .i64 (a1+(IntKind.wrap .i64 (v4 * (2:Int))))),(IntKind.wrap .i64 ((IntKind.wrap .i64 (a1+(IntKind.wrap .i64 (v4 * (2:Int))))) - (1:Int))),(IntKind.wrap .i64 (s12.2.2+(1:Int)))) else j15_3 ((IntKind.wrap .i64 ((IntKind.wrap .i64 (a1+(IntKind.wrap .i64 (v4 * (2:Int))))) - (1:Int))),(IntKind.wrap .i64 (a1+(IntKind.wrap .i64 (v4 * (2:Int))))),s12.2.2)) fun j12_3 => Option.bind (aA a0 s9.1) fun v12 => Option.bind (aA a0 s9.1) fun v13 => Option.bind (aA a0 s6.1) fun v14 => Option.bind (aA a0 s6.1) fun v15 => Option.bind (F37 v13 v15) fun v16 => if v16=true then j12_3 (s9.1,s6.1,(IntKind.wrap .i64 (s9.2.2+(1:Int)))) else j12_3 (s6.1,s9.1,s9.2.2)) fun j9_3 => Option.bind (aA a0 (IntKind.wrap .i64 ((IntKind.wrap .i64 (a1+(IntKind.wrap .i64 (v3 * (1:Int)))))+(1:Int)))) fun v9 => Option.bind (aA a0 (IntKind.wrap .i64 ((IntKind.wrap .i64 (a1+(IntKind.wrap .i64 (v3 * (1:Int)))))+(1:Int)))) fun v10 => Option.bind (aA a0 s6.2.1) fun v11 => Option.bind (aA a0 s6.2.1) fun v12 => Option.bind (F37 v10 v12) fun v13 => if v13=true then j9_3 ((IntKind.wrap .i64 ((IntKind.wrap .i64 (a1+(IntKind.wrap .i64 (v3 * (1:Int)))))+(1:Int))),s6.2.1,(IntKind.wrap .i64 (s6.2.2+(1:Int)))) else j9_3 (s6.2.1,(IntKind.wrap .i64 ((IntKind.wrap .i64 (a1+(IntKind.wrap .i64 (v3 * (1:Int)))))+(1:Int))),s6.2.2)) fun j6_3 => Option.bind (aA a0 (IntKind.wrap .i64 (a1+(IntKind.wrap .i64 (v3 * (1:Int)))))) fun v6 => Option.bind (aA a0 (IntKind.wrap .i64 (a1+(IntKind.wrap .i64 (v3 * (1:Int)))))) fun v7 => Option.bind (aA a0 (IntKind.wrap .i64 ((IntKind.wrap .i64 (a1+(IntKind.wrap .i64 (v3 * (1:Int))))) - (1:Int)))) fun v8 => Option.bind (aA a0 (IntKind.wrap .i64 ((IntKind.wrap .i64 (a1+(IntKind.wrap .i64 (v3 * (1:Int))))) - (1:Int)))) fun v9 => Option.bind (F37 v7 v9) fun v10 => if v10=true then j6_3 ((IntKind.wrap .i64 (a1+(IntKind.wrap .i64 (v3 * (1:Int))))),(IntKind.wrap .i64 ((IntKind.wrap .i64 (a1+(IntKind.wrap .i64 (v3 * (1:Int))))) - (1:Int))),(IntKind.wrap .i64 ((0:Int)+(1:Int)))) else j6_3 ((IntKind.wrap .i64 ((IntKind.wrap .i64 (a1+(IntKind.wrap .i64 (v3 * (1:Int))))) - (1:Int))),(IntKind.wrap .i64 (a1+(IntKind.wrap .i64 (v3 * (1:Int))))),(0:Int)) else j6_2 ((IntKind.wrap .i64 (a1+(IntKind.wrap .i64 (v3 * (1:Int))))),(IntKind.wrap .i64 (a1+(IntKind.wrap .i64 (v4 * (2:Int))))),(IntKind.wrap .i64 (a1+(IntKind.wrap .i64 (v5 * (3:Int))))),(0:Int)) else j6_1 ((IntKind.wrap .i64 (a1+(IntKind.wrap .i64 (v4 * (2:Int))))),(0:Int))
def L75:Lib Go.Proofs.Try.prog:=L74.turn pm 75 (.int .u64) [(.int .i64),(.int .i64)] (.prod (.int .i64) (.int .i64)) (fun st=>F75 st.1 st.2.1 st.2.2) [(101,1,[.calm (.range 9)])] [] [] au (fun _=>by kernel_rfl)
def F76 (a0:(List Int)) (a1:Int) (a2:Int):Option ((List Int)×Unit) := aO (σ:=(List Int)) (ρ:=((List Int)×Unit)) (fun s3 => some ((s3,()))) fun j3_1 => aH (σ:=(Int×(Int×(List Int)))) (ρ:=((List Int)×Unit)) (fun s3 => if (decide (s3.1<s3.2.1))=true then Option.bind (aA s3.2.2 s3.2.1) fun v6 => Option.bind (aA s3.2.2 s3.2.1) fun v7 => Option.bind (aA s3.2.2 s3.1) fun v8 => Option.bind (aA s3.2.2 s3.1) fun v9 => Option.bind (aA s3.2.2 s3.1) fun v10 => Option.bind (eF s3.2.2 s3.1 v7) fun v11 => Option.bind (aA v11 s3.2.1) fun v12 => Option.bind (eF v11 s3.2.1 v9) fun v13 => turn ((IntKind.wrap .i64 (s3.1+(1:Int))),(IntKind.wrap .i64 (s3.2.1 - (1:Int))),v13) else done (j3_1 s3.2.2)) (a1,(IntKind.wrap .i64 (a2 - (1:Int))),a0)
def L76:Lib Go.Proofs.Try.prog:=L75.turn pm 76 (.int .u64) [(.int .i64),(.int .i64)] .unit (fun st=>F76 st.1 st.2.1 st.2.2) [(76,3,[.calm (.range 16)])] [(1,[6,7],[[987654]],[],[],[])] [] au (fun _=>by kernel_rfl)
def F77 (a0:(List Int)) (a1:Int) (a2:Int):Option ((List Int)×Bool) := aO (σ:=(List Int)) (ρ:=((List Int)×Bool)) (fun s3 => some ((s3,false))) fun j3_1 => aO (σ:=(Bool×(List Int))) (ρ:=((List Int)×Bool)) (fun s3 => some ((s3.2,s3.1))) fun j3_2 => aH (σ:=(Int×(Int×(List Int)))) (ρ:=((List Int)×Bool)) (fun s3 => if (decide (s3.2.1<(5:Int)))=true then aO (σ:=Bool) (ρ:=((Int×(Int×(List Int))) ⊕ ((List Int)×Bool))) (fun s6 => done (j3_2 (s6,s3.2.2))) fun j6_4 => aO (σ:=Int) (ρ:=((Int×(Int×(List Int))) ⊕ ((List Int)×Bool))) (fun s6 => if (s6==a2)=true then j6_4 true else if (decide ((IntKind.wrap .i64 (a2 - a1))<(50:Int)))=true then j6_4 false else Option.bind (aA s3.2.2 (IntKind.wrap .i64 (s6 - (1:Int)))) fun v7 => Option.bind (aA s3.2.2 (IntKind.wrap .i64 (s6 - (1:Int)))) fun v8 => Option.bind (aA s3.2.2 s6) fun v9 => Option.bind (aA s3.2.2 s6) fun v10 => Option.bind (aA s3.2.2 s6) fun v11 => Option.bind (eF s3.2.2 s6 v8) fun v12 => Option.bind (aA v12 (IntKind.wrap .i64 (s6 - (1:Int)))) fun v13 => Option.bind (eF v12 (IntKind.wrap .i64 (s6 - (1:Int))) v10) fun v14 => aO (σ:=(List Int)) (ρ:=((Int×(Int×(List Int))) ⊕ ((List Int)×Bool))) (fun s15 => aO (σ:=(List Int)) (ρ:=((Int×(Int×(List Int))) ⊕ ((List Int)×Bool))) (fun s16 => turn (s6,(IntKind.wrap .i64 (s3.2.1+(1:Int))),s16)) fun j16_5 => if (decide ((IntKind.wrap .i64 (a2 - s6))≥(2:Int)))=true then aO (σ:=(List Int)) (ρ:=((Int×(Int×(List Int))) ⊕ ((List Int)×Bool))) (fun s16 => j16_5 s16) fun j16_6 => aH (σ:=(Int×(List Int))) (ρ:=((Int×(Int×(List Int))) ⊕ ((List Int)×Bool))) (fun s16 => if (decide (s16.1<a2))=true then Option.bind (aA s16.2 s16.1) fun v18 => Option.bind (aA s16.2 s16.1) fun v19 => Option.bind (aA s16.2 (IntKind.wrap .i64 (s16.1 - (1:Int)))) fun v20 => Option.bind (aA s16.2 (IntKind.wrap .i64 (s16.1 - (1:Int)))) fun v21 => Option.bind (F37 v19 v21) fun v22 => if (!v22)=true then done (j16_6 s16.2) else Option.bind (aA s16.2 (IntKind.wrap .i64 (s16.1 - (1:Int)))) fun v23 => Option.bind (aA s16.2 (IntKind.wrap .i64 (s16.1 - (1:Int)))) fun v24 => Option.bind (aA s16.2 s16.1) fun v25 => Option.bind (aA s16.2 s16.1) fun v26 => Option.bind (aA s16.2 s16.1) fun v27 => Option.bind (eF s16.2 s16.1 v24) fun v28 => Option.bind (aA v28 (IntKind.wrap .i64 (s16.1 - (1:Int)))) fun v29 => Option.bind (eF v28 (IntKind.wrap .i64 (s16.1 - (1:Int))) v26) fun v30 => turn ((IntKind.wrap .i64 (s16.1+(1:Int))),v30) else done (j16_6 s16.2)) ((IntKind.wrap .i64 (s6+(1:Int))),s15) else j16_5 s15) fun j15_5 => if (decide ((IntKind.wrap .i64 (s6 - a1))≥(2:Int)))=true then aO (σ:=(List Int)) (ρ:=((Int×(Int×(List Int))) ⊕ ((List Int)×Bool))) (fun s15 => j15_5 s15) fun j15_6 => aH (σ:=(Int×(List Int))) (ρ:=((Int×(Int×(List Int))) ⊕ ((List Int)×Bool))) (fun s15 => if (decide (s15.1≥(1:Int)))=true then Option.bind (aA s15.2 s15.1) fun v17 => Option.bind (aA s15.2 s15.1) fun v18 => Option.bind (aA s15.2 (IntKind.wrap .i64 (s15.1 - (1:Int)))) fun v19 => Option.bind (aA s15.2 (IntKind.wrap .i64 (s15.1 - (1:Int)))) fun v20 => Option.bind (F37 v18 v20) fun v21 => if (!v21)=true then done (j15_6 s15.2) else Option.bind (aA s15.2 (IntKind.wrap .i64 (s15.1 - (1:Int)))) fun v22 => Option.bind (aA s15.2 (IntKind.wrap .i64 (s15.1 - (1:Int)))) fun v23 => Option.bind (aA s15.2 s15.1) fun v24 => Option.bind (aA s15.2 s15.1) fun v25 => Option.bind (aA s15.2 s15.1) fun v26 => Option.bind (eF s15.2 s15.1 v23) fun v27 => Option.bind (aA v27 (IntKind.wrap .i64 (s15.1 - (1:Int)))) fun v28 => Option.bind (eF v27 (IntKind.wrap .i64 (s15.1 - (1:Int))) v25) fun v29 => turn ((IntKind.wrap .i64 (s15.1 - (1:Int))),v29) else done (j15_6 s15.2)) ((IntKind.wrap .i64 (s6 - (1:Int))),v14) else j15_5 v14) fun j6_5 => aH (σ:=Int) (ρ:=((Int×(Int×(List Int))) ⊕ ((List Int)×Bool))) (fun s6 => Option.bind (if ((decide (s6<a2))&&true)=true then (aA s3.2.2 s6) else some (0:Int)) fun v7 => Option.bind (if ((decide (s6<a2))&&true)=true then (aA s3.2.2 s6) else some (0:Int)) fun v8 => Option.bind (if ((decide (s6<a2))&&true)=true then (aA s3.2.2 (IntKind.wrap .i64 (s6 - (1:Int)))) else some (0:Int)) fun v9 => Option.bind (if ((decide (s6<a2))&&true)=true then (aA s3.2.2 (IntKind.wrap .i64 (s6 - (1:Int)))) else some (0:Int)) fun v10 => Option.bind (if ((decide (s6<a2))&&true)=true then (F37 v8 v10) else some false) fun v11 => if (if (decide (s6<a2))=true then (!v11) else false)=true then turn (IntKind.wrap .i64 (s6+(1:Int))) else done (j6_5 s6)) s3.1 else done (j3_1 s3.2.2)) ((IntKind.wrap .i64 (a1+(1:Int))),(0:Int),a0)
def L77:Lib Go.Proofs.Try.prog:=L76.turn pm 77 (.int .u64) [(.int .i64),(.int .i64)] .bool (fun st=>F77 st.1 st.2.1 st.2.2) [(77,5,[.calm (.range 16)]),(77,11,[.calm (.range 18)]),(77,16,[.calm (.range 11)]),(77,17,[.calm (.range 18)]),(77,22,[.calm (.range 11)]),(77,23,[.calm (.range 18)])] [(1,[7,8],[[987654]],[],[],[]),(2,[7],[],[],[],[]),(3,[9],[[987654]],[],[],[]),(4,[10],[[987654]],[],[],[])] [] au (fun _=>by kernel_rfl)
def F78 (a0:(List Int)) (a1:Int) (a2:Int) (a3:Int):Option ((List Int)×Int) := Option.bind (aA a0 a3) fun v4 => Option.bind (aA a0 a3) fun v5 => Option.bind (aA a0 a1) fun v6 => Option.bind (aA a0 a1) fun v7 => Option.bind (aA a0 a1) fun v8 => Option.bind (eF a0 a1 v5) fun v9 => Option.bind (aA v9 a3) fun v10 => Option.bind (eF v9 a3 v7) fun v11 => aO (σ:=(Int×(List Int))) (ρ:=((List Int)×Int)) (fun s12 => some ((s12.2,s12.1))) fun j12_1 => aH (σ:=(Int×(Int×(List Int)))) (ρ:=((List Int)×Int)) (fun s12 => aO (σ:=Int) (ρ:=((Int×(Int×(List Int))) ⊕ ((List Int)×Int))) (fun s15 => aO (σ:=Int) (ρ:=((Int×(Int×(List Int))) ⊕ ((List Int)×Int))) (fun s16 => if (decide (s15>s16))=true then done (j12_1 (s15,s12.2.2)) else Option.bind (aA s12.2.2 s16) fun v17 => Option.bind (aA s12.2.2 s16) fun v18 => Option.bind (aA s12.2.2 s15) fun v19 => Option.bind (aA s12.2.2 s15) fun v20 => Option.bind (aA s12.2.2 s15) fun v21 => Option.bind (eF s12.2.2 s15 v18) fun v22 => Option.bind (aA v22 s16) fun v23 => Option.bind (eF v22 s16 v20) fun v24 => turn ((IntKind.wrap .i64 (s15+(1:Int))),(IntKind.wrap .i64 (s16 - (1:Int))),v24)) fun j16_3 => aH (σ:=Int) (ρ:=((Int×(Int×(List Int))) ⊕ ((List Int)×Int))) (fun s16 => Option.bind (if ((decide (s15≤s16))&&true)=true then (aA s12.2.2 a1) else some (0:Int)) fun v17 => Option.bind (if ((decide (s15≤s16))&&true)=true then (aA s12.2.2 a1) else some (0:Int)) fun v18 => Option.bind (if ((decide (s15≤s16))&&true)=true then (aA s12.2.2 s16) else some (0:Int)) fun v19 => Option.bind (if ((decide (s15≤s16))&&true)=true then (aA s12.2.2 s16) else some (0:Int)) fun v20 => Option.bind (if ((decide (s15≤s16))&&true)=true then (F37 v18 v20) else some false) fun v21 => if (if (decide (s15≤s16))=true then v21 else false)=true then turn (IntKind.wrap .i64 (s16 - (1:Int))) else done (j16_3 s16)) s12.2.1) fun j15_3 => aH (σ:=Int) (ρ:=((Int×(Int×(List Int))) ⊕ ((List Int)×Int))) (fun s15 => Option.bind (if ((decide (s15≤s12.2.1))&&true)=true then (aA s12.2.2 a1) else some (0:Int)) fun v16 => Option.bind (if ((decide (s15≤s12.2.1))&&true)=true then (aA s12.2.2 a1) else some (0:Int)) fun v17 => Option.bind (if ((decide (s15≤s12.2.1))&&true)=true then (aA s12.2.2 s15) else some (0:Int)) fun v18 => Option.bind (if ((decide (s15≤s12.2.1))&&true)=true then (aA s12.2.2 s15) else some (0:Int)) fun v19 => Option.bind (if ((decide (s15≤s12.2.1))&&true)=true then (F37 v17 v19) else some false) fun v20 => if (if (decide (s15≤s12.2.1))=true then (!v20) else false)=true then turn (IntKind.wrap .i64 (s15+(1:Int))) else done (j15_3 s15)) s12.1) ((IntKind.wrap .i64 (a1+(1:Int))),(IntKind.wrap .i64 (a2 - (1:Int))),v11)
def L78:Lib Go.Proofs.Try.prog:=L77.turn pm 78 (.int .u64) [(.int .i64),(.int .i64),(.int .i64)] (.int .i64) (fun st=>F78 st.1 st.2.1 st.2.2.1 st.2.2.2) [(78,1,[.calm (.range 16)]),(78,3,[.calm (.range 15)]),(78,5,[.calm (.range 14)]),(78,8,[.calm (.range 16)])] [(1,[9,10],[[987654]],[],[],[]),(2,[9],[],[],[],[]),(3,[10],[],[],[],[])] [] au (fun _=>by kernel_rfl)
def F79 (a0:(List Int)) (a1:Int) (a2:Int) (a3:Int):Option ((List Int)×(Int×Bool)) := Option.bind (aA a0 a3) fun v4 => Option.bind (aA a0 a3) fun v5 => Option.bind (aA a0 a1) fun v6 => Option.bind (aA a0 a1) fun v7 => Option.bind (aA a0 a1) fun v8 => Option.bind (eF a0 a1 v5) fun v9 => Option.bind (aA v9 a3) fun v10 => Option.bind (eF v9 a3 v7) fun v11 => aO (σ:=Int) (ρ:=((List Int)×(Int×Bool))) (fun s12 => aO (σ:=Int) (ρ:=((List Int)×(Int×Bool))) (fun s13 => if (decide (s12>s13))=true then Option.bind (aA v11 a1) fun v14 => Option.bind (aA v11 a1) fun v15 => Option.bind (aA v11 s13) fun v16 => Option.bind (aA v11 s13) fun v17 => Option.bind (aA v11 s13) fun v18 => Option.bind (eF v11 s13 v15) fun v19 => Option.bind (aA v19 a1) fun v20 => Option.bind (eF v19 a1 v17) fun v21 => some ((v21,(s13,true))) else Option.bind (aA v11 s13) fun v14 => Option.bind (aA v11 s13) fun v15 => Option.bind (aA v11 s12) fun v16 => Option.bind (aA v11 s12) fun v17 => Option.bind (aA v11 s12) fun v18 => Option.bind (eF v11 s12 v15) fun v19 => Option.bind (aA v19 s13) fun v20 => Option.bind (eF v19 s13 v17) fun v21 => aO (σ:=(Int×(List Int))) (ρ:=((List Int)×(Int×Bool))) (fun s22 => Option.bind (aA s22.2 a1) fun v24 => Option.bind (aA s22.2 a1) fun v25 => Option.bind (aA s22.2 s22.1) fun v26 => Option.bind (aA s22.2 s22.1) fun v27 => Option.bind (aA s22.2 s22.1) fun v28 => Option.bind (eF s22.2 s22.1 v25) fun v29 => Option.bind (aA v29 a1) fun v30 => Option.bind (eF v29 a1 v27) fun v31 => some ((v31,(s22.1,false)))) fun j22_1 => aH (σ:=(Int×(Int×(List Int)))) (ρ:=((List Int)×(Int×Bool))) (fun s22 => aO (σ:=Int) (ρ:=((Int×(Int×(List Int))) ⊕ ((List Int)×(Int×Bool)))) (fun s25 => aO (σ:=Int) (ρ:=((Int×(Int×(List Int))) ⊕ ((List Int)×(Int×Bool)))) (fun s26 => if (decide (s25>s26))=true then done (j22_1 (s26,s22.2.2)) else Option.bind (aA s22.2.2 s26) fun v27 => Option.bind (aA s22.2.2 s26) fun v28 => Option.bind (aA s22.2.2 s25) fun v29 => Option.bind (aA s22.2.2 s25) fun v30 => Option.bind (aA s22.2.2 s25) fun v31 => Option.bind (eF s22.2.2 s25 v28) fun v32 => Option.bind (aA v32 s26) fun v33 => Option.bind (eF v32 s26 v30) fun v34 => turn ((IntKind.wrap .i64 (s25+(1:Int))),(IntKind.wrap .i64 (s26 - (1:Int))),v34)) fun j26_3 => aH (σ:=Int) (ρ:=((Int×(Int×(List Int))) ⊕ ((List Int)×(Int×Bool)))) (fun s26 => Option.bind (if ((decide (s25≤s26))&&true)=true then (aA s22.2.2 s26) else some (0:Int)) fun v27 => Option.bind (if ((decide (s25≤s26))&&true)=true then (aA s22.2.2 s26) else some (0:Int)) fun v28 => Option.bind (if ((decide (s25≤s26))&&true)=true then (aA s22.2.2 a1) else some (0:Int)) fun v29 => Option.bind (if ((decide (s25≤s26))&&true)=true then (aA s22.2.2 a1) else some (0:Int)) fun v30 => Option.bind (if ((decide (s25≤s26))&&true)=true then (F37 v28 v30) else some false) fun v31 => if (if (decide (s25≤s26))=true then (!v31) else false)=true then turn (IntKind.wrap .i64 (s26 - (1:Int))) else done (j26_3 s26)) s22.2.1) fun j25_3 => aH (σ:=Int) (ρ:=((Int×(Int×(List Int))) ⊕ ((List Int)×(Int×Bool)))) (fun s25 => Option.bind (if ((decide (s25≤s22.2.1))&&true)=true then (aA s22.2.2 s25) else some (0:Int)) fun v26 => Option.bind (if ((decide (s25≤s22.2.1))&&true)=true then (aA s22.2.2 s25) else some (0:Int)) fun v27 => Option.bind (if ((decide (s25≤s22.2.1))&&true)=true then (aA s22.2.2 a1) else some (0:Int)) fun v28 => Option.bind (if ((decide (s25≤s22.2.1))&&true)=true then (aA s22.2.2 a1) else some (0:Int)) fun v29 => Option.bind (if ((decide (s25≤s22.2.1))&&true)=true then (F37 v27 v29) else some false) fun v30 => if (if (decide (s25≤s22.2.1))=true then v30 else false)=true then turn (IntKind.wrap .i64 (s25+(1:Int))) else done (j25_3 s25)) s22.1) ((IntKind.wrap .i64 (s12+(1:Int))),(IntKind.wrap .i64 (s13 - (1:Int))),v21)) fun j13_1 => aH (σ:=Int) (ρ:=((List Int)×(Int×Bool))) (fun s13 => Option.bind (if ((decide (s12≤s13))&&true)=true then (aA v11 s13) else some (0:Int)) fun v14 => Option.bind (if ((decide (s12≤s13))&&true)=true then (aA v11 s13) else some (0:Int)) fun v15 => Option.bind (if ((decide (s12≤s13))&&true)=true then (aA v11 a1) else some (0:Int)) fun v16 => Option.bind (if ((decide (s12≤s13))&&true)=true then (aA v11 a1) else some (0:Int)) fun v17 => Option.bind (if ((decide (s12≤s13))&&true)=true then (F37 v15 v17) else some false) fun v18 => if (if (decide (s12≤s13))=true then (!v18) else false)=true then turn (IntKind.wrap .i64 (s13 - (1:Int))) else done (j13_1 s13)) (IntKind.wrap .i64 (a2 - (1:Int)))) fun j12_1 => aH (σ:=Int) (ρ:=((List Int)×(Int×Bool))) (fun s12 => Option.bind (if ((decide (s12≤(IntKind.wrap .i64 (a2 - (1:Int)))))&&true)=true then (aA v11 s12) else some (0:Int)) fun v13 => Option.bind (if ((decide (s12≤(IntKind.wrap .i64 (a2 - (1:Int)))))&&true)=true then (aA v11 s12) else some (0:Int)) fun v14 => Option.bind (if ((decide (s12≤(IntKind.wrap .i64 (a2 - (1:Int)))))&&true)=true then (aA v11 a1) else some (0:Int)) fun v15 => Option.bind (if ((decide (s12≤(IntKind.wrap .i64 (a2 - (1:Int)))))&&true)=true then (aA v11 a1) else some (0:Int)) fun v16 => Option.bind (if ((decide (s12≤(IntKind.wrap .i64 (a2 - (1:Int)))))&&true)=true then (F37 v14 v16) else some false) fun v17 => if (if (decide (s12≤(IntKind.wrap .i64 (a2 - (1:Int)))))=true then v17 else false)=true then turn (IntKind.wrap .i64 (s12+(1:Int))) else done (j12_1 s12)) (IntKind.wrap .i64 (a1+(1:Int)))
def L79:Lib Go.Proofs.Try.prog:=L78.turn pm 79 (.int .u64) [(.int .i64),(.int .i64),(.int .i64)] (.prod (.int .i64) .bool) (fun st=>F79 st.1 st.2.1 st.2.2.1 st.2.2.2) [(79,1,[.calm (.range 16)]),(79,3,[.calm (.range 14)]),(79,5,[.calm (.range 15)]),(79,8,[.calm (.range 16)]),(79,10,[.calm (.range 16)]),(79,13,[.calm (.range 14)]),(79,15,[.calm (.range 15)]),(79,18,[.calm (.range 16)]),(79,21,[.calm (.range 16)])] [(1,[10],[],[],[],[]),(2,[11],[],[],[],[]),(3,[10,11],[[987654]],[],[],[]),(4,[10],[],[],[],[]),(5,[11],[],[],[],[])] [] au (fun _=>by kernel_rfl)
def abN (a0:(List Int)) (a1:Int) (a2:Int) (a3:Int):Option ((List Int)×Unit):=none
def ZY (a0:(List Int)) (a1:Int) (a2:Int) (a3:Int):Option ((List Int)×Unit) := aO (σ:=(List Int)) (ρ:=((List Int)×Unit)) (fun s4 => some ((s4,()))) fun j4_1 => aH (σ:=(Int×(Int×(Int×(Bool×(Bool×(List Int))))))) (ρ:=((List Int)×Unit)) (fun s4 => aO (σ:=(Int×(Int×(Bool×(Bool×(Int×(List Int))))))) (ρ:=((Int×(Int×(Int×(Bool×(Bool×(List Int)))))) ⊕ ((List Int)×Unit))) (fun s10 => turn (s10.2.2.2.2.1,s10.1,s10.2.1,s10.2.2.1,s10.2.2.2.1,s10.2.2.2.2.2)) fun j10_3 => aO (σ:=(List Int)) (ρ:=((Int×(Int×(Int×(Bool×(Bool×(List Int)))))) ⊕ ((List Int)×Unit))) (fun s10 => done (j4_1 s10)) fun j10_4 => if (decide ((IntKind.wrap .i64 (s4.2.1 - s4.1))≤(12:Int)))=true then Option.bind (F72 s4.2.2.2.2.2 s4.1 s4.2.1) fun v10 => j10_4 v10.1 else if (s4.2.2.1==(0:Int))=true then Option.bind (F73 s4.2.2.2.2.2 s4.1 s4.2.1) fun v10 => j10_4 v10.1 else aO (σ:=(Int×(List Int))) (ρ:=((Int×(Int×(Int×(Bool×(Bool×(List Int)))))) ⊕ ((List Int)×Unit))) (fun s10 => Option.bind (F75 s10.2 s4.1 s4.2.1) fun v12 => aO (σ:=(Int×(Int×(List Int)))) (ρ:=((Int×(Int×(Int×(Bool×(Bool×(List Int)))))) ⊕ ((List Int)×Unit))) (fun s13 => aO (σ:=(List Int)) (ρ:=((Int×(Int×(Int×(Bool×(Bool×(List Int)))))) ⊕ ((List Int)×Unit))) (fun s16 => Option.bind (if ((decide (s4.1>(0:Int)))&&true)=true then (aA s16 (IntKind.wrap .i64 (s4.1 - (1:Int)))) else some (0:Int)) fun v17 => Option.bind (if ((decide (s4.1>(0:Int)))&&true)=true then (aA s16 (IntKind.wrap .i64 (s4.1 - (1:Int)))) else some (0:Int)) fun v18 => Option.bind (if ((decide (s4.1>(0:Int)))&&true)=true then (aA s16 s13.1) else some (0:Int)) fun v19 => Option.bind (if ((decide (s4.1>(0:Int)))&&true)=true then (aA s16 s13.1) else some (0:Int)) fun v20 => Option.bind (if ((decide (s4.1>(0:Int)))&&true)=true then (F37 v18 v20) else some false) fun v21 => if (if (decide (s4.1>(0:Int)))=true then (!v21) else false)=true then Option.bind (F78 s16 s4.1 s4.2.1 s13.1) fun v22 => j10_3 (s4.2.1,s10.1,s4.2.2.2.1,s4.2.2.2.2.1,v22.2,v22.1) else Option.bind (F79 s16 s4.1 s4.2.1 s13.1) fun v22 => Option.bind (Ej .i64 (IntKind.wrap .i64 (s4.2.1 - s4.1)) (8:Int)) fun v23 => aO (σ:=(Int×(Bool×(Int×(List Int))))) (ρ:=((Int×(Int×(Int×(Bool×(Bool×(List Int)))))) ⊕ ((List Int)×Unit))) (fun s24 => j10_3 (s24.1,s10.1,s24.2.1,v22.2.2,s24.2.2.1,s24.2.2.2)) fun j24_5 => if (decide ((IntKind.wrap .i64 (v22.2.1 - s4.1))<(IntKind.wrap .i64 (s4.2.1 - v22.2.1))))=true then Option.bind (abN v22.1 s4.1 v22.2.1 s10.1) fun v24 => j24_5 (s4.2.1,(decide ((IntKind.wrap .i64 (v22.2.1 - s4.1))≥v23)),(IntKind.wrap .i64 (v22.2.1+(1:Int))),v24.1) else Option.bind (abN v22.1 (IntKind.wrap .i64 (v22.2.1+(1:Int))) s4.2.1 s10.1) fun v24 => j24_5 (v22.2.1,(decide ((IntKind.wrap .i64 (s4.2.1 - v22.2.1))≥v23)),s4.1,v24.1)) fun j16_5 => if (if (if s4.2.2.2.1=true then s4.2.2.2.2.1 else false)=true then (s13.2.1==(1:Int)) else false)=true then Option.bind (F77 s13.2.2 s4.1 s4.2.1) fun v16 => if v16.2=true then j10_4 v16.1 else j16_5 v16.1 else j16_5 s13.2.2) fun j13_5 => if (v12.2.2==(2:Int))=true then Option.bind (F76 v12.1 s4.1 s4.2.1) fun v13 => j13_5 ((IntKind.wrap .i64 ((IntKind.wrap .i64 (s4.2.1 - (1:Int))) - (IntKind.wrap .i64 (v12.2.1 - s4.1)))),(1:Int),v13.1) else j13_5 (v12.2.1,v12.2.2,v12.1)) fun j10_5 => if (!s4.2.2.2.1)=true then Option.bind (F74 s4.2.2.2.2.2 s4.1 s4.2.1) fun v10 => j10_5 ((IntKind.wrap .i64 (s4.2.2.1 - (1:Int))),v10.1) else j10_5 (s4.2.2.1,s4.2.2.2.2.2)) (a1,a2,a3,true,true,a0)
def abV:Lib Go.Proofs.Try.prog:=L79.turn pm 55 (.int .u64) [(.int .i64),(.int .i64),(.int .i64)] .unit (fun st=>ZY st.1 st.2.1 st.2.2.1 st.2.2.2) [(55,17,[.calm (.range 15)])] [(1,[1,2,3,8,9],[[987654]],[],[],[])] [(72,.turn 72 (.int .u64) [(.int .i64),(.int .i64)] .unit),(73,.turn 73 (.int .u64) [(.int .i64),(.int .i64)] .unit),(74,.turn 74 (.int .u64) [(.int .i64),(.int .i64)] .unit),(75,.turn 75 (.int .u64) [(.int .i64),(.int .i64)] (.prod (.int .i64) (.int .i64))),(76,.turn 76 (.int .u64) [(.int .i64),(.int .i64)] .unit),(77,.turn 77 (.int .u64) [(.int .i64),(.int .i64)] .bool),(78,.turn 78 (.int .u64) [(.int .i64),(.int .i64),(.int .i64)] (.int .i64)),(79,.turn 79 (.int .u64) [(.int .i64),(.int .i64),(.int .i64)] (.prod (.int .i64) .bool)),(55,.turn 55 (.int .u64) [(.int .i64),(.int .i64),(.int .i64)] .unit)] (aJ rfl (aJ rfl (aJ rfl (aJ rfl (aJ rfl (aJ rfl (aJ rfl (aJ rfl (aJ rfl au))))))))) (fun _=>by kernel_rfl)
def F55 (a0:(List Int)) (a1:Int) (a2:Int) (a3:Int):Option ((List Int)×Unit) := aO (σ:=(List Int)) (ρ:=((List Int)×Unit)) (fun s4 => some ((s4,()))) fun j4_1 => aH (σ:=(Int×(Int×(Int×(Bool×(Bool×(List Int))))))) (ρ:=((List Int)×Unit)) (fun s4 => aO (σ:=(Int×(Int×(Bool×(Bool×(Int×(List Int))))))) (ρ:=((Int×(Int×(Int×(Bool×(Bool×(List Int)))))) ⊕ ((List Int)×Unit))) (fun s10 => turn (s10.2.2.2.2.1,s10.1,s10.2.1,s10.2.2.1,s10.2.2.2.1,s10.2.2.2.2.2)) fun j10_3 => aO (σ:=(List Int)) (ρ:=((Int×(Int×(Int×(Bool×(Bool×(List Int)))))) ⊕ ((List Int)×Unit))) (fun s10 => done (j4_1 s10)) fun j10_4 => if (decide ((IntKind.wrap .i64 (s4.2.1 - s4.1))≤(12:Int)))=true then Option.bind (F72 s4.2.2.2.2.2 s4.1 s4.2.1) fun v10 => j10_4 v10.1 else if (s4.2.2.1==(0:Int))=true then Option.bind (F73 s4.2.2.2.2.2 s4.1 s4.2.1) fun v10 => j10_4 v10.1 else aO (σ:=(Int×(List Int))) (ρ:=((Int×(Int×(Int×(Bool×(Bool×(List Int)))))) ⊕ ((List Int)×Unit))) (fun s10 => Option.bind (F75 s10.2 s4.1 s4.2.1) fun v12 => aO (σ:=(Int×(Int×(List Int)))) (ρ:=((Int×(Int×(Int×(Bool×(Bool×(List Int)))))) ⊕ ((List Int)×Unit))) (fun s13 => aO (σ:=(List Int)) (ρ:=((Int×(Int×(Int×(Bool×(Bool×(List Int)))))) ⊕ ((List Int)×Unit))) (fun s16 => Option.bind (if ((decide (s4.1>(0:Int)))&&true)=true then (aA s16 (IntKind.wrap .i64 (s4.1 - (1:Int)))) else some (0:Int)) fun v17 => Option.bind (if ((decide (s4.1>(0:Int)))&&true)=true then (aA s16 (IntKind.wrap .i64 (s4.1 - (1:Int)))) else some (0:Int)) fun v18 => Option.bind (if ((decide (s4.1>(0:Int)))&&true)=true then (aA s16 s13.1) else some (0:Int)) fun v19 => Option.bind (if ((decide (s4.1>(0:Int)))&&true)=true then (aA s16 s13.1) else some (0:Int)) fun v20 => Option.bind (if ((decide (s4.1>(0:Int)))&&true)=true then (F37 v18 v20) else some false) fun v21 => if (if (decide (s4.1>(0:Int)))=true then (!v21) else false)=true then Option.bind (F78 s16 s4.1 s4.2.1 s13.1) fun v22 => j10_3 (s4.2.1,s10.1,s4.2.2.2.1,s4.2.2.2.2.1,v22.2,v22.1) else Option.bind (F79 s16 s4.1 s4.2.1 s13.1) fun v22 => Option.bind (Ej .i64 (IntKind.wrap .i64 (s4.2.1 - s4.1)) (8:Int)) fun v23 => aO (σ:=(Int×(Bool×(Int×(List Int))))) (ρ:=((Int×(Int×(Int×(Bool×(Bool×(List Int)))))) ⊕ ((List Int)×Unit))) (fun s24 => j10_3 (s24.1,s10.1,s24.2.1,v22.2.2,s24.2.2.1,s24.2.2.2)) fun j24_5 => if (decide ((IntKind.wrap .i64 (v22.2.1 - s4.1))<(IntKind.wrap .i64 (s4.2.1 - v22.2.1))))=true then Option.bind (ZY v22.1 s4.1 v22.2.1 s10.1) fun v24 => j24_5 (s4.2.1,(decide ((IntKind.wrap .i64 (v22.2.1 - s4.1))≥v23)),(IntKind.wrap .i64 (v22.2.1+(1:Int))),v24.1) else Option.bind (ZY v22.1 (IntKind.wrap .i64 (v22.2.1+(1:Int))) s4.2.1 s10.1) fun v24 => j24_5 (v22.2.1,(decide ((IntKind.wrap .i64 (s4.2.1 - v22.2.1))≥v23)),s4.1,v24.1)) fun j16_5 => if (if (if s4.2.2.2.1=true then s4.2.2.2.2.1 else false)=true then (s13.2.1==(1:Int)) else false)=true then Option.bind (F77 s13.2.2 s4.1 s4.2.1) fun v16 => if v16.2=true then j10_4 v16.1 else j16_5 v16.1 else j16_5 s13.2.2) fun j13_5 => if (v12.2.2==(2:Int))=true then Option.bind (F76 v12.1 s4.1 s4.2.1) fun v13 => j13_5 ((IntKind.wrap .i64 ((IntKind.wrap .i64 (s4.2.1 - (1:Int))) - (IntKind.wrap .i64 (v12.2.1 - s4.1)))),(1:Int),v13.1) else j13_5 (v12.2.1,v12.2.2,v12.1)) fun j10_5 => if (!s4.2.2.2.1)=true then Option.bind (F74 s4.2.2.2.2.2 s4.1 s4.2.1) fun v10 => j10_5 ((IntKind.wrap .i64 (s4.2.2.1 - (1:Int))),v10.1) else j10_5 (s4.2.2.1,s4.2.2.2.2.2)) (a1,a2,a3,true,true,a0)
def L55:Lib Go.Proofs.Try.prog:=abV.turn pm 55 (.int .u64) [(.int .i64),(.int .i64),(.int .i64)] .unit (fun st=>F55 st.1 st.2.1 st.2.2.1 st.2.2.2) [(55,17,[.calm (.range 15)])] [(1,[1,2,3,8,9],[[987654]],[],[],[])] [(72,.turn 72 (.int .u64) [(.int .i64),(.int .i64)] .unit),(73,.turn 73 (.int .u64) [(.int .i64),(.int .i64)] .unit),(74,.turn 74 (.int .u64) [(.int .i64),(.int .i64)] .unit),(75,.turn 75 (.int .u64) [(.int .i64),(.int .i64)] (.prod (.int .i64) (.int .i64))),(76,.turn 76 (.int .u64) [(.int .i64),(.int .i64)] .unit),(77,.turn 77 (.int .u64) [(.int .i64),(.int .i64)] .bool),(78,.turn 78 (.int .u64) [(.int .i64),(.int .i64),(.int .i64)] (.int .i64)),(79,.turn 79 (.int .u64) [(.int .i64),(.int .i64),(.int .i64)] (.prod (.int .i64) .bool)),(55,.turn 55 (.int .u64) [(.int .i64),(.int .i64),(.int .i64)] .unit)] (aJ rfl (aJ rfl (aJ rfl (aJ rfl (aJ rfl (aJ rfl (aJ rfl (aJ rfl (aJ rfl au))))))))) (fun _=>by kernel_rfl)
def F40 (a0:(List Int)):Option ((List Int)×Unit) := Option.bind (F56 (IntKind.wrap .u64 ((List.length a0:Nat):Int))) fun v1 => Option.bind (F55 a0 (0:Int) ((List.length a0:Nat):Int) v1) fun v2 => some ((v2.1,()))
def L40:Lib Go.Proofs.Try.prog:=L55.turn pm 40 (.int .u64) [] .unit (fun st=>F40 st) [] [] [(55,.turn 55 (.int .u64) [(.int .i64),(.int .i64),(.int .i64)] .unit)] (aJ rfl au) (fun _=>by kernel_rfl)
abbrev t10:Ty:=.st (.prod t7 (.prod (.cst .nilm) (.prod (.sl (.int .u64)) (.prod (.sl (.int .u64)) .unit))))
abbrev D10:Type:=(D7×(Unit×((List Int)×((List Int)×Unit))))
abbrev Bo (x:D10) (y:D7):D10:=(y,x.2)
def F8 (a0:D7) (a1:Int) (a2:Int):Option (D7×((List Int)×Int)) := Option.bind (F15 a0 a1) fun v3 => Option.bind (F16 v3.1.2.2.2.2.2.1 a2) fun v4 => if (if (!v3.2)=true then true else (!v4.2))=true then some ((a0,(([]:List Int),(1:Int)))) else aO (σ:=(List (Int×Int))) (ρ:=(D7×((List Int)×Int))) (fun s5 => Option.bind (FY 8 ([]:List Int) v3.1.2.2.2.2.2.1) fun v6 => Option.bind (abM v6 v4.1 (IntKind.wrap .i64 (v4.1+(1:Int)))) fun v7 => Option.bind (F20 a0 (dH v3.1 v7)) fun v8 => aO (σ:=(List Int)) (ρ:=(D7×((List Int)×Int))) (fun s9 => aO (σ:=(D10×((List Int)×((List (Int×Int))×(List Int))))) (ρ:=(D7×((List Int)×Int))) (fun s10 => Option.bind (F40 s10.2.2.2) fun v14 => aO (σ:=(D7×(List D6))) (ρ:=(D7×((List Int)×Int))) (fun s15 => some (((bn s15.1 s15.2),(v14.1,(0:Int))))) fun j15_1 => aH (σ:=(Int×(D7×(List D6)))) (ρ:=(D7×((List Int)×Int))) (fun s15 => if (decide (s15.1<((List.length s10.1.1.2.2.2.1:Nat):Int)))=true then aO (σ:=(D6×(List D6))) (ρ:=((Int×(D7×(List D6))) ⊕ (D7×((List Int)×Int)))) (fun s18 => turn ((IntKind.wrap .i64 (s15.1+(1:Int))),s15.2.1,s18.2)) fun j18_3 => Option.bind (aA s10.1.1.2.2.2.1 s15.1) fun v18 => Option.bind (F16 v14.1 v18.1) fun v19 => if (!v19.2)=true then Option.bind (some ([v18]:List D6)) fun v20 => Option.bind (FY 632 s15.2.2 v20) fun v21 => j18_3 (v18,v21) else j18_3 (v18,s15.2.2) else done (j15_1 (s15.2.1,s15.2.2))) ((0:Int),s10.1.1,([]:List D6))) fun j10_1 => aH (σ:=(D10×((List Int)×((List (Int×Int))×(List Int))))) (ρ:=(D7×((List Int)×Int))) (fun s10 => if (((List.length s10.2.1:Nat):Int)==(0:Int))=true then done (j10_1 (s10.1,s10.2.1,s10.2.2.1,s10.2.2.2)) else Option.bind (aA s10.2.1 (0:Int)) fun v14 => Option.bind (F15 s10.1.1 v14) fun v15 => Option.bind (abL s10.2.1 (1:Int) ((List.length s10.2.1:Nat):Int)) fun v16 => Option.bind (some ([v15.1.1]:List Int)) fun v17 => Option.bind (FY 8 s10.2.2.2 v17) fun v18 => aO (σ:=(D10×((List Int)×(List (Int×Int))))) (ρ:=((D10×((List Int)×((List (Int×Int))×(List Int)))) ⊕ (D7×((List Int)×Int)))) (fun s19 => turn (s19.1,s19.2.1,s19.2.2,v18)) fun j19_3 => aH (σ:=(Int×(D10×((List Int)×(List (Int×Int)))))) (ρ:=((D10×((List Int)×((List (Int×Int))×(List Int)))) ⊕ (D7×((List Int)×Int)))) (fun s19 => if (decide (s19.1<((List.length v15.1.2.2.2.2.2.1:Nat):Int)))=true then Option.bind (aA v15.1.2.2.2.2.2.1 s19.1) fun v23 => aO (σ:=(List Int)) (ρ:=((Int×(D10×((List Int)×(List (Int×Int))))) ⊕ ((D10×((List Int)×((List (Int×Int))×(List Int)))) ⊕ (D7×((List Int)×Int))))) (fun s24 => turn ((IntKind.wrap .i64 (s19.1+(1:Int))),s19.2.1,s24,(jV s19.2.2.2 v23 (IntKind.wrap .i64 ((bK (0:Int) s19.2.2.2 v23) - (1:Int)))))) fun j24_5 => if ((bK (0:Int) (jV s19.2.2.2 v23 (IntKind.wrap .i64 ((bK (0:Int) s19.2.2.2 v23) - (1:Int)))) v23)==(0:Int))=true then Option.bind (some ([v23]:List Int)) fun v24 => Option.bind (FY 8 s19.2.2.1 v24) fun v25 => j24_5 v25 else j24_5 s19.2.2.1 else done (j19_3 (s19.2.1,s19.2.2.1,s19.2.2.2))) ((0:Int),s10.1,v16,s10.2.2.1)) ((Bo (Bo (Ty.zero t10:D10) a0) v8),s9,(jV s5 a2 (IntKind.wrap .i64 ((bK (0:Int) s5 a2) - (1:Int)))),([]:List Int))) fun j9_1 => if ((bK (0:Int) (jV s5 a2 (IntKind.wrap .i64 ((bK (0:Int) s5 a2) - (1:Int)))) a2)==(0:Int))=true then Option.bind (some ([a2]:List Int)) fun v9 => Option.bind (FY 8 ([]:List Int) v9) fun v10 => j9_1 v10 else j9_1 ([]:List Int)) fun j5_1 => aH (σ:=(Int×(List (Int×Int)))) (ρ:=(D7×((List Int)×Int))) (fun s5 => if (decide (s5.1<((List.length a0.2.2.2.1:Nat):Int)))=true then Option.bind (aA a0.2.2.2.1 s5.1) fun v7 => aO (σ:=(List (Int×Int))) (ρ:=((Int×(List (Int×Int))) ⊕ (D7×((List Int)×Int)))) (fun s8 => turn ((IntKind.wrap .i64 (s5.1+(1:Int))),s8)) fun j8_3 => aH (σ:=(Int×(List (Int×Int)))) (ρ:=((Int×(List (Int×Int))) ⊕ (D7×((List Int)×Int)))) (fun s8 => if (decide (s8.1<((List.length v7.2.2.2.2.2.1:Nat):Int)))=true then Option.bind (aA v7.2.2.2.2.2.1 s8.1) fun v10 => turn ((IntKind.wrap .i64 (s8.1+(1:Int))),(jV s8.2 v10 (IntKind.wrap .i64 ((bK (0:Int) s8.2 v10)+(1:Int))))) else done (j8_3 s8.2)) ((0:Int),s5.2) else done (j5_1 s5.2)) ((0:Int),([]:List (Int×Int)))
def L8:Lib Go.Proofs.Try.prog:=L40.add pm 8 [t7,(.int .u64),(.int .u64)] (.prod t7 (.prod (.sl (.int .u64)) (.int .i64))) (fun st=>F8 st.1 st.2.1 st.2.2) [(57,3,[.calm (.range 12)]),(79,1,[.calm (.range 16)]),(79,3,[.calm (.range 14)]),(79,5,[.calm (.range 15)]),(79,8,[.calm (.range 16)]),(79,10,[.calm (.range 16)]),(79,13,[.calm (.range 14)]),(79,15,[.calm (.range 15)]),(79,18,[.calm (.range 16)]),(79,21,[.calm (.range 16)]),(78,1,[.calm (.range 16)]),(78,3,[.calm (.range 15)]),(78,5,[.calm (.range 14)]),(78,8,[.calm (.range 16)]),(77,5,[.calm (.range 16)]),(77,11,[.calm (.range 18)]),(77,16,[.calm (.range 11)]),(77,17,[.calm (.range 18)]),(77,22,[.calm (.range 11)]),(77,23,[.calm (.range 18)]),(76,3,[.calm (.range 16)]),(101,1,[.calm (.range 9)]),(94,1,[.calm (.range 9),.bar 9]),(94,2,[.calm (.range 9),.bar 9]),(94,3,[.calm (.range 9),.bar 9]),(74,10,[.calm (.range 20)]),(92,3,[.calm (.range 20)]),(92,5,[.calm (.range 14)]),(92,6,[.calm (.range 24)]),(73,10,[.calm (.range 20)]),(72,4,[.calm (.range 15)]),(72,6,[.calm (.range 18)]),(55,17,[.calm (.range 15)]),(22,1,[.calm (.range 17)]),(22,3,[.beside [1,2,3,4,5,6,7] [0] [8],.calm [9,10],.bar 11]),(18,5,[.calm (.range 6),.bar 6,.bar 7]),(8,10,[.beside [0] [2,3,4,5] [1,6],.calm [7,8]])] [(2,[15],[[9,1]],[],[],[]),(3,[22],[[9,1]],[],[],[]),(6,[],[[11,1],[9,1],[6,424242,11,1]],[],[],[]),(7,[48],[[11,1],[9,1]],[],[],[]),(12,[13],[[3,9]],[],[],[])] [(92,.turn 92 (.int .u64) [(.int .i64),(.int .i64),(.int .i64)] .unit),(72,.turn 72 (.int .u64) [(.int .i64),(.int .i64)] .unit),(73,.turn 73 (.int .u64) [(.int .i64),(.int .i64)] .unit),(74,.turn 74 (.int .u64) [(.int .i64),(.int .i64)] .unit),(75,.turn 75 (.int .u64) [(.int .i64),(.int .i64)] (.prod (.int .i64) (.int .i64))),(76,.turn 76 (.int .u64) [(.int .i64),(.int .i64)] .unit),(77,.turn 77 (.int .u64) [(.int .i64),(.int .i64)] .bool),(78,.turn 78 (.int .u64) [(.int .i64),(.int .i64),(.int .i64)] (.int .i64)),(79,.turn 79 (.int .u64) [(.int .i64),(.int .i64),(.int .i64)] (.prod (.int .i64) .bool)),(55,.turn 55 (.int .u64) [(.int .i64),(.int .i64),(.int .i64)] .unit),(40,.turn 40 (.int .u64) [] .unit),(19,.clo 28 22),(18,.del 22),(2066006,.vec)] (aJ rfl (aJ rfl (aJ rfl (aJ rfl (aJ rfl (aJ rfl (aJ rfl (aJ rfl (aJ rfl (aJ rfl (aJ rfl (aJ (Go.InsK.U2) (aJ Go.InsK.UY (aJ trivial au)))))))))))))) (fun _=>by kernel_rfl)
abbrev Gg (x:D7) (y:Int):D7:=(x.1,(x.2.1,(y,x.2.2.2)))
def F7:Option Bool := Option.bind (some ([(2:Int)]:List Int)) fun v0 => Option.bind (some ([(dH (iI (iH (iG (Ty.zero t6:D6) (1:Int)) (2:Int)) (3:Int)) v0),(iI (iH (iG (Ty.zero t6:D6) (2:Int)) (1:Int)) (1:Int))]:List D6)) fun v1 => Option.bind (F8 (bn (Gg (Ty.zero t7:D7) (1:Int)) v1) (1:Int) (2:Int)) fun v2 => Option.bind (F8 (bn (Gg (Ty.zero t7:D7) (1:Int)) v1) (1:Int) (3:Int)) fun v3 => Option.bind (if ((if (((List.length v2.1.2.2.2.1:Nat):Int)==(1:Int))=true then (((List.length v2.2.1:Nat):Int)==(1:Int)) else false)&&true)=true then (aA v2.2.1 (0:Int)) else some (0:Int)) fun v4 => zN ((if (if (if (((List.length v2.1.2.2.2.1:Nat):Int)==(1:Int))=true then (((List.length v2.2.1:Nat):Int)==(1:Int)) else false)=true then (v4==(2:Int)) else false)=true then (v2.2.2==(0:Int)) else false)) fun v5 => some ((if v5=true then (v3.2.2==(1:Int)) else false))
def L7:Lib Go.Proofs.Try.prog:=L8.add pm 7 [] .bool (fun st=>F7) [] [] [] au (fun _=>by kernel_rfl)
def F9 (a0:D7) (a1:D7):Option Bool := zN ((if (if (if (a0.1 != a1.1)=true then true else (a0.2.1 != a1.2.1))=true then true else (a0.2.2.1 != a1.2.2.1))=true then true else (((List.length a0.2.2.2.1:Nat):Int) != ((List.length a1.2.2.2.1:Nat):Int)))) fun v2 => if v2=true then some false else aO (σ:=Unit) (ρ:=Bool) (fun s3 => some true) fun j3_1 => aO (σ:=Unit) (ρ:=Bool) (fun s3 => some false) fun j3_2 => aH (σ:=Int) (ρ:=Bool) (fun s3 => if (decide (s3<((List.length a0.2.2.2.1:Nat):Int)))=true then Option.bind (aA a0.2.2.2.1 s3) fun v4 => Option.bind (aA a1.2.2.2.1 s3) fun v5 => Option.bind (F14 v4 v5) fun v6 => if (!v6)=true then done (j3_2 ()) else turn (IntKind.wrap .i64 (s3+(1:Int))) else done (j3_1 ())) (0:Int)
def L9:Lib Go.Proofs.Try.prog:=L7.add pm 9 [t7,t7] .bool (fun st=>F9 st.1 st.2) [(9,6,[.calm (.range 12)])] [(1,[5],[],[],[],[])] [] au (fun _=>by kernel_rfl)
def F13 (a0:D7) (a1:D6):Option Int := Option.bind (F29 a0 a1) fun v2 => some ((IntKind.wrap .i64 (a1.2.2.2.1 - v2)))
def L13:Lib Go.Proofs.Try.prog:=L9.add pm 13 [t7,t6] (.int .i64) (fun st=>F13 st.1 st.2) [(13,1,[.calm (.range 7)])] [] [] au (fun _=>by kernel_rfl)
def F3 (a0:D7) (a1:Int) (a2:Int):Option Bool := Option.bind (F6 a0) fun v3 => if (!v3)=true then Option.bind (F7) fun v4 => some v4 else Option.bind (F8 a0 a1 a2) fun v4 => if (v4.2.2 != (0:Int))=true then Option.bind (F9 v4.1 a0) fun v5 => Option.bind (if ((if v5=true then (((List.length v4.2.1:Nat):Int)==(0:Int)) else false)&&true)=true then (F7) else some false) fun v6 => some ((if (if v5=true then (((List.length v4.2.1:Nat):Int)==(0:Int)) else false)=true then v6 else false)) else Option.bind (F10 v4.1) fun v5 => zN ((if (if (!v5)=true then true else ((IntKind.wrap .i64 (((List.length v4.1.2.2.2.1:Nat):Int)+((List.length v4.2.1:Nat):Int))) != ((List.length a0.2.2.2.1:Nat):Int)))=true then true else (v4.1.2.2.1 != a0.2.2.1))) fun v6 => if (if v6=true then true else (v4.1.1 != a0.1))=true then some false else aO (σ:=Unit) (ρ:=Bool) (fun s7 => aO (σ:=Unit) (ρ:=Bool) (fun s7 => Option.bind (F7) fun v7 => some v7) fun j7_1 => aO (σ:=(D6×D6)) (ρ:=Bool) (fun s7 => some false) fun j7_2 => aH (σ:=Int) (ρ:=Bool) (fun s7 => if (decide (s7<((List.length v4.1.2.2.2.1:Nat):Int)))=true then aO (σ:=(D6×D6)) (ρ:=(Int ⊕ Bool)) (fun s8 => done (j7_2 (s8.1,s8.2))) fun j8_4 => Option.bind (aA v4.1.2.2.2.1 s7) fun v8 => Option.bind (F11 a0 v8.1) fun v9 => Option.bind (if ((!(!v9.2))&&true)=true then (F13 v4.1 v8) else some (0:Int)) fun v10 => Option.bind (if ((!(!v9.2))&&true)=true then (F13 a0 v9.1) else some (0:Int)) fun v11 => if (if (!v9.2)=true then true else (decide (v10<v11)))=true then j8_4 (v9.1,v8) else aO (σ:=D6) (ρ:=(Int ⊕ Bool)) (fun s12 => Option.bind (F14 s12 v9.1) fun v13 => Option.bind (if ((!(!v13))&&((s12.1 != v4.1.2.2.1)&&true))=true then (F12 v4.1 s12.1) else some ([]:List Int)) fun v14 => if (if (!v13)=true then true else (if (s12.1 != v4.1.2.2.1)=true then (((List.length v14:Nat):Int)==(0:Int)) else false))=true then j8_4 (v9.1,s12) else turn (IntKind.wrap .i64 (s7+(1:Int)))) fun j12_5 => if (v8.1==a1)=true then if (((List.length v9.1.2.2.2.2.2.1:Nat):Int) != (IntKind.wrap .i64 (((List.length v8.2.2.2.2.2.1:Nat):Int)+(1:Int))))=true then j8_4 (v9.1,v8) else j12_5 (dH v8 v9.1.2.2.2.2.2.1) else j12_5 v8 else done (j7_1 ())) (0:Int)) fun j7_1 => aO (σ:=(D6×D6)) (ρ:=Bool) (fun s7 => some false) fun j7_2 => aH (σ:=Int) (ρ:=Bool) (fun s7 => if (decide (s7<((List.length v4.2.1:Nat):Int)))=true then Option.bind (aA v4.2.1 s7) fun v8 => Option.bind (F11 a0 v8) fun v9 => Option.bind (F11 v4.1 v8) fun v10 => Option.bind (if ((!(if (!v9.2)=true then true else v10.2))&&((decide (s7>(0:Int)))&&true))=true then (aA v4.2.1 (IntKind.wrap .i64 (s7 - (1:Int)))) else some (0:Int)) fun v11 => Option.bind (if ((!(if (if (!v9.2)=true then true else v10.2)=true then true else (if (decide (s7>(0:Int)))=true then (decide (v11≥v8)) else false)))&&true)=true then (F12 v4.1 v8) else some ([]:List Int)) fun v12 => if (if (if (if (!v9.2)=true then true else v10.2)=true then true else (if (decide (s7>(0:Int)))=true then (decide (v11≥v8)) else false))=true then true else (decide (((List.length v12:Nat):Int)>(0:Int))))=true then done (j7_2 (v10.1,v9.1)) else turn (IntKind.wrap .i64 (s7+(1:Int))) else done (j7_1 ())) (0:Int)
end
end Go.Fn
namespace Go.Fn
open Go Go.Ab Go.Tx
abbrev objs (w:D7):List D6:=w.2.2.2.1
def abp (o:D6):Prop:=o.2.2.1.length≤20∧o.2.2.2.2.2.1.length≤70∧o.2.2.2.2.2.2.1.length≤300∧o.2.2.2.2.2.2.2.1.length≤20
def bM (l:List D6) (id:Int):D6×Bool:=match l.find? (fun o=>o.1==id) with | some o=>(o,true) | none=>(Ty.zero t6,false)
theorem vO (w:D7) (id:Int) (hl:(objs w).length≤1000):F11 w id=some (bM (objs w) id):=by
 refine Def.eq ?_
 unfold F11
 simp only [ay,eG]
 refine Def.loop (fun i:Int=>0≤i∧i≤(objs w).length∧(objs w).find? (fun o=>o.1==id)=((objs w).drop i.toNat).find? (fun o=>o.1==id)) (fun i:Int=>(objs w).length - i.toNat) ⟨by omega,by omega,by simp⟩ (fun i hi=>?_)
 refine Def.ite (fun h1=>?_) (fun h1=>?_)
 ·have h1:i<(objs w).length:=by simpa [objs] using h1
  have e:(i+1).toNat=i.toNat+1:=by omega
  refine Def.bind (Def.idx hi.1 h1 (fun o ho hm=>?_))
  have hd:(objs w).drop i.toNat=o::(objs w).drop (i.toNat+1):=by
   obtain ⟨hk,e⟩:=List.getElem?_eq_some_iff.1 ho
   rw [← e];exact List.drop_eq_getElem_cons hk
  have hf:=hi.2.2
  rw [hd,List.find?_cons] at hf
  refine Def.ite (fun h2=>Def.bind (Def.idx hi.1 h1 (fun o' ho' _=>?_))) (fun h2=>.turn ?_)
  ·rw [ho] at ho'; cases ho'
   refine .done (.ret ?_)
   unfold bM
   rw [hf,h2]
  ·have hw:IntKind.wrap .i64 (i+1)=i+1:=wrap_i64 (by omega) (by omega)
   rw [hw]
   have h2:(o.1==id)=false:=by simpa using h2
   rw [h2] at hf
   exact ⟨⟨by omega,by omega,by rw [e];exact hf⟩,by omega⟩
 ·have h1 : ¬ i<(objs w).length:=by simpa [objs] using h1
  refine .done (.ret ?_)
  have hf:=hi.2.2
  rw [List.drop_eq_nil_of_le (by omega)] at hf
  unfold bM
  rw [hf];rfl
theorem Z4 (l:List Int) (n:Int) (hl:l.length≤1000000):F28 l n=some (l.contains n):=by
 refine Def.eq ?_
 unfold F28
 simp only [ay]
 refine Def.sZ (l:=l) (fun pre=>n ∉ pre) (by omega) (by simp) (fun pre v post e hi=>?_) (fun hi=>?_)
 ·refine Def.ite (fun h=>.done (.ret ?_)) (fun h=>.turn ⟨rfl,?_⟩)
  ·have h:v=n:=by simpa using h
   rw [e,h];simp
  ·have h : ¬ v=n:=by simpa using h
   simp only [List.mem_append,List.mem_singleton,not_or]
   exact ⟨hi,fun e=>h e.symm⟩
 ·refine .done (.ret ?_)
  simpa using hi
abbrev lnk (o:D6):List Int:=o.2.2.2.2.2.1
def aI (l:List D6) (id:Int):List Int:=(l.filter fun o=>(lnk o).contains id).map (·.1)
theorem yY (a b:List D6) (id:Int):aI (a++b) id=aI a id++aI b id:=by simp [aI]
theorem IV (l:List D6) (id:Int):(aI l id).length≤l.length:=by
 rw [aI,List.length_map];exact List.length_filter_le _ _
theorem Kv (w:D7) (id:Int) (hl:(objs w).length≤1000) (hk:∀ o∈objs w,(lnk o).length≤1000):F12 w id=some (aI (objs w) id):=by
 refine Def.eq ?_
 unfold F12
 simp only [ay]
 refine Def.Sr (l:=objs w) (fun pre a=>a=aI pre id) (by omega) rfl (fun pre v post a e hi=>?_) (fun a hi=>?_)
 ·subst hi
  have hv:v∈objs w:=by rw [e];simp
  have hn:pre.length<(objs w).length:=by rw [e];simp
  have hg:(objs w)[pre.length]? = some v:=by rw [e];simp
  refine Def.bind (Def.of (Z4 (lnk v) id (by have:=hk v hv;omega)) ?_)
  refine Def.ite (fun h=>?_) (fun h=>.turn ⟨rfl,?_⟩)
  ·refine Def.bind (Def.idx (l:=objs w) (by simp only;omega) (by simp only;exact_mod_cast hn) (fun v' hv' _=>?_))
   simp only [Int.toNat_natCast] at hv'
   rw [hg] at hv'; cases hv'
   refine Def.bind (.ret ?_)
   have hh:=IV pre id
   refine Def.bind (Def.app (by simp only [List.length_cons,List.length_nil];omega) ?_)
   refine .turn ⟨rfl,?_⟩
   rw [yY]
   simp only [aI,List.filter_cons,h,List.filter_nil,if_true,List.map_cons,List.map_nil]
  ·rw [yY]
   have h:(lnk v).contains id=false:=by simpa using h
   simp only [aI,List.filter_cons,h,List.filter_nil,List.map_nil,List.append_nil]
   simp
 ·subst hi
  exact .done (.ret rfl)
abbrev dat (o:D6):List Int:=o.2.2.2.2.2.2.1
def pages (o:D6):Int:=1+((dat o).length+15) / 16
theorem Z5 (o:D6) (h:(dat o).length≤1000000):F47 o=some (pages o):=by
 unfold F47
 have h' : (o.2.2.2.2.2.2.1).length≤1000000:=h
 rw [wrap_i64 (x:=((o.2.2.2.2.2.2.1).length:Int)+16) (by omega) (by omega),wrap_i64 (x:=((o.2.2.2.2.2.2.1).length:Int)+16 - 1) (by omega) (by omega)]
 have e:((o.2.2.2.2.2.2.1).length:Int)+16 - 1=(o.2.2.2.2.2.2.1).length+15:=by omega
 have e2:(((o.2.2.2.2.2.2.1).length:Int)+15).tdiv 16=((o.2.2.2.2.2.2.1).length+15) / 16:=Int.tdiv_eq_ediv_of_nonneg (by omega)
 rw [e,Ej,if_pos (by decide),e2,wrap_i64 (by omega) (by omega),Option.bind_some,wrap_i64 (by omega) (by omega)]
 rfl
abbrev quo (o:D6):Int:=o.2.2.2.1
def qB (l:List D6) (n:Int) (ids:List Int):Int:=ids.foldl (fun n id=>IntKind.wrap .i64 (n+quo (bM l id).1)) n
theorem Q8 (w:D7) (o:D6) (hl:(objs w).length≤1000) (hd:(dat o).length≤1000000) (hk:(lnk o).length≤1000):F29 w o=some (qB (objs w) (pages o) (lnk o)):=by
 refine Def.eq ?_
 unfold F29
 rw [Z5 o hd,Option.bind_some]
 simp only [ay]
 refine Def.Sr (l:=lnk o) (fun pre a=>a=qB (objs w) (pages o) pre) (by omega) rfl (fun pre v post a e hi=>?_) (fun a hi=>?_)
 ·subst hi
  refine Def.bind (Def.of (vO w v hl) ?_)
  refine .turn ⟨rfl,?_⟩
  simp only [qB,List.foldl_append,List.foldl_cons,List.foldl_nil]
 ·subst hi
  exact .done (.ret rfl)
def qC (l:List D6):Nat→Int→List Int→List Int
 | 0,_,_=>[]
 | k+1,id,acc=>match aI l id with
  | []=>acc
  | d::_=>qC l k d (acc++[d])
theorem Z7 (w:D7) (id:Int) (hl:(objs w).length≤1000) (hk:∀ o∈objs w,(lnk o).length≤1000):F68 w id=some (qC (objs w) ((objs w).length+1) id []):=by
 refine Def.eq ?_
 unfold F68
 simp only [ay]
 refine Def.loop (fun s:Int×List Int=>s.2.length≤(objs w).length+1∧qC (objs w) ((objs w).length+1 - s.2.length) s.1 s.2=qC (objs w) ((objs w).length+1) id []) (fun s=>(objs w).length+1 - s.2.length) ⟨by simp,by simp⟩ (fun s hi=>?_)
 obtain ⟨h1,h2⟩:=hi
 refine Def.ite (fun hc=>?_) (fun hc=>?_)
 ·have hc:s.2.length≤(objs w).length:=by simp only [decide_eq_true_eq] at hc;exact_mod_cast hc
  obtain ⟨k,hk'⟩:∃ k,(objs w).length+1 - s.2.length=k+1:=⟨(objs w).length - s.2.length,by omega⟩
  rw [hk',qC] at h2
  refine Def.bind (Def.of (Kv w s.1 hl hk) ?_)
  refine Def.ite (fun h=>.done (.ret ?_)) (fun h=>?_)
  ·have h:aI (objs w) s.1=[]:=by simpa using h
   rw [h] at h2;exact h2
  ·cases hh:aI (objs w) s.1 with
   | nil=>rw [hh] at h;simp at h
   | cons d r =>
    rw [hh] at h2
    refine Def.bind (Def.idx (by omega) (by simp only [List.length_cons];omega) (fun v hv _=>?_))
    simp at hv;subst hv
    refine Def.bind (.ret (Def.bind (Def.app (by simp only [List.length_cons,List.length_nil];omega) (.turn ?_))))
    refine ⟨⟨by simp;omega,?_⟩,by simp only [List.length_append,List.length_cons,List.length_nil];omega⟩
    rw [← h2]
    simp only [List.length_append,List.length_cons,List.length_nil]
    rw [show (objs w).length+1 - (s.2.length+(0+1))=k from by omega]
 ·have hc : ¬ s.2.length≤(objs w).length:=by simp only [decide_eq_true_eq] at hc;exact_mod_cast hc
  refine .done (.ret ?_)
  rw [← h2,show (objs w).length+1 - s.2.length=0 from by omega]
  rfl
def above (l:List D6) (id:Int):List Int:=qC l (l.length+1) id []
def upB (l:List D6) (root id:Int):Bool:=match (above l id).getLast? with | none=>id==root | some r=>r==root
theorem yZ (l:List D6):∀ (k:Nat) (id:Int) (acc:List Int),(qC l k id acc).length≤acc.length+k
 | 0,_,_=>by simp [qC]
 | k+1,id,acc=>by
  rw [qC]
  split
  ·omega
  ·have:=yZ l k (by assumption) (acc++[by assumption])
   rename_i d _ _
   have:=yZ l k d (acc++[d])
   simp only [List.length_append,List.length_cons,List.length_nil] at this
   omega
theorem Z8 (w:D7) (id:Int) (hl:(objs w).length≤1000) (hk:∀ o∈objs w,(lnk o).length≤1000):F44 w id=some (upB (objs w) w.2.2.1 id):=by
 refine Def.eq ?_
 unfold F44
 refine Def.bind (Def.of (Z7 w id hl hk) ?_)
 have hn:=yZ (objs w) ((objs w).length+1) id []
 unfold upB above
 generalize qC (objs w) ((objs w).length+1) id []=a at hn
 simp only [List.length_nil] at hn
 cases ha:a.getLast? with
 | none =>
  have:a=[]:=List.getLast?_eq_none_iff.1 ha
  subst this
  refine Def.bind (Def.ite (fun h=>by simp at h) (fun _=>.ret (.ret ?_)))
  cases hb:(id==w.2.2.1) <;> simp [hb]
 | some r =>
  have hne:a≠[]:=fun e=>by rw [e] at ha;cases ha
  have hpos:0<a.length:=List.length_pos_iff.2 hne
  have hw:IntKind.wrap .i64 ((a.length:Int) - 1)=(a.length:Int) - 1:=wrap_i64 (by omega) (by omega)
  have hl0:((a.length:Int)==0)=false:=by simp;omega
  refine Def.bind (Def.ite (fun h=>?_) (fun h=>?_))
  ·rw [hw]
   refine Def.idx (by omega) (by omega) (fun v hv _=>.ret ?_)
   have e:((a.length:Int) - 1).toNat=a.length - 1:=by omega
   rw [e,← List.getLast?_eq_getElem?,ha] at hv
   cases hv
   simp [hl0,hpos]
  ·exfalso
   apply h
   simp [hl0,hpos]
def jy (l:List D6) (root:Int) (o:D6):Bool :=
 let n:=(aI l o.1).length
 if o.1=root then n==0&&(o.2.1==2&&decide (quo o≤1024))
 else if n<1∨1<n∧(o.2.2.2.2.1=false∨o.2.1=2∨o.2.1=4) then false
 else if o.2.1=2 then upB l root o.1 else true
theorem V3 (w:D7) (o:D6) (hl:(objs w).length≤1000) (hk:∀ o∈objs w,(lnk o).length≤1000):F26 w o=some (jy (objs w) w.2.2.1 o):=by
 refine Def.eq ?_
 unfold F26
 refine Def.bind (Def.of (Kv w o.1 hl hk) ?_)
 unfold jy
 simp only
 generalize (aI (objs w) o.1).length=n
 refine Def.ite (fun h=>.ret ?_) (fun h=>?_)
 ·have h:o.1=w.2.2.1:=by simpa using h
  rw [if_pos h]
  cases h1:((n:Int)==0) <;> cases h2:(o.2.1==2) <;> simp_all
 ·have h : ¬ o.1=w.2.2.1:=by simpa using h
  rw [if_neg h]
  refine Def.zN (Def.ite (fun h1=>.ret ?_) (fun h1=>?_))
  ·rw [if_pos]
   by_cases hn:n<1
   ·exact .inl hn
   ·by_cases hn1:1<n
    ·refine .inr ⟨hn1,?_⟩
     cases hf:o.2.2.2.2.1 with
     | false=>exact .inl rfl
     | true =>
      have e1 : ¬ ((n:Int)<1):=by omega
      have e2:(n:Int)>1:=by omega
      simp [hf,e1,e2] at h1
      exact .inr h1
    ·have e1 : ¬ ((n:Int)<1):=by omega
     have e2 : ¬ ((n:Int)>1):=by omega
     simp [e1,e2] at h1
  ·have hcn : ¬ (n<1∨1<n∧(o.2.2.2.2.1=false∨o.2.1=2∨o.2.1=4)):=by
    rintro (hn | ⟨hn,hx⟩)
    ·have e1:(n:Int)<1:=by omega
     simp [e1] at h1
    ·have e1 : ¬ ((n:Int)<1):=by omega
     have e2:(n:Int)>1:=by omega
     rcases hx with hx | hx | hx <;> simp [e1,e2,hx] at h1
   simp only [if_neg hcn]
   by_cases hk2:o.2.1=2
   ·simp only [if_pos hk2]
    refine Def.bind (Def.ite (fun _=>Def.of (Z8 w o.1 hl hk) (.ret ?_)) (fun h2=>?_))
    ·simp [hk2]
    ·simp [hk2] at h2
   ·simp only [if_neg hk2]
    refine Def.bind (Def.ite (fun h2=>?_) (fun _=>.ret (.ret ?_)))
    ·simp [hk2] at h2
    ·simp [hk2]
end Go.Fn
namespace Go.Fn
open Go Go.Ab Go.Tx
structure Whole (l:List D6) (root:Int):Prop where
 few:l.length≤20
 ids:l.Pairwise (fun a b=>a.1<b.1)
 quo:∀ o∈l,1≤quo o∧quo o≤4096
 dat:∀ o∈l,(dat o).length≤300
 lns:∀ o∈l,(lnk o).length≤70
 own:∀ o∈l,o.2.1≠2→lnk o=[]∧pages o≤Fn.quo o
 lnk:∀ o∈l,(lnk o).Pairwise (· < ·)
 has:∀ o∈l,∀ x∈Fn.lnk o,∃ y∈l,y.1=x
 uses:∀ o∈l,o.2.1=2→qB l (pages o) (Fn.lnk o)≤Fn.quo o
 top:∃ r∈l,r.1=root
 placed:∀ o∈l,jy l root o=true
def tot:List Int→Int
 | []=>0
 | a::l=>a+tot l
theorem ru:∀ (A L:List Int),A.Nodup→(∀ x∈A,x∈L)→A.length≤L.length
 | [],L,_,_=>by simp
 | a::A,L,h,hs=>by
  obtain ⟨s,t,e⟩:=List.append_of_mem (hs a (by simp))
  obtain ⟨hn,h2⟩:=List.nodup_cons.1 h
  have ih:=ru A (s++t) h2 (fun x hx=>by
   have:=hs x (by simp [hx])
   rw [e] at this
   have hne:x≠a:=fun e=>hn (e ▸ hx)
   simp only [List.mem_append,List.mem_cons] at this ⊢
   rcases this with h | h | h
   ·exact .inl h
   ·exact absurd h hne
   ·exact .inr h)
  rw [e]
  simp only [List.length_append,List.length_cons] at ih ⊢
  omega
theorem cu:∀ {l:List D6},l.Pairwise (fun a b=>a.1<b.1)→∀ o∈l,bM l o.1=(o,true)
 | [],_,o,h=>by cases h
 | a::l,hp,o,h=>by
  obtain ⟨h1,h2⟩:=List.pairwise_cons.1 hp
  rcases List.mem_cons.1 h with rfl | h
  ·simp [bM]
  ·have:=h1 o h
   have hne:(a.1==o.1)=false:=by simp;omega
   have ih:=cu h2 o h
   unfold bM at ih ⊢
   rw [List.find?_cons,hne]
   exact ih
theorem Yd {l:List D6} (hp:l.Pairwise (fun a b=>a.1<b.1)) {x y:D6} (hx:x∈l) (hy:y∈l) (e:x.1=y.1):x=y:=by
 have h1:=cu hp x hx
 have h2:=cu hp y hy
 rw [e,h2] at h1
 exact (congrArg Prod.fst h1).symm
theorem uQ {l:List D6} {id:Int} (h:∀ o∈l,o.1≠id):bM l id=(Ty.zero t6,false):=by
 have:l.find? (fun o=>o.1==id)=none:=List.find?_eq_none.2 fun o ho=>by simpa using h o ho
 unfold bM
 rw [this]
def vU (l:List D6) (id:Int):Int:=quo (bM l id).1
theorem Kw {l:List D6} (hb:∀ id,0≤vU l id∧vU l id≤4096):∀ (ids:List Int) (n:Int),0≤n→n+ids.length * 4096≤4611686018427387904→qB l n ids=n+tot (ids.map (vU l))
 | [],n,_,_=>by simp [qB,tot]
 | id::ids,n,h0,hn=>by
  have h1:=hb id
  simp only [List.length_cons] at hn
  have ih:=Kw hb ids (n+vU l id) (by omega) (by omega)
  have hw:IntKind.wrap .i64 (n+vU l id)=n+vU l id:=wrap_i64 (by omega) (by omega)
  unfold qB at ih ⊢
  rw [List.foldl_cons,show n+quo (bM l id).1=n+vU l id from rfl,hw,ih]
  simp only [List.map_cons,tot]
  omega
def IW (l:List D6) (o:D6):Int:=pages o+tot ((lnk o).map (vU l))
theorem bZ {l:List D6} {id d:Int}:d∈aI l id↔∃ o∈l,id∈lnk o∧o.1=d:=by
 simp only [aI,List.mem_map,List.mem_filter]
 constructor
 ·rintro ⟨o,⟨h1,h2⟩,h3⟩;exact ⟨o,h1,by simpa using h2,h3⟩
 ·rintro ⟨o,h1,h2,h3⟩;exact ⟨o,⟨h1,by simpa using h2⟩,h3⟩
theorem held {l:List D6} {root:Int} (h:Whole l root) {o:D6} (ho:o∈l) (hr:o.1≠root):aI l o.1≠[]:=by
 have:=h.placed o ho
 unfold jy at this
 simp only [if_neg hr] at this
 intro e
 rw [e] at this
 simp at this
theorem Gh {l:List D6} {root:Int} (h:Whole l root) {o:D6} (ho:o∈l) (hr:o.1=root):aI l o.1=[]∧o.2.1=2∧quo o≤1024:=by
 have:=h.placed o ho
 unfold jy at this
 simp only [if_pos hr,Bool.and_eq_true,beq_iff_eq,decide_eq_true_eq] at this
 exact ⟨List.length_eq_zero_iff.1 this.1,this.2.1,this.2.2⟩
inductive Chain (l:List D6):Int→List Int→Prop
 | nil {id:Int}:aI l id=[]→Chain l id []
 | cons {id d:Int} {r c:List Int}:aI l id=d::r→Chain l d c→Chain l id (d::c)
theorem y5 (l:List D6):∀ (k:Nat) (id:Int) (acc:List Int),qC l k id acc=[]∨∃ c,Chain l id c∧qC l k id acc=acc++c∧c.length<k
 | 0,id,acc=>.inl rfl
 | k+1,id,acc=>by
  rw [qC]
  cases hh:aI l id with
  | nil=>exact .inr ⟨[],.nil hh,by simp,by simp⟩
  | cons d r =>
   rcases y5 l k d (acc++[d]) with h | ⟨c,h1,h2,h3⟩
   ·exact .inl h
   ·exact .inr ⟨d::c,.cons hh h1,by simp only [h2];simp,by simp;omega⟩
theorem Chain.det {l:List D6} {id:Int} {c c' : List Int} (h:Chain l id c) (h' : Chain l id c'):c=c':=by
 induction h generalizing c' with
 | nil e =>
  cases h' with
  | nil=>rfl
  | cons e'=>rw [e] at e'; cases e'
 | cons e h ih =>
  cases h' with
  | nil e'=>rw [e] at e'; cases e'
  | cons e' h'=>rw [e] at e'; cases e'; rw [ih h']
theorem Chain.under {l:List D6} {id:Int} {c:List Int} (h:Chain l id c):∀ x∈c,∃ c',Chain l x c' ∧ c'.length<c.length:=by
 induction h with
 | nil=>intro x hx;cases hx
 | cons e h ih =>
  intro x hx
  rcases List.mem_cons.1 hx with rfl | hx
  ·exact ⟨_,h,by simp⟩
  ·obtain ⟨c',h1,h2⟩:=ih x hx
   exact ⟨c',h1,by simp;omega⟩
theorem Chain.nodup {l:List D6} {id:Int} {c:List Int} (h:Chain l id c):(id::c).Nodup:=by
 induction h with
 | nil=>simp
 | cons e h ih =>
  refine List.nodup_cons.2 ⟨fun hm=>?_,ih⟩
  have h':=Chain.cons e h
  obtain ⟨c',h1,h2⟩:=h'.under _ hm
  rw [h1.det h'] at h2
  exact Nat.lt_irrefl _ h2
theorem Chain.mem {l:List D6} {id:Int} {c:List Int} (h:Chain l id c):∀ x∈c,∃ o∈l,o.1=x:=by
 induction h with
 | nil=>intro x hx;cases hx
 | cons e h ih =>
  intro x hx
  rcases List.mem_cons.1 hx with rfl | hx
  ·obtain ⟨o,ho,_,e'⟩:=bZ.1 (by rw [e];exact List.mem_cons_self:x∈aI l _)
   exact ⟨o,ho,e'⟩
  ·exact ih x hx
theorem Chain.len {l:List D6} {o:D6} (ho:o∈l) {c:List Int} (h:Chain l o.1 c):c.length+1≤l.length:=by
 have:=ru (o.1::c) (l.map (·.1)) h.nodup (by
  intro x hx
  rcases List.mem_cons.1 hx with rfl | hx
  ·exact List.mem_map.2 ⟨o,ho,rfl⟩
  ·obtain ⟨y,hy,e⟩:=h.mem x hx
   exact List.mem_map.2 ⟨y,hy,e⟩)
 simpa using this
end Go.Fn
namespace Go.Fn
open Go Go.Ab Go.Tx
def gI (ks:List Int) (t:Int):Nat:=(ks.filter fun k=>decide (k<t)).length
theorem DL (ks:List Int) (t:Int):gI ks t≤ks.length:=List.length_filter_le _ _
theorem rC:∀ {ks:List Int},ks.Pairwise (· < ·)→∀ (t:Int) (m:Nat) (v:Int),ks[m]? = some v→(v<t↔m<gI ks t)
 | [],_,t,m,v,h=>by simp at h
 | k::ks,hp,t,m,v,h=>by
  obtain ⟨h1,h2⟩:=List.pairwise_cons.1 hp
  by_cases hk:k<t
  ·have e:gI (k::ks) t=gI ks t+1:=by simp [gI,List.filter_cons,hk]
   rw [e]
   cases m with
   | zero=>simp at h;subst h;simp [hk]
   | succ m =>
    have:=rC h2 t m v (by simpa using h)
    rw [this];omega
  ·have e0:gI (k::ks) t=0:=by
    have:∀ x∈k::ks,¬ x<t:=by
     intro x hx
     rcases List.mem_cons.1 hx with rfl | hx
     ·exact hk
     ·have:=h1 x hx;omega
    unfold gI
    rw [List.filter_eq_nil_iff.2 (by intro x hx;simpa using this x hx)]
    rfl
   rw [e0]
   have hv:v∈k::ks:=List.mem_of_getElem? h
   constructor
   ·intro hv'
    rcases List.mem_cons.1 hv with rfl | hx
    ·exact absurd hv' hk
    ·have:=h1 v hx;omega
   ·intro h;omega
theorem DN {ks:List Int} (hp:ks.Pairwise (· < ·)) {t v:Int} (h:ks[gI ks t]? = some v):t∈ks↔v=t:=by
 constructor
 ·intro hm
  obtain ⟨m,hm⟩:=List.getElem?_of_mem hm
  have h1:=rC hp t m t hm
  have h2:=rC hp t _ v h
  have h3 : ¬ v<t:=fun hc=>by have:=h2.1 hc;omega
  have h4 : ¬ m<gI ks t:=fun hc=>by have:=h1.2 hc;omega
  by_cases he:m=gI ks t
  ·rw [he,h] at hm;exact Option.some.inj hm
  ·exfalso
   have hlt:gI ks t<m:=by omega
   obtain ⟨q1,q2⟩:=List.getElem?_eq_some_iff.1 h
   obtain ⟨r1,r2⟩:=List.getElem?_eq_some_iff.1 hm
   have:=List.pairwise_iff_getElem.1 hp _ _ q1 r1 hlt
   omega
 ·rintro rfl;exact List.mem_of_getElem? h
theorem DR {ks:List Int} (hp:ks.Pairwise (· < ·)) {t:Int} (h:ks.length≤gI ks t):t ∉ ks:=by
 intro hm
 obtain ⟨m,hm⟩:=List.getElem?_of_mem hm
 have h1:=rC hp t m t hm
 obtain ⟨r1,r2⟩:=List.getElem?_eq_some_iff.1 hm
 have:t<t:=h1.2 (by omega)
 omega
end Go.Fn
