import Derived.Test.YtleeccmcgophfaaGreatPJ
import Derived.Test.YtleeccmcgophfaaGreatProg
import Derived.Test.YtleeccmcgophfaaGreatPI
set_option linter.all false
namespace Go.Fn
set_option maxRecDepth 100000
open Go Go.Ab Go.Tx Go.Proofs
noncomputable section
theorem pm:Tryz.prog.follows .mixedOrders=true:=by kernel_rfl
abbrev t0:Ty:=.st (.prod (.int .u64) (.prod (.int .i64) .unit))
abbrev D0:Type:=(Int×(Int×Unit))
abbrev t1:Ty:=.st (.prod (.int .i64) (.prod (.int .i64) (.prod (.int .u64) (.prod (.int .u64) (.prod (.int .i64) (.prod .bool .unit))))))
abbrev D1:Type:=(Int×(Int×(Int×(Int×(Int×(Bool×Unit))))))
abbrev t2:Ty:=.st (.prod (.int .u64) (.prod (.int .u64) .unit))
abbrev D2:Type:=(Int×(Int×Unit))
abbrev t3:Ty:=.st (.prod t2 (.prod (.int .u64) (.prod (.int .u64) (.prod .bool .unit))))
abbrev D3:Type:=(D2×(Int×(Int×(Bool×Unit))))
abbrev t4:Ty:=.st (.prod (.arr 16 (.int .u64)) (.prod (.int .u64) (.prod (.sl t0) (.prod t2 (.prod (.int .u64) (.prod (.int .u64) (.prod (.int .i64) (.prod t3 (.prod (.sl (.int .u64)) (.prod t2 (.prod (.arr 4 (.sl t0)) .unit)))))))))))
abbrev D4:Type:=((Fin 16→Int)×(Int×((List D0)×(D2×(Int×(Int×(Int×(D3×((List Int)×(D2×((Fin 4→(List D0))×Unit)))))))))))
abbrev t5:Ty:=.st (.prod (.sl t0) (.prod (.sl t0) (.prod t2 (.prod (.int .u64) (.prod (.int .u64) .unit)))))
abbrev D5:Type:=((List D0)×((List D0)×(D2×(Int×(Int×Unit)))))
abbrev t6:Ty:=.st (.prod (.int .u64) (.prod (.int .i64) (.prod (.sl t0) (.prod (.int .i64) (.prod .bool (.prod (.sl (.int .u64)) (.prod (.sl (.int .u64)) (.prod (.sl t1) (.prod t4 (.prod t5 (.prod (.sl (.int .u64)) (.prod (.sl (.int .u64)) .unit))))))))))))
abbrev D6:Type:=(Int×(Int×((List D0)×(Int×(Bool×((List Int)×((List Int)×((List D1)×(D4×(D5×((List Int)×((List Int)×Unit))))))))))))
abbrev t7:Ty:=.st (.prod (.int .i64) (.prod (.int .u64) (.prod (.int .u64) (.prod (.sl t6) .unit))))
abbrev D7:Type:=(Int×(Int×(Int×((List D6)×Unit))))
def F12 (a0:D7):Option Bool := if (decide (((List.length a0.2.2.2.1:Nat):Int)>(24:Int)))=true then some false else letJ (σ:=Unit) (ρ:=Bool) (fun s1 => some true) fun j1_1 => letJ (σ:=D6) (ρ:=Bool) (fun s1 => some false) fun j1_2 => whileO (σ:=Int) (ρ:=Bool) (fun s1 => if (decide (s1<((List.length a0.2.2.2.1:Nat):Int)))=true then Option.bind (idxO a0.2.2.2.1 s1) fun v2 => letV ((if (if (if (decide (((List.length v2.2.2.1:Nat):Int)>(20:Int)))=true then true else (decide (((List.length v2.2.2.2.2.2.1:Nat):Int)>(70:Int))))=true then true else (decide (((List.length v2.2.2.2.2.2.2.1:Nat):Int)>(300:Int))))=true then true else (decide (((List.length v2.2.2.2.2.2.2.2.1:Nat):Int)>(20:Int))))) fun v3 => if (if (if v3=true then true else (decide (((List.length v2.2.2.2.2.2.2.2.2.2.2.1:Nat):Int)>(100:Int))))=true then true else (decide (((List.length v2.2.2.2.2.2.2.2.2.2.2.2.1:Nat):Int)>(100:Int))))=true then done (j1_2 v2) else turn (IntKind.wrap .i64 (s1+(1:Int))) else done (j1_1 ())) (0:Int)
def L12:Lib Tryz.prog:=(L0 _).add pm 12 [t7] .bool (fun st=>F12 st) [(1,[12],[],[],[],[])] [] spOK_nil (fun _=>by kernel_rfl)
def F93 (a0:Int):Option Bool := some ((if (decide (a0≥(1:Int)))=true then (decide (a0≤(2305843009213693952:Int))) else false))
def L93:Lib Tryz.prog:=L12.add pm 93 [(.int .u64)] .bool (fun st=>F93 st) [] [] spOK_nil (fun _=>by kernel_rfl)
def F218 (a0:Int):Option Bool := some ((if (decide (a0≥(0:Int)))=true then (decide (a0≤(5:Int))) else false))
def L218:Lib Tryz.prog:=L93.add pm 218 [(.int .i64)] .bool (fun st=>F218 st) [] [] spOK_nil (fun _=>by kernel_rfl)
def F155 (a0:(List D0)):Option Bool := letJ (σ:=Unit) (ρ:=Bool) (fun s1 => some true) fun j1_1 => letJ (σ:=Unit) (ρ:=Bool) (fun s1 => some false) fun j1_2 => whileO (σ:=Int) (ρ:=Bool) (fun s1 => if (decide (s1<((List.length a0:Nat):Int)))=true then Option.bind (idxO a0 s1) fun v2 => Option.bind (F218 v2.2.1) fun v3 => Option.bind (if ((!(!v3))&&true)=true then (idxO a0 s1) else some (Ty.zero t0:D0)) fun v4 => Option.bind (if ((!(if (!v3)=true then true else (v4.2.1==(2:Int))))&&((decide (s1>(0:Int)))&&true))=true then (idxO a0 (IntKind.wrap .i64 (s1 - (1:Int)))) else some (Ty.zero t0:D0)) fun v5 => Option.bind (if ((!(if (!v3)=true then true else (v4.2.1==(2:Int))))&&((decide (s1>(0:Int)))&&true))=true then (idxO a0 s1) else some (Ty.zero t0:D0)) fun v6 => if (if (if (!v3)=true then true else (v4.2.1==(2:Int)))=true then true else (if (decide (s1>(0:Int)))=true then (decide (v5.1≥v6.1)) else false))=true then done (j1_2 ()) else turn (IntKind.wrap .i64 (s1+(1:Int))) else done (j1_1 ())) (0:Int)
def L155:Lib Tryz.prog:=L218.add pm 155 [(.sl t0)] .bool (fun st=>F155 st) [(1,[3],[],[],[],[])] [] spOK_nil (fun _=>by kernel_rfl)
def F94 (a0:(List D0)):Option Bool := letJ (σ:=Unit) (ρ:=Bool) (fun s1 => Option.bind (if ((decide (((List.length a0:Nat):Int)≤(16:Int)))&&true)=true then (F155 a0) else some false) fun v1 => some ((if (decide (((List.length a0:Nat):Int)≤(16:Int)))=true then v1 else false))) fun j1_1 => letJ (σ:=Unit) (ρ:=Bool) (fun s1 => some false) fun j1_2 => whileO (σ:=Int) (ρ:=Bool) (fun s1 => if (decide (s1<((List.length a0:Nat):Int)))=true then Option.bind (idxO a0 s1) fun v2 => if (v2.2.1==(5:Int))=true then done (j1_2 ()) else turn (IntKind.wrap .i64 (s1+(1:Int))) else done (j1_1 ())) (0:Int)
def L94:Lib Tryz.prog:=L155.add pm 94 [(.sl t0)] .bool (fun st=>F94 st) [(1,[3],[],[],[],[])] [] spOK_nil (fun _=>by kernel_rfl)
def F128 (a0:(List D0)) (a1:(List D0)):Option Bool := if (((List.length a0:Nat):Int) != ((List.length a1:Nat):Int))=true then some false else letJ (σ:=Unit) (ρ:=Bool) (fun s2 => some true) fun j2_1 => letJ (σ:=Unit) (ρ:=Bool) (fun s2 => some false) fun j2_2 => whileO (σ:=Int) (ρ:=Bool) (fun s2 => if (decide (s2<((List.length a0:Nat):Int)))=true then Option.bind (idxO a0 s2) fun v3 => Option.bind (idxO a1 s2) fun v4 => if (!(eqK (.prod (.int .u64) (.prod (.int .i64) .unit)) v3 v4))=true then done (j2_2 ()) else turn (IntKind.wrap .i64 (s2+(1:Int))) else done (j2_1 ())) (0:Int)
def L128:Lib Tryz.prog:=L94.add pm 128 [(.sl t0),(.sl t0)] .bool (fun st=>F128 st.1 st.2) [(1,[5],[],[],[],[])] [] spOK_nil (fun _=>by kernel_rfl)
def F139 (a0:(List Int)) (a1:(List Int)):Option Bool := if (((List.length a0:Nat):Int) != ((List.length a1:Nat):Int))=true then some false else letJ (σ:=Unit) (ρ:=Bool) (fun s2 => some true) fun j2_1 => letJ (σ:=Unit) (ρ:=Bool) (fun s2 => some false) fun j2_2 => whileO (σ:=Int) (ρ:=Bool) (fun s2 => if (decide (s2<((List.length a0:Nat):Int)))=true then Option.bind (idxO a0 s2) fun v3 => Option.bind (idxO a1 s2) fun v4 => if (v3 != v4)=true then done (j2_2 ()) else turn (IntKind.wrap .i64 (s2+(1:Int))) else done (j2_1 ())) (0:Int)
def L139:Lib Tryz.prog:=L128.add pm 139 [(.sl (.int .u64)),(.sl (.int .u64))] .bool (fun st=>F139 st.1 st.2) [(1,[5],[],[],[],[])] [] spOK_nil (fun _=>by kernel_rfl)
def F140 (a0:(List D1)) (a1:(List D1)):Option Bool := if (((List.length a0:Nat):Int) != ((List.length a1:Nat):Int))=true then some false else letJ (σ:=Unit) (ρ:=Bool) (fun s2 => some true) fun j2_1 => letJ (σ:=Unit) (ρ:=Bool) (fun s2 => some false) fun j2_2 => whileO (σ:=Int) (ρ:=Bool) (fun s2 => if (decide (s2<((List.length a0:Nat):Int)))=true then Option.bind (idxO a0 s2) fun v3 => Option.bind (idxO a1 s2) fun v4 => if (!(eqK (.prod (.int .i64) (.prod (.int .i64) (.prod (.int .u64) (.prod (.int .u64) (.prod (.int .i64) (.prod .bool .unit)))))) v3 v4))=true then done (j2_2 ()) else turn (IntKind.wrap .i64 (s2+(1:Int))) else done (j2_1 ())) (0:Int)
def L140:Lib Tryz.prog:=L139.add pm 140 [(.sl t1),(.sl t1)] .bool (fun st=>F140 st.1 st.2) [(1,[5],[],[],[],[])] [] spOK_nil (fun _=>by kernel_rfl)
def F141 (a0:D4) (a1:D4):Option Bool := letJ (σ:=Unit) (ρ:=Bool) (fun s2 => Option.bind (if ((if (eqK (.arr 16 (.int .u64)) a0.1 a1.1)=true then (a0.2.1==a1.2.1) else false)&&true)=true then (F128 a0.2.2.1 a1.2.2.1) else some false) fun v2 => letV ((if (if (if (if (eqK (.arr 16 (.int .u64)) a0.1 a1.1)=true then (a0.2.1==a1.2.1) else false)=true then v2 else false)=true then (eqK (.prod (.int .u64) (.prod (.int .u64) .unit)) a0.2.2.2.1 a1.2.2.2.1) else false)=true then (a0.2.2.2.2.1==a1.2.2.2.2.1) else false)) fun v3 => Option.bind (if ((if (if (if v3=true then (a0.2.2.2.2.2.1==a1.2.2.2.2.2.1) else false)=true then (a0.2.2.2.2.2.2.1==a1.2.2.2.2.2.2.1) else false)=true then (eqK (.prod t2 (.prod (.int .u64) (.prod (.int .u64) (.prod .bool .unit)))) a0.2.2.2.2.2.2.2.1 a1.2.2.2.2.2.2.2.1) else false)&&true)=true then (F139 a0.2.2.2.2.2.2.2.2.1 a1.2.2.2.2.2.2.2.2.1) else some false) fun v4 => letV ((if (if (if (if v3=true then (a0.2.2.2.2.2.1==a1.2.2.2.2.2.1) else false)=true then (a0.2.2.2.2.2.2.1==a1.2.2.2.2.2.2.1) else false)=true then (eqK (.prod t2 (.prod (.int .u64) (.prod (.int .u64) (.prod .bool .unit)))) a0.2.2.2.2.2.2.2.1 a1.2.2.2.2.2.2.2.1) else false)=true then v4 else false)) fun v5 => some ((if v5=true then (eqK (.prod (.int .u64) (.prod (.int .u64) .unit)) a0.2.2.2.2.2.2.2.2.2.1 a1.2.2.2.2.2.2.2.2.2.1) else false))) fun j2_1 => letJ (σ:=Unit) (ρ:=Bool) (fun s2 => some false) fun j2_2 => whileO (σ:=Int) (ρ:=Bool) (fun s2 => if (decide (s2<(4:Int)))=true then Option.bind (guardO (if (decide ((0:Int)≤s2))=true then (decide (s2<(4:Int))) else false)) fun v3 => Option.bind (aidxO a0.2.2.2.2.2.2.2.2.2.2.1 s2) fun v4 => Option.bind (guardO (if (decide ((0:Int)≤s2))=true then (decide (s2<(4:Int))) else false)) fun v5 => Option.bind (aidxO a1.2.2.2.2.2.2.2.2.2.2.1 s2) fun v6 => Option.bind (F128 v4 v6) fun v7 => if (!v7)=true then done (j2_2 ()) else turn (IntKind.wrap .i64 (s2+(1:Int))) else done (j2_1 ())) (0:Int)
def L141:Lib Tryz.prog:=L140.add pm 141 [t4,t4] .bool (fun st=>F141 st.1 st.2) [(1,[5],[],[],[],[])] [] spOK_nil (fun _=>by kernel_rfl)
def F142 (a0:D5) (a1:D5):Option Bool := Option.bind (F128 a0.1 a1.1) fun v2 => Option.bind (if (v2&&true)=true then (F128 a0.2.1 a1.2.1) else some false) fun v3 => letV ((if (if (if (if v2=true then v3 else false)=true then (eqK (.prod (.int .u64) (.prod (.int .u64) .unit)) a0.2.2.1 a1.2.2.1) else false)=true then (a0.2.2.2.1==a1.2.2.2.1) else false)=true then (a0.2.2.2.2.1==a1.2.2.2.2.1) else false)) fun v4 => some v4
def L142:Lib Tryz.prog:=L141.add pm 142 [t5,t5] .bool (fun st=>F142 st.1 st.2) [] [] spOK_nil (fun _=>by kernel_rfl)
def F83 (a0:D6) (a1:D6):Option Bool := Option.bind (if ((!(if (a0.1 != a1.1)=true then true else (a0.2.1 != a1.2.1)))&&true)=true then (F128 a0.2.2.1 a1.2.2.1) else some false) fun v2 => letV ((if (if (if (if (a0.1 != a1.1)=true then true else (a0.2.1 != a1.2.1))=true then true else (!v2))=true then true else (a0.2.2.2.1 != a1.2.2.2.1))=true then true else (!(a0.2.2.2.2.1==a1.2.2.2.2.1)))) fun v3 => if v3=true then some false else Option.bind (F139 a0.2.2.2.2.2.1 a1.2.2.2.2.2.1) fun v4 => Option.bind (if (v4&&true)=true then (F139 a0.2.2.2.2.2.2.1 a1.2.2.2.2.2.2.1) else some false) fun v5 => Option.bind (if ((if v4=true then v5 else false)&&true)=true then (F140 a0.2.2.2.2.2.2.2.1 a1.2.2.2.2.2.2.2.1) else some false) fun v6 => Option.bind (if ((if (if v4=true then v5 else false)=true then v6 else false)&&true)=true then (F141 a0.2.2.2.2.2.2.2.2.1 a1.2.2.2.2.2.2.2.2.1) else some false) fun v7 => Option.bind (if ((if (if (if v4=true then v5 else false)=true then v6 else false)=true then v7 else false)&&true)=true then (F142 a0.2.2.2.2.2.2.2.2.2.1 a1.2.2.2.2.2.2.2.2.2.1) else some false) fun v8 => Option.bind (if ((if (if (if (if v4=true then v5 else false)=true then v6 else false)=true then v7 else false)=true then v8 else false)&&true)=true then (F139 a0.2.2.2.2.2.2.2.2.2.2.1 a1.2.2.2.2.2.2.2.2.2.2.1) else some false) fun v9 => Option.bind (if ((if (if (if (if (if v4=true then v5 else false)=true then v6 else false)=true then v7 else false)=true then v8 else false)=true then v9 else false)&&true)=true then (F139 a0.2.2.2.2.2.2.2.2.2.2.2.1 a1.2.2.2.2.2.2.2.2.2.2.2.1) else some false) fun v10 => some ((if (if (if (if (if (if v4=true then v5 else false)=true then v6 else false)=true then v7 else false)=true then v8 else false)=true then v9 else false)=true then v10 else false))
def L83:Lib Tryz.prog:=L142.add pm 83 [t6,t6] .bool (fun st=>F83 st.1 st.2) [] [] spOK_nil (fun _=>by kernel_rfl)
abbrev sett6_0_1 (x:D6) (y:Int):D6:=(y,x.2)
abbrev sett6_1_1 (x:D6) (y:Int):D6:=(x.1,(y,x.2.2))
abbrev sett6_2_1 (x:D6) (y:(List D0)):D6:=(x.1,(x.2.1,(y,x.2.2.2)))
abbrev sett6_3_1 (x:D6) (y:Int):D6:=(x.1,(x.2.1,(x.2.2.1,(y,x.2.2.2.2))))
abbrev sett6_4_1 (x:D6) (y:Bool):D6:=(x.1,(x.2.1,(x.2.2.1,(x.2.2.2.1,(y,x.2.2.2.2.2)))))
abbrev sett6_6_1 (x:D6) (y:(List Int)):D6:=(x.1,(x.2.1,(x.2.2.1,(x.2.2.2.1,(x.2.2.2.2.1,(x.2.2.2.2.2.1,(y,x.2.2.2.2.2.2.2)))))))
abbrev sett6_5_1 (x:D6) (y:(List Int)):D6:=(x.1,(x.2.1,(x.2.2.1,(x.2.2.2.1,(x.2.2.2.2.1,(y,x.2.2.2.2.2.2))))))
abbrev sett6_7_1 (x:D6) (y:(List D1)):D6:=(x.1,(x.2.1,(x.2.2.1,(x.2.2.2.1,(x.2.2.2.2.1,(x.2.2.2.2.2.1,(x.2.2.2.2.2.2.1,(y,x.2.2.2.2.2.2.2.2))))))))
abbrev sett6_8_35 (x:D6) (y:D4):D6:=(x.1,(x.2.1,(x.2.2.1,(x.2.2.2.1,(x.2.2.2.2.1,(x.2.2.2.2.2.1,(x.2.2.2.2.2.2.1,(x.2.2.2.2.2.2.2.1,(y,x.2.2.2.2.2.2.2.2.2)))))))))
abbrev sett6_43_6 (x:D6) (y:D5):D6:=(x.1,(x.2.1,(x.2.2.1,(x.2.2.2.1,(x.2.2.2.2.1,(x.2.2.2.2.2.1,(x.2.2.2.2.2.2.1,(x.2.2.2.2.2.2.2.1,(x.2.2.2.2.2.2.2.2.1,(y,x.2.2.2.2.2.2.2.2.2.2))))))))))
abbrev sett6_49_1 (x:D6) (y:(List Int)):D6:=(x.1,(x.2.1,(x.2.2.1,(x.2.2.2.1,(x.2.2.2.2.1,(x.2.2.2.2.2.1,(x.2.2.2.2.2.2.1,(x.2.2.2.2.2.2.2.1,(x.2.2.2.2.2.2.2.2.1,(x.2.2.2.2.2.2.2.2.2.1,(y,x.2.2.2.2.2.2.2.2.2.2.2)))))))))))
abbrev sett6_50_1 (x:D6) (y:(List Int)):D6:=(x.1,(x.2.1,(x.2.2.1,(x.2.2.2.1,(x.2.2.2.2.1,(x.2.2.2.2.2.1,(x.2.2.2.2.2.2.1,(x.2.2.2.2.2.2.2.1,(x.2.2.2.2.2.2.2.2.1,(x.2.2.2.2.2.2.2.2.2.1,(x.2.2.2.2.2.2.2.2.2.2.1,(y,x.2.2.2.2.2.2.2.2.2.2.2.2))))))))))))
def F95 (a0:D6):Option Bool := letJ (σ:=D6) (ρ:=Bool) (fun s1 => Option.bind (F83 s1 a0) fun v2 => some v2) fun j1_1 => if (a0.2.1==(1:Int))=true then j1_1 (sett6_6_1 (sett6_4_1 (sett6_3_1 (sett6_2_1 (sett6_1_1 (sett6_0_1 (Ty.zero t6:D6) a0.1) a0.2.1) a0.2.2.1) a0.2.2.2.1) a0.2.2.2.2.1) a0.2.2.2.2.2.2.1) else letJ (σ:=D6) (ρ:=Bool) (fun s1 => j1_1 s1) fun j1_2 => if (a0.2.1==(2:Int))=true then j1_2 (sett6_5_1 (sett6_4_1 (sett6_3_1 (sett6_2_1 (sett6_1_1 (sett6_0_1 (Ty.zero t6:D6) a0.1) a0.2.1) a0.2.2.1) a0.2.2.2.1) a0.2.2.2.2.1) a0.2.2.2.2.2.1) else letJ (σ:=D6) (ρ:=Bool) (fun s1 => j1_2 s1) fun j1_3 => if (a0.2.1==(3:Int))=true then j1_3 (sett6_7_1 (sett6_4_1 (sett6_3_1 (sett6_2_1 (sett6_1_1 (sett6_0_1 (Ty.zero t6:D6) a0.1) a0.2.1) a0.2.2.1) a0.2.2.2.1) a0.2.2.2.2.1) a0.2.2.2.2.2.2.2.1) else letJ (σ:=D6) (ρ:=Bool) (fun s1 => j1_3 s1) fun j1_4 => if (a0.2.1==(4:Int))=true then j1_4 (sett6_8_35 (sett6_4_1 (sett6_3_1 (sett6_2_1 (sett6_1_1 (sett6_0_1 (Ty.zero t6:D6) a0.1) a0.2.1) a0.2.2.1) a0.2.2.2.1) a0.2.2.2.2.1) a0.2.2.2.2.2.2.2.2.1) else letJ (σ:=D6) (ρ:=Bool) (fun s1 => j1_4 s1) fun j1_5 => if (a0.2.1==(5:Int))=true then j1_5 (sett6_43_6 (sett6_4_1 (sett6_3_1 (sett6_2_1 (sett6_1_1 (sett6_0_1 (Ty.zero t6:D6) a0.1) a0.2.1) a0.2.2.1) a0.2.2.2.1) a0.2.2.2.2.1) a0.2.2.2.2.2.2.2.2.2.1) else letJ (σ:=D6) (ρ:=Bool) (fun s1 => j1_5 s1) fun j1_6 => if (a0.2.1==(6:Int))=true then j1_6 (sett6_50_1 (sett6_49_1 (sett6_4_1 (sett6_3_1 (sett6_2_1 (sett6_1_1 (sett6_0_1 (Ty.zero t6:D6) a0.1) a0.2.1) a0.2.2.1) a0.2.2.2.1) a0.2.2.2.2.1) a0.2.2.2.2.2.2.2.2.2.2.1) a0.2.2.2.2.2.2.2.2.2.2.2.1) else j1_6 (sett6_4_1 (sett6_3_1 (sett6_2_1 (sett6_1_1 (sett6_0_1 (Ty.zero t6:D6) a0.1) a0.2.1) a0.2.2.1) a0.2.2.2.1) a0.2.2.2.2.1)
def L95:Lib Tryz.prog:=L83.add pm 95 [t6] .bool (fun st=>F95 st) [] [] spOK_nil (fun _=>by kernel_rfl)
def F96 (a0:(List D0)):Option (List Int) := letJ (σ:=(List Int)) (ρ:=(List Int)) (fun s1 => some s1) fun j1_1 => whileO (σ:=((List Int)×Int)) (ρ:=(List Int)) (fun s1 => if (decide (s1.2<((List.length a0:Nat):Int)))=true then Option.bind (idxO a0 s1.2) fun v3 => letJ (σ:=(List Int)) (ρ:=(((List Int)×Int) ⊕ (List Int))) (fun s4 => turn (s4,(IntKind.wrap .i64 (s1.2+(1:Int))))) fun j4_3 => if (v3.2.1==(0:Int))=true then Option.bind (idxO a0 s1.2) fun v4 => Option.bind (some ([v4.1]:List Int)) fun v5 => Option.bind (appO 8 s1.1 v5) fun v6 => j4_3 v6 else j4_3 s1.1 else done (j1_1 s1.1)) (([]:List Int),(0:Int))
def L96:Lib Tryz.prog:=L95.add pm 96 [(.sl t0)] (.sl (.int .u64)) (fun st=>F96 st) [(1,[3,4],[],[],[],[])] [] spOK_nil (fun _=>by kernel_rfl)
def F97 (a0:(List Int)):Option Bool := letJ (σ:=Unit) (ρ:=Bool) (fun s1 => some true) fun j1_1 => letJ (σ:=Unit) (ρ:=Bool) (fun s1 => some false) fun j1_2 => whileO (σ:=Int) (ρ:=Bool) (fun s1 => if (decide (s1<((List.length a0:Nat):Int)))=true then Option.bind (idxO a0 s1) fun v2 => Option.bind (F93 v2) fun v3 => Option.bind (if ((!(!v3))&&((decide (s1>(0:Int)))&&true))=true then (idxO a0 (IntKind.wrap .i64 (s1 - (1:Int)))) else some (0:Int)) fun v4 => Option.bind (if ((!(!v3))&&((decide (s1>(0:Int)))&&true))=true then (idxO a0 s1) else some (0:Int)) fun v5 => if (if (!v3)=true then true else (if (decide (s1>(0:Int)))=true then (decide (v4≥v5)) else false))=true then done (j1_2 ()) else turn (IntKind.wrap .i64 (s1+(1:Int))) else done (j1_1 ())) (0:Int)
def L97:Lib Tryz.prog:=L96.add pm 97 [(.sl (.int .u64))] .bool (fun st=>F97 st) [(1,[3],[],[],[],[])] [] spOK_nil (fun _=>by kernel_rfl)
def F156 (a0:D1):Option Bool := letV ((if (if (if (if (decide (a0.1≥(0:Int)))=true then (decide (a0.1<(1048576:Int))) else false)=true then (decide (a0.2.2.2.2.1≥(0:Int))) else false)=true then (decide (a0.2.2.2.2.1<(1048576:Int))) else false)=true then (decide (a0.2.1≥(1:Int))) else false)) fun v1 => letV ((if (if (if v1=true then (decide (a0.2.1≤(1048576:Int))) else false)=true then (decide (a0.2.1≤(IntKind.wrap .i64 ((1048576:Int) - a0.1)))) else false)=true then (decide (a0.2.1≤(IntKind.wrap .i64 ((1048576:Int) - a0.2.2.2.2.1)))) else false)) fun v2 => some v2
def L156:Lib Tryz.prog:=L97.add pm 156 [t1] .bool (fun st=>F156 st) [] [] spOK_nil (fun _=>by kernel_rfl)
def F98 (a0:(List D1)):Option Bool := if (decide (((List.length a0:Nat):Int)>(16:Int)))=true then some false else letJ (σ:=Unit) (ρ:=Bool) (fun s1 => some true) fun j1_1 => letJ (σ:=Unit) (ρ:=Bool) (fun s1 => some false) fun j1_2 => whileO (σ:=Int) (ρ:=Bool) (fun s1 => if (decide (s1<((List.length a0:Nat):Int)))=true then Option.bind (idxO a0 s1) fun v2 => Option.bind (F156 v2) fun v3 => Option.bind (if ((!(!v3))&&((decide (s1>(0:Int)))&&true))=true then (idxO a0 (IntKind.wrap .i64 (s1 - (1:Int)))) else some (Ty.zero t1:D1)) fun v4 => Option.bind (if ((!(!v3))&&((decide (s1>(0:Int)))&&true))=true then (idxO a0 (IntKind.wrap .i64 (s1 - (1:Int)))) else some (Ty.zero t1:D1)) fun v5 => Option.bind (if ((!(!v3))&&((decide (s1>(0:Int)))&&true))=true then (idxO a0 s1) else some (Ty.zero t1:D1)) fun v6 => if (if (!v3)=true then true else (if (decide (s1>(0:Int)))=true then (decide ((IntKind.wrap .i64 (v4.1+v5.2.1))>v6.1)) else false))=true then done (j1_2 ()) else turn (IntKind.wrap .i64 (s1+(1:Int))) else done (j1_1 ())) (0:Int)
def L98:Lib Tryz.prog:=L156.add pm 98 [(.sl t1)] .bool (fun st=>F98 st) [(1,[3],[],[],[],[])] [] spOK_nil (fun _=>by kernel_rfl)
def F159 (a0:(List D0)) (a1:Int):Option Int := letJ (σ:=Unit) (ρ:=Int) (fun s2 => some ((2:Int))) fun j2_1 => letJ (σ:=Int) (ρ:=Int) (fun s2 => some s2) fun j2_2 => whileO (σ:=Int) (ρ:=Int) (fun s2 => if (decide (s2<((List.length a0:Nat):Int)))=true then Option.bind (idxO a0 s2) fun v3 => if (v3.1==a1)=true then Option.bind (idxO a0 s2) fun v4 => done (j2_2 v4.2.1) else turn (IntKind.wrap .i64 (s2+(1:Int))) else done (j2_1 ())) (0:Int)
def L159:Lib Tryz.prog:=L98.add pm 159 [(.sl t0),(.int .u64)] (.int .i64) (fun st=>F159 st.1 st.2) [(1,[5],[],[],[],[])] [] spOK_nil (fun _=>by kernel_rfl)
def F219 (a0:Int):Option Int := if (if (decide (a0<(0:Int)))=true then true else (decide (a0>(5:Int))))=true then some ((2:Int)) else some a0
def L219:Lib Tryz.prog:=L159.add pm 219 [(.int .i64)] (.int .i64) (fun st=>F219 st) [] [] spOK_nil (fun _=>by kernel_rfl)
def F158 (a0:Int) (a1:Int):Option Bool := Option.bind (F219 a0) fun v2 => Option.bind (F219 a1) fun v3 => some ((decide (v2≤v3)))
def L158:Lib Tryz.prog:=L219.add pm 158 [(.int .i64),(.int .i64)] .bool (fun st=>F158 st.1 st.2) [] [] spOK_nil (fun _=>by kernel_rfl)
def F100 (a0:(List D0)) (a1:(List D0)):Option Bool := letJ (σ:=Unit) (ρ:=Bool) (fun s2 => letJ (σ:=Unit) (ρ:=Bool) (fun s2 => some true) fun j2_1 => letJ (σ:=Unit) (ρ:=Bool) (fun s2 => some false) fun j2_2 => whileO (σ:=Int) (ρ:=Bool) (fun s2 => if (decide (s2<((List.length a1:Nat):Int)))=true then Option.bind (idxO a1 s2) fun v3 => Option.bind (F159 a0 v3.1) fun v4 => Option.bind (idxO a1 s2) fun v5 => Option.bind (F158 v4 v5.2.1) fun v6 => if (!v6)=true then done (j2_2 ()) else turn (IntKind.wrap .i64 (s2+(1:Int))) else done (j2_1 ())) (0:Int)) fun j2_1 => letJ (σ:=Unit) (ρ:=Bool) (fun s2 => some false) fun j2_2 => whileO (σ:=Int) (ρ:=Bool) (fun s2 => if (decide (s2<((List.length a0:Nat):Int)))=true then Option.bind (idxO a0 s2) fun v3 => Option.bind (idxO a0 s2) fun v4 => Option.bind (F159 a1 v4.1) fun v5 => Option.bind (F158 v3.2.1 v5) fun v6 => if (!v6)=true then done (j2_2 ()) else turn (IntKind.wrap .i64 (s2+(1:Int))) else done (j2_1 ())) (0:Int)
def L100:Lib Tryz.prog:=L158.add pm 100 [(.sl t0),(.sl t0)] .bool (fun st=>F100 st.1 st.2) [(1,[5],[],[],[],[]),(2,[6],[],[],[],[])] [] spOK_nil (fun _=>by kernel_rfl)
def F157 (a0:D2):Option Bool := some ((if (decide (a0.1≤a0.2.1))=true then (decide (a0.2.1≤(2305843009213693952:Int))) else false))
def L157:Lib Tryz.prog:=L100.add pm 157 [t2] .bool (fun st=>F157 st) [] [] spOK_nil (fun _=>by kernel_rfl)
def F99 (a0:(List D0)) (a1:D4):Option Bool := letJ (σ:=Unit) (ρ:=Bool) (fun s2 => if (if (a1.2.2.2.2.2.2.1 != (1:Int))=true then (!(eqK (.prod t2 (.prod (.int .u64) (.prod (.int .u64) (.prod .bool .unit)))) a1.2.2.2.2.2.2.2.1 (Ty.zero t3:D3))) else false)=true then some false else Option.bind (F94 a1.2.2.1) fun v2 => Option.bind (if (v2&&true)=true then (F100 a0 a1.2.2.1) else some false) fun v3 => Option.bind (if ((if (if (if (if v2=true then v3 else false)=true then (decide (a1.2.2.2.2.2.2.1≥(0:Int))) else false)=true then (decide (a1.2.2.2.2.2.2.1≤(2:Int))) else false)=true then (decide (((List.length a1.2.2.2.2.2.2.2.2.1:Nat):Int)≤(8:Int))) else false)&&true)=true then (F157 a1.2.2.2.2.2.2.2.2.2.1) else some false) fun v4 => letV ((if (if (if (if (if v2=true then v3 else false)=true then (decide (a1.2.2.2.2.2.2.1≥(0:Int))) else false)=true then (decide (a1.2.2.2.2.2.2.1≤(2:Int))) else false)=true then (decide (((List.length a1.2.2.2.2.2.2.2.2.1:Nat):Int)≤(8:Int))) else false)=true then v4 else false)) fun v5 => some v5) fun j2_1 => letJ (σ:=Unit) (ρ:=Bool) (fun s2 => some false) fun j2_2 => whileO (σ:=Int) (ρ:=Bool) (fun s2 => if (decide (s2<(4:Int)))=true then Option.bind (guardO (if (decide ((0:Int)≤s2))=true then (decide (s2<(4:Int))) else false)) fun v3 => Option.bind (aidxO a1.2.2.2.2.2.2.2.2.2.2.1 s2) fun v4 => Option.bind (F94 v4) fun v5 => if (!v5)=true then done (j2_2 ()) else turn (IntKind.wrap .i64 (s2+(1:Int))) else done (j2_1 ())) (0:Int)
def L99:Lib Tryz.prog:=L157.add pm 99 [(.sl t0),t4] .bool (fun st=>F99 st.1 st.2) [(1,[5],[],[],[],[])] [] spOK_nil (fun _=>by kernel_rfl)
def F34 (a0:D6):Option Bool := Option.bind (F93 a0.1) fun v1 => Option.bind (if ((!(if (if (!v1)=true then true else (decide (a0.2.1<(1:Int))))=true then true else (decide (a0.2.1>(6:Int)))))&&true)=true then (F94 a0.2.2.1) else some false) fun v2 => letV ((if (if (if (if (if (!v1)=true then true else (decide (a0.2.1<(1:Int))))=true then true else (decide (a0.2.1>(6:Int))))=true then true else (!v2))=true then true else (decide (a0.2.2.2.1<(1:Int))))=true then true else (decide (a0.2.2.2.1>(4096:Int))))) fun v3 => Option.bind (if ((!v3)&&true)=true then (F95 a0) else some false) fun v4 => if (if v3=true then true else (!v4))=true then some false else Option.bind (if ((a0.2.1 != (4:Int))&&true)=true then (F96 a0.2.2.1) else some ([]:List Int)) fun v5 => if (if (a0.2.1 != (4:Int))=true then (decide (((List.length v5:Nat):Int)>(0:Int))) else false)=true then some false else letJ (σ:=Bool) (ρ:=Bool) (fun s6 => some s6) fun j6_1 => if (a0.2.1==(1:Int))=true then j6_1 (decide (((List.length a0.2.2.2.2.2.2.1:Nat):Int)≤(IntKind.wrap .i64 ((16:Int) * (IntKind.wrap .i64 (a0.2.2.2.1 - (1:Int))))))) else letJ (σ:=Bool) (ρ:=Bool) (fun s6 => j6_1 s6) fun j6_2 => if (a0.2.1==(2:Int))=true then Option.bind (if ((decide (((List.length a0.2.2.2.2.2.1:Nat):Int)≤(64:Int)))&&true)=true then (F97 a0.2.2.2.2.2.1) else some false) fun v6 => j6_2 (if (decide (((List.length a0.2.2.2.2.2.1:Nat):Int)≤(64:Int)))=true then v6 else false) else letJ (σ:=Bool) (ρ:=Bool) (fun s6 => j6_2 s6) fun j6_3 => if (a0.2.1==(3:Int))=true then Option.bind (F98 a0.2.2.2.2.2.2.2.1) fun v6 => j6_3 v6 else letJ (σ:=Bool) (ρ:=Bool) (fun s6 => j6_3 s6) fun j6_4 => if (a0.2.1==(4:Int))=true then Option.bind (F99 a0.2.2.1 a0.2.2.2.2.2.2.2.2.1) fun v6 => j6_4 (if v6=true then (!a0.2.2.2.2.1) else false) else if (a0.2.1==(5:Int))=true then Option.bind (F94 a0.2.2.2.2.2.2.2.2.2.1.1) fun v6 => Option.bind (if (v6&&true)=true then (F94 a0.2.2.2.2.2.2.2.2.2.1.2.1) else some false) fun v7 => Option.bind (if ((if v6=true then v7 else false)&&true)=true then (F100 a0.2.2.2.2.2.2.2.2.2.1.1 a0.2.2.2.2.2.2.2.2.2.1.2.1) else some false) fun v8 => j6_4 (if (if v6=true then v7 else false)=true then v8 else false) else some ((if (decide (((List.length a0.2.2.2.2.2.2.2.2.2.2.1:Nat):Int)≤(64:Int)))=true then (decide (((List.length a0.2.2.2.2.2.2.2.2.2.2.2.1:Nat):Int)≤(1024:Int))) else false))
def L34:Lib Tryz.prog:=L99.add pm 34 [t6] .bool (fun st=>F34 st) [] [] spOK_nil (fun _=>by kernel_rfl)
def F13 (a0:D7):Option Bool := if (if (if (decide (a0.1<(0:Int)))=true then true else (decide (a0.1>(1099511627776:Int))))=true then true else (decide (((List.length a0.2.2.2.1:Nat):Int)>(1024:Int))))=true then some false else letJ (σ:=Unit) (ρ:=Bool) (fun s1 => some true) fun j1_1 => letJ (σ:=Unit) (ρ:=Bool) (fun s1 => some false) fun j1_2 => whileO (σ:=Int) (ρ:=Bool) (fun s1 => if (decide (s1<((List.length a0.2.2.2.1:Nat):Int)))=true then Option.bind (idxO a0.2.2.2.1 s1) fun v2 => Option.bind (F34 v2) fun v3 => Option.bind (if ((!(!v3))&&((decide (s1>(0:Int)))&&true))=true then (idxO a0.2.2.2.1 (IntKind.wrap .i64 (s1 - (1:Int)))) else some (Ty.zero t6:D6)) fun v4 => Option.bind (if ((!(!v3))&&((decide (s1>(0:Int)))&&true))=true then (idxO a0.2.2.2.1 s1) else some (Ty.zero t6:D6)) fun v5 => if (if (!v3)=true then true else (if (decide (s1>(0:Int)))=true then (decide (v4.1≥v5.1)) else false))=true then done (j1_2 ()) else turn (IntKind.wrap .i64 (s1+(1:Int))) else done (j1_1 ())) (0:Int)
def L13:Lib Tryz.prog:=L34.add pm 13 [t7] .bool (fun st=>F13 st) [(1,[3],[],[],[],[])] [] spOK_nil (fun _=>by kernel_rfl)
def F186 (a0:Int):Option Bool := some ((if (decide (a0>(0:Int)))=true then (decide (a0≤(2305843009213693952:Int))) else false))
def L186:Lib Tryz.prog:=L13.add pm 186 [(.int .u64)] .bool (fun st=>F186 st) [] [] spOK_nil (fun _=>by kernel_rfl)
def F232 (a0:D0):Option Bool := some ((a0.2.1==(5:Int)))
def L232:Lib Tryz.prog:=L186.add pm 232 [t0] .bool (fun st=>F232 st) [] [] spOK_nil (fun _=>by kernel_rfl)
def F278 (a0:Int):Option Bool := some ((if (decide (a0≥(0:Int)))=true then (decide (a0≤(5:Int))) else false))
def L278:Lib Tryz.prog:=L232.add pm 278 [(.int .i64)] .bool (fun st=>F278 st) [] [] spOK_nil (fun _=>by kernel_rfl)
def F233 (a0:(List D0)):Option Bool := letJ (σ:=Unit) (ρ:=Bool) (fun s1 => some true) fun j1_1 => letJ (σ:=D0) (ρ:=Bool) (fun s1 => some false) fun j1_2 => whileO (σ:=Int) (ρ:=Bool) (fun s1 => if (decide (s1<((List.length a0:Nat):Int)))=true then Option.bind (idxO a0 s1) fun v2 => Option.bind (F278 v2.2.1) fun v3 => Option.bind (if ((!(if (!v3)=true then true else (v2.2.1==(2:Int))))&&((decide (s1>(0:Int)))&&true))=true then (idxO a0 (IntKind.wrap .i64 (s1 - (1:Int)))) else some (Ty.zero t0:D0)) fun v4 => if (if (if (!v3)=true then true else (v2.2.1==(2:Int)))=true then true else (if (decide (s1>(0:Int)))=true then (decide (v4.1≥v2.1)) else false))=true then done (j1_2 v2) else turn (IntKind.wrap .i64 (s1+(1:Int))) else done (j1_1 ())) (0:Int)
def L233:Lib Tryz.prog:=L278.add pm 233 [(.sl t0)] .bool (fun st=>F233 st) [(1,[7],[],[],[],[])] [] spOK_nil (fun _=>by kernel_rfl)
def F187 (a0:(List D0)):Option Bool := Option.bind (F233 a0) fun v1 => if (if v1=true then (decide (((List.length a0:Nat):Int)≤(16:Int))) else false)=true then letJ (σ:=Int) (ρ:=Bool) (fun s2 => some ((!(decide (s2≥(0:Int)))))) fun j2_1 => letJ (σ:=Unit) (ρ:=Bool) (fun s2 => j2_1 (-1:Int)) fun j2_2 => letJ (σ:=Int) (ρ:=Bool) (fun s2 => j2_1 s2) fun j2_3 => whileO (σ:=Int) (ρ:=Bool) (fun s2 => if (decide (s2<((List.length a0:Nat):Int)))=true then Option.bind (idxO a0 s2) fun v3 => Option.bind (F232 v3) fun v4 => if v4=true then done (j2_3 s2) else turn (IntKind.wrap .i64 (s2+(1:Int))) else done (j2_2 ())) (0:Int) else some false
def L187:Lib Tryz.prog:=L233.add pm 187 [(.sl t0)] .bool (fun st=>F187 st) [(3,[8],[],[],[],[])] [] spOK_nil (fun _=>by kernel_rfl)
def F188 (a0:(List D0)):Option (List Int) := letJ (σ:=(List Int)) (ρ:=(List Int)) (fun s1 => some s1) fun j1_1 => whileO (σ:=((List Int)×Int)) (ρ:=(List Int)) (fun s1 => if (decide (s1.2<((List.length a0:Nat):Int)))=true then Option.bind (idxO a0 s1.2) fun v3 => letJ (σ:=(List Int)) (ρ:=(((List Int)×Int) ⊕ (List Int))) (fun s4 => turn (s4,(IntKind.wrap .i64 (s1.2+(1:Int))))) fun j4_3 => if (v3.2.1==(0:Int))=true then Option.bind (some ([v3.1]:List Int)) fun v4 => Option.bind (appO 8 s1.1 v4) fun v5 => j4_3 v5 else j4_3 s1.1 else done (j1_1 s1.1)) (([]:List Int),(0:Int))
def L188:Lib Tryz.prog:=L187.add pm 188 [(.sl t0)] (.sl (.int .u64)) (fun st=>F188 st) [(1,[3,8],[],[],[],[])] [] spOK_nil (fun _=>by kernel_rfl)
def F189 (a0:D6):Option D6 := letJ (σ:=D6) (ρ:=D6) (fun s1 => some s1) fun j1_1 => if (a0.2.1==(1:Int))=true then j1_1 (sett6_6_1 a0 ([]:List Int)) else letJ (σ:=D6) (ρ:=D6) (fun s1 => j1_1 s1) fun j1_2 => if (a0.2.1==(2:Int))=true then j1_2 (sett6_5_1 a0 ([]:List Int)) else letJ (σ:=D6) (ρ:=D6) (fun s1 => j1_2 s1) fun j1_3 => if (a0.2.1==(3:Int))=true then j1_3 (sett6_7_1 a0 ([]:List D1)) else letJ (σ:=D6) (ρ:=D6) (fun s1 => j1_3 s1) fun j1_4 => if (a0.2.1==(4:Int))=true then j1_4 (sett6_8_35 a0 (Ty.zero t4:D4)) else letJ (σ:=D6) (ρ:=D6) (fun s1 => j1_4 s1) fun j1_5 => if (a0.2.1==(5:Int))=true then j1_5 (sett6_43_6 a0 (Ty.zero t5:D5)) else letJ (σ:=D6) (ρ:=D6) (fun s1 => j1_5 s1) fun j1_6 => if (a0.2.1==(6:Int))=true then j1_6 (sett6_50_1 (sett6_49_1 a0 ([]:List Int)) ([]:List Int)) else j1_6 a0
def L189:Lib Tryz.prog:=L188.add pm 189 [t6] t6 (fun st=>F189 st) [] [] spOK_nil (fun _=>by kernel_rfl)
def F274 (a0:(List D0)) (a1:(List D0)):Option Bool := if (((List.length a0:Nat):Int) != ((List.length a1:Nat):Int))=true then some false else letJ (σ:=Unit) (ρ:=Bool) (fun s2 => some true) fun j2_1 => letJ (σ:=Unit) (ρ:=Bool) (fun s2 => some false) fun j2_2 => whileO (σ:=Int) (ρ:=Bool) (fun s2 => if (decide (s2<((List.length a0:Nat):Int)))=true then Option.bind (idxO a0 s2) fun v3 => Option.bind (idxO a1 s2) fun v4 => if (!(eqK (.prod (.int .u64) (.prod (.int .i64) .unit)) v3 v4))=true then done (j2_2 ()) else turn (IntKind.wrap .i64 (s2+(1:Int))) else done (j2_1 ())) (0:Int)
def L274:Lib Tryz.prog:=L189.add pm 274 [(.sl t0),(.sl t0)] .bool (fun st=>F274 st.1 st.2) [(1,[13],[],[],[],[])] [] spOK_nil (fun _=>by kernel_rfl)
def F224 (a0:(List D0)) (a1:(List D0)):Option Bool := Option.bind (F274 a0 a1) fun v2 => some v2
def L224:Lib Tryz.prog:=L274.add pm 224 [(.sl t0),(.sl t0)] .bool (fun st=>F224 st.1 st.2) [] [] spOK_nil (fun _=>by kernel_rfl)
def F225 (a0:(List Int)) (a1:(List Int)):Option Bool := if (((List.length a0:Nat):Int) != ((List.length a1:Nat):Int))=true then some false else letJ (σ:=Unit) (ρ:=Bool) (fun s2 => some true) fun j2_1 => letJ (σ:=Unit) (ρ:=Bool) (fun s2 => some false) fun j2_2 => whileO (σ:=Int) (ρ:=Bool) (fun s2 => if (decide (s2<((List.length a0:Nat):Int)))=true then Option.bind (idxO a0 s2) fun v3 => Option.bind (idxO a1 s2) fun v4 => if (v3 != v4)=true then done (j2_2 ()) else turn (IntKind.wrap .i64 (s2+(1:Int))) else done (j2_1 ())) (0:Int)
def L225:Lib Tryz.prog:=L224.add pm 225 [(.sl (.int .u64)),(.sl (.int .u64))] .bool (fun st=>F225 st.1 st.2) [(1,[13],[],[],[],[])] [] spOK_nil (fun _=>by kernel_rfl)
def F275 (a0:(List D1)) (a1:(List D1)):Option Bool := if (((List.length a0:Nat):Int) != ((List.length a1:Nat):Int))=true then some false else letJ (σ:=Unit) (ρ:=Bool) (fun s2 => some true) fun j2_1 => letJ (σ:=Unit) (ρ:=Bool) (fun s2 => some false) fun j2_2 => whileO (σ:=Int) (ρ:=Bool) (fun s2 => if (decide (s2<((List.length a0:Nat):Int)))=true then Option.bind (idxO a0 s2) fun v3 => Option.bind (idxO a1 s2) fun v4 => if (!(eqK (.prod (.int .i64) (.prod (.int .i64) (.prod (.int .u64) (.prod (.int .u64) (.prod (.int .i64) (.prod .bool .unit)))))) v3 v4))=true then done (j2_2 ()) else turn (IntKind.wrap .i64 (s2+(1:Int))) else done (j2_1 ())) (0:Int)
def L275:Lib Tryz.prog:=L225.add pm 275 [(.sl t1),(.sl t1)] .bool (fun st=>F275 st.1 st.2) [(1,[13],[],[],[],[])] [] spOK_nil (fun _=>by kernel_rfl)
def F226 (a0:(List D1)) (a1:(List D1)):Option Bool := Option.bind (F275 a0 a1) fun v2 => some v2
def L226:Lib Tryz.prog:=L275.add pm 226 [(.sl t1),(.sl t1)] .bool (fun st=>F226 st.1 st.2) [] [] spOK_nil (fun _=>by kernel_rfl)
def F227 (a0:D4) (a1:D4):Option Bool := letJ (σ:=Unit) (ρ:=Bool) (fun s2 => letV ((if (if (if (eqK (.arr 16 (.int .u64)) a0.1 a1.1)=true then (a0.2.1==a1.2.1) else false)=true then (eqK (.prod (.int .u64) (.prod (.int .u64) .unit)) a0.2.2.2.1 a1.2.2.2.1) else false)=true then (a0.2.2.2.2.1==a1.2.2.2.2.1) else false)) fun v2 => letV ((if (if (if (if v2=true then (a0.2.2.2.2.2.1==a1.2.2.2.2.2.1) else false)=true then (a0.2.2.2.2.2.2.1==a1.2.2.2.2.2.2.1) else false)=true then (eqK (.prod t2 (.prod (.int .u64) (.prod (.int .u64) (.prod .bool .unit)))) a0.2.2.2.2.2.2.2.1 a1.2.2.2.2.2.2.2.1) else false)=true then (eqK (.prod (.int .u64) (.prod (.int .u64) .unit)) a0.2.2.2.2.2.2.2.2.2.1 a1.2.2.2.2.2.2.2.2.2.1) else false)) fun v3 => Option.bind (if (v3&&true)=true then (F224 a0.2.2.1 a1.2.2.1) else some false) fun v4 => Option.bind (if ((if v3=true then v4 else false)&&true)=true then (F225 a0.2.2.2.2.2.2.2.2.1 a1.2.2.2.2.2.2.2.2.1) else some false) fun v5 => some ((if (if v3=true then v4 else false)=true then v5 else false))) fun j2_1 => letJ (σ:=Unit) (ρ:=Bool) (fun s2 => some false) fun j2_2 => whileO (σ:=Int) (ρ:=Bool) (fun s2 => if (decide (s2<(4:Int)))=true then Option.bind (guardO (if (decide ((0:Int)≤s2))=true then (decide (s2<(4:Int))) else false)) fun v3 => Option.bind (aidxO a0.2.2.2.2.2.2.2.2.2.2.1 s2) fun v4 => Option.bind (guardO (if (decide ((0:Int)≤s2))=true then (decide (s2<(4:Int))) else false)) fun v5 => Option.bind (aidxO a1.2.2.2.2.2.2.2.2.2.2.1 s2) fun v6 => Option.bind (F224 v4 v6) fun v7 => if (!v7)=true then done (j2_2 ()) else turn (IntKind.wrap .i64 (s2+(1:Int))) else done (j2_1 ())) (0:Int)
def L227:Lib Tryz.prog:=L226.add pm 227 [t4,t4] .bool (fun st=>F227 st.1 st.2) [(1,[7],[],[],[],[])] [] spOK_nil (fun _=>by kernel_rfl)
def F228 (a0:D5) (a1:D5):Option Bool := Option.bind (F224 a0.1 a1.1) fun v2 => Option.bind (if (v2&&true)=true then (F224 a0.2.1 a1.2.1) else some false) fun v3 => letV ((if (if (if (if v2=true then v3 else false)=true then (eqK (.prod (.int .u64) (.prod (.int .u64) .unit)) a0.2.2.1 a1.2.2.1) else false)=true then (a0.2.2.2.1==a1.2.2.2.1) else false)=true then (a0.2.2.2.2.1==a1.2.2.2.2.1) else false)) fun v4 => some v4
def L228:Lib Tryz.prog:=L227.add pm 228 [t5,t5] .bool (fun st=>F228 st.1 st.2) [] [] spOK_nil (fun _=>by kernel_rfl)
def F181 (a0:D6) (a1:D6):Option Bool := letV ((if (if (if (a0.1==a1.1)=true then (a0.2.1==a1.2.1) else false)=true then (a0.2.2.2.1==a1.2.2.2.1) else false)=true then (a0.2.2.2.2.1==a1.2.2.2.2.1) else false)) fun v2 => Option.bind (if (v2&&true)=true then (F224 a0.2.2.1 a1.2.2.1) else some false) fun v3 => Option.bind (F225 a0.2.2.2.2.2.1 a1.2.2.2.2.2.1) fun v4 => Option.bind (if (v4&&true)=true then (F225 a0.2.2.2.2.2.2.1 a1.2.2.2.2.2.2.1) else some false) fun v5 => Option.bind (if ((if v4=true then v5 else false)&&true)=true then (F225 a0.2.2.2.2.2.2.2.2.2.2.1 a1.2.2.2.2.2.2.2.2.2.2.1) else some false) fun v6 => Option.bind (if ((if (if v4=true then v5 else false)=true then v6 else false)&&true)=true then (F225 a0.2.2.2.2.2.2.2.2.2.2.2.1 a1.2.2.2.2.2.2.2.2.2.2.2.1) else some false) fun v7 => Option.bind (if ((if (if v2=true then v3 else false)=true then (if (if (if v4=true then v5 else false)=true then v6 else false)=true then v7 else false) else false)&&true)=true then (F226 a0.2.2.2.2.2.2.2.1 a1.2.2.2.2.2.2.2.1) else some false) fun v8 => Option.bind (if ((if (if (if v2=true then v3 else false)=true then (if (if (if v4=true then v5 else false)=true then v6 else false)=true then v7 else false) else false)=true then v8 else false)&&true)=true then (F227 a0.2.2.2.2.2.2.2.2.1 a1.2.2.2.2.2.2.2.2.1) else some false) fun v9 => Option.bind (if ((if (if (if (if v2=true then v3 else false)=true then (if (if (if v4=true then v5 else false)=true then v6 else false)=true then v7 else false) else false)=true then v8 else false)=true then v9 else false)&&true)=true then (F228 a0.2.2.2.2.2.2.2.2.2.1 a1.2.2.2.2.2.2.2.2.2.1) else some false) fun v10 => letV ((if (if (if (if (if v2=true then v3 else false)=true then (if (if (if v4=true then v5 else false)=true then v6 else false)=true then v7 else false) else false)=true then v8 else false)=true then v9 else false)=true then v10 else false)) fun v11 => some v11
def L181:Lib Tryz.prog:=L228.add pm 181 [t6,t6] .bool (fun st=>F181 st.1 st.2) [] [] spOK_nil (fun _=>by kernel_rfl)
def F236 (a0:Int):Option Int := some a0
def L236:Lib Tryz.prog:=L181.add pm 236 [(.int .u64)] (.int .u64) (fun st=>F236 st) [] [] spOK_nil (fun _=>by kernel_rfl)
def F238 (a0:Int):Option Bool := Option.bind (F186 a0) fun v1 => some (!v1)
def L238:Lib Tryz.prog:=L236.add pm 238 [(.int .u64)] .bool (fun st=>F238 st) [] [] spOK_nil (fun _=>by kernel_rfl)
def F303 (a0:Int) (a1:Int):Option Bool := some ((if (if (if (decide (a0≥(0:Int)))=true then (decide (a0<(1048576:Int))) else false)=true then (decide (a1≥(1:Int))) else false)=true then (decide (a1≤(IntKind.wrap .i64 ((1048576:Int) - a0)))) else false))
def L303:Lib Tryz.prog:=L238.add pm 303 [(.int .i64),(.int .i64)] .bool (fun st=>F303 st.1 st.2) [] [] spOK_nil (fun _=>by kernel_rfl)
def F281 (a0:D1):Option Bool := Option.bind (F303 a0.1 a0.2.1) fun v1 => Option.bind (if (v1&&true)=true then (F303 a0.2.2.2.2.1 a0.2.1) else some false) fun v2 => some ((if v1=true then v2 else false))
def L281:Lib Tryz.prog:=L303.add pm 281 [t1] .bool (fun st=>F281 st) [] [] spOK_nil (fun _=>by kernel_rfl)
def F282 (a0:D1):Option Int := some ((IntKind.wrap .i64 (a0.1+a0.2.1)))
def L282:Lib Tryz.prog:=L281.add pm 282 [t1] (.int .i64) (fun st=>F282 st) [] [] spOK_nil (fun _=>by kernel_rfl)
def F239 (a0:(List D1)):Option Bool := letJ (σ:=Unit) (ρ:=Bool) (fun s1 => some ((decide (((List.length a0:Nat):Int)≤(16:Int))))) fun j1_1 => letJ (σ:=D1) (ρ:=Bool) (fun s1 => some false) fun j1_2 => whileO (σ:=Int) (ρ:=Bool) (fun s1 => if (decide (s1<((List.length a0:Nat):Int)))=true then Option.bind (idxO a0 s1) fun v2 => Option.bind (F281 v2) fun v3 => Option.bind (if ((!(!v3))&&((decide (s1>(0:Int)))&&true))=true then (idxO a0 (IntKind.wrap .i64 (s1 - (1:Int)))) else some (Ty.zero t1:D1)) fun v4 => Option.bind (if ((!(!v3))&&((decide (s1>(0:Int)))&&true))=true then (F282 v4) else some (0:Int)) fun v5 => if (if (!v3)=true then true else (if (decide (s1>(0:Int)))=true then (decide (v5>v2.1)) else false))=true then done (j1_2 v2) else turn (IntKind.wrap .i64 (s1+(1:Int))) else done (j1_1 ())) (0:Int)
def L239:Lib Tryz.prog:=L282.add pm 239 [(.sl t1)] .bool (fun st=>F239 st) [(1,[7],[],[],[],[])] [] spOK_nil (fun _=>by kernel_rfl)
def F301 (a0:Int):Option Int := Option.bind (F278 a0) fun v1 => if v1=true then some a0 else some ((2:Int))
def L301:Lib Tryz.prog:=L239.add pm 301 [(.int .i64)] (.int .i64) (fun st=>F301 st) [] [] spOK_nil (fun _=>by kernel_rfl)
def F285 (a0:Int) (a1:Int):Option Bool := Option.bind (F301 a0) fun v2 => Option.bind (F301 a1) fun v3 => some ((decide (v2≤v3)))
def L285:Lib Tryz.prog:=L301.add pm 285 [(.int .i64),(.int .i64)] .bool (fun st=>F285 st.1 st.2) [] [] spOK_nil (fun _=>by kernel_rfl)
abbrev t8:Ty:=.st (.prod (.int .i64) (.prod (.int .i64) .unit))
abbrev D8:Type:=(Int×(Int×Unit))
abbrev sett8_1_1 (x:D8) (y:Int):D8:=(x.1,(y,x.2.2))
abbrev sett8_0_1 (x:D8) (y:Int):D8:=(y,x.2)
def F241 (a0:(List D0)) (a1:(List D0)):Option Bool := letJ (σ:=((List D0)×(List D0))) (ρ:=Bool) (fun s2 => some true) fun j2_1 => letJ (σ:=(D8×(D8×((List D0)×(List D0))))) (ρ:=Bool) (fun s2 => some false) fun j2_2 => whileO (σ:=((List D0)×(List D0))) (ρ:=Bool) (fun s2 => if (decide ((IntKind.wrap .i64 (((List.length s2.2:Nat):Int)+((List.length s2.1:Nat):Int)))>(0:Int)))=true then Option.bind (if ((!(((List.length s2.1:Nat):Int)==(0:Int)))&&((decide (((List.length s2.2:Nat):Int)>(0:Int)))&&true))=true then (idxO s2.2 (0:Int)) else some (Ty.zero t0:D0)) fun v4 => Option.bind (if ((!(((List.length s2.1:Nat):Int)==(0:Int)))&&((decide (((List.length s2.2:Nat):Int)>(0:Int)))&&true))=true then (idxO s2.1 (0:Int)) else some (Ty.zero t0:D0)) fun v5 => Option.bind (if ((!(((List.length s2.2:Nat):Int)==(0:Int)))&&((decide (((List.length s2.1:Nat):Int)>(0:Int)))&&true))=true then (idxO s2.1 (0:Int)) else some (Ty.zero t0:D0)) fun v6 => Option.bind (if ((!(((List.length s2.2:Nat):Int)==(0:Int)))&&((decide (((List.length s2.1:Nat):Int)>(0:Int)))&&true))=true then (idxO s2.2 (0:Int)) else some (Ty.zero t0:D0)) fun v7 => letJ (σ:=(Int×(D8×(List D0)))) (ρ:=(((List D0)×(List D0)) ⊕ Bool)) (fun s8 => letJ (σ:=(Int×(D8×(List D0)))) (ρ:=(((List D0)×(List D0)) ⊕ Bool)) (fun s11 => Option.bind (F285 s11.2.1.1 s11.2.1.2.1) fun v14 => if (!v14)=true then done (j2_2 (s11.2.1,s11.2.1,s11.2.2,s8.2.2)) else turn (s11.2.2,s8.2.2)) fun j11_4 => if (if (((List.length s2.2:Nat):Int)==(0:Int))=true then true else (if (decide (((List.length s2.1:Nat):Int)>(0:Int)))=true then (decide (v6.1≤v7.1)) else false))=true then Option.bind (idxO s2.1 (0:Int)) fun v11 => Option.bind (idxO s2.1 (0:Int)) fun v12 => Option.bind (slcO s2.1 (1:Int) ((List.length s2.1:Nat):Int)) fun v13 => j11_4 (v11.1,(sett8_1_1 s8.2.1 v12.2.1),v13) else j11_4 (s8.1,s8.2.1,s2.1)) fun j8_4 => if (if (((List.length s2.1:Nat):Int)==(0:Int))=true then true else (if (decide (((List.length s2.2:Nat):Int)>(0:Int)))=true then (decide (v4.1≤v5.1)) else false))=true then Option.bind (idxO s2.2 (0:Int)) fun v8 => Option.bind (idxO s2.2 (0:Int)) fun v9 => Option.bind (slcO s2.2 (1:Int) ((List.length s2.2:Nat):Int)) fun v10 => j8_4 (v8.1,(sett8_0_1 (sett8_1_1 (sett8_0_1 (Ty.zero t8:D8) (2:Int)) (2:Int)) v9.2.1),v10) else j8_4 ((0:Int),(sett8_1_1 (sett8_0_1 (Ty.zero t8:D8) (2:Int)) (2:Int)),s2.2) else done (j2_1 (s2.1,s2.2))) (a1,a0)
def L241:Lib Tryz.prog:=L285.add pm 241 [(.sl t0),(.sl t0)] .bool (fun st=>F241 st.1 st.2) [(3,[],[[3,1],[2,1]],[],[],[])] [] spOK_nil (fun _=>by kernel_rfl)
def F283 (a0:D2):Option Bool := some ((if (decide (a0.1≤a0.2.1))=true then (decide (a0.2.1≤(2305843009213693952:Int))) else false))
def L283:Lib Tryz.prog:=L241.add pm 283 [t2] .bool (fun st=>F283 st) [] [] spOK_nil (fun _=>by kernel_rfl)
def F240 (a0:D6):Option Bool := letJ (σ:=Unit) (ρ:=Bool) (fun s1 => letV ((if (if (a0.2.2.2.2.2.2.2.2.1.2.2.2.2.2.2.1==(1:Int))=true then true else (eqK (.prod t2 (.prod (.int .u64) (.prod (.int .u64) (.prod .bool .unit)))) a0.2.2.2.2.2.2.2.2.1.2.2.2.2.2.2.2.1 (Ty.zero t3:D3)))=true then (if (if (a0.2.2.2.2.2.2.2.2.1.2.2.2.2.2.2.1==(0:Int))=true then true else (a0.2.2.2.2.2.2.2.2.1.2.2.2.2.2.2.1==(1:Int)))=true then true else (a0.2.2.2.2.2.2.2.2.1.2.2.2.2.2.2.1==(2:Int))) else false)) fun v1 => Option.bind (if ((if v1=true then (!a0.2.2.2.2.1) else false)&&true)=true then (F187 a0.2.2.2.2.2.2.2.2.1.2.2.1) else some false) fun v2 => Option.bind (if ((if (if v1=true then (!a0.2.2.2.2.1) else false)=true then v2 else false)&&true)=true then (F241 a0.2.2.1 a0.2.2.2.2.2.2.2.2.1.2.2.1) else some false) fun v3 => Option.bind (if ((if (if (if (if v1=true then (!a0.2.2.2.2.1) else false)=true then v2 else false)=true then v3 else false)=true then (decide (((List.length a0.2.2.2.2.2.2.2.2.1.2.2.2.2.2.2.2.2.1:Nat):Int)≤(8:Int))) else false)&&true)=true then (F283 a0.2.2.2.2.2.2.2.2.1.2.2.2.2.2.2.2.2.2.1) else some false) fun v4 => some ((if (if (if (if (if v1=true then (!a0.2.2.2.2.1) else false)=true then v2 else false)=true then v3 else false)=true then (decide (((List.length a0.2.2.2.2.2.2.2.2.1.2.2.2.2.2.2.2.2.1:Nat):Int)≤(8:Int))) else false)=true then v4 else false))) fun j1_1 => letJ (σ:=Unit) (ρ:=Bool) (fun s1 => some false) fun j1_2 => whileO (σ:=Int) (ρ:=Bool) (fun s1 => if (decide (s1<(4:Int)))=true then Option.bind (aidxO a0.2.2.2.2.2.2.2.2.1.2.2.2.2.2.2.2.2.2.2.1 s1) fun v2 => Option.bind (F187 v2) fun v3 => if (!v3)=true then done (j1_2 ()) else turn (IntKind.wrap .i64 (s1+(1:Int))) else done (j1_1 ())) (0:Int)
def L240:Lib Tryz.prog:=L283.add pm 240 [t6] .bool (fun st=>F240 st) [(1,[12],[],[],[],[])] [] spOK_nil (fun _=>by kernel_rfl)
def F190 (a0:D6):Option Bool := letJ (σ:=Bool) (ρ:=Bool) (fun s1 => some s1) fun j1_1 => if (a0.2.1==(1:Int))=true then j1_1 (decide (((List.length a0.2.2.2.2.2.2.1:Nat):Int)≤(IntKind.wrap .i64 ((IntKind.wrap .i64 (a0.2.2.2.1 - (1:Int))) * (16:Int))))) else letJ (σ:=Bool) (ρ:=Bool) (fun s1 => j1_1 s1) fun j1_2 => if (a0.2.1==(2:Int))=true then if (decide (((List.length a0.2.2.2.2.2.1:Nat):Int)≤(64:Int)))=true then letJ (σ:=Bool) (ρ:=Bool) (fun s1 => if s1=true then letJ (σ:=Int) (ρ:=Bool) (fun s2 => j1_2 (!(decide (s2≥(0:Int))))) fun j2_3 => letJ (σ:=Unit) (ρ:=Bool) (fun s2 => j2_3 (-1:Int)) fun j2_4 => letJ (σ:=Int) (ρ:=Bool) (fun s2 => j2_3 s2) fun j2_5 => whileO (σ:=Int) (ρ:=Bool) (fun s2 => if (decide (s2<((List.length a0.2.2.2.2.2.1:Nat):Int)))=true then Option.bind (idxO a0.2.2.2.2.2.1 s2) fun v3 => Option.bind (F238 v3) fun v4 => if v4=true then done (j2_5 s2) else turn (IntKind.wrap .i64 (s2+(1:Int))) else done (j2_4 ())) (0:Int) else j1_2 false) fun j1_3 => letJ (σ:=Unit) (ρ:=Bool) (fun s1 => j1_3 true) fun j1_4 => letJ (σ:=Unit) (ρ:=Bool) (fun s1 => j1_3 false) fun j1_5 => whileO (σ:=Int) (ρ:=Bool) (fun s1 => if (decide (s1<((List.length a0.2.2.2.2.2.1:Nat):Int)))=true then Option.bind (idxO a0.2.2.2.2.2.1 (IntKind.wrap .i64 (s1 - (1:Int)))) fun v2 => Option.bind (idxO a0.2.2.2.2.2.1 s1) fun v3 => Option.bind (F236 v2) fun v4 => Option.bind (F236 v3) fun v5 => if (decide (v4≥v5))=true then done (j1_5 ()) else turn (IntKind.wrap .i64 (s1+(1:Int))) else done (j1_4 ())) (1:Int) else j1_2 false else letJ (σ:=Bool) (ρ:=Bool) (fun s1 => j1_2 s1) fun j1_3 => if (a0.2.1==(3:Int))=true then Option.bind (F239 a0.2.2.2.2.2.2.2.1) fun v1 => j1_3 v1 else letJ (σ:=Bool) (ρ:=Bool) (fun s1 => j1_3 s1) fun j1_4 => if (a0.2.1==(4:Int))=true then Option.bind (F240 a0) fun v1 => j1_4 v1 else if (a0.2.1==(5:Int))=true then Option.bind (F187 a0.2.2.2.2.2.2.2.2.2.1.1) fun v1 => Option.bind (if (v1&&true)=true then (F187 a0.2.2.2.2.2.2.2.2.2.1.2.1) else some false) fun v2 => Option.bind (if ((if v1=true then v2 else false)&&true)=true then (F241 a0.2.2.2.2.2.2.2.2.2.1.1 a0.2.2.2.2.2.2.2.2.2.1.2.1) else some false) fun v3 => j1_4 (if (if v1=true then v2 else false)=true then v3 else false) else some ((if (decide (((List.length a0.2.2.2.2.2.2.2.2.2.2.1:Nat):Int)≤(64:Int)))=true then (decide (((List.length a0.2.2.2.2.2.2.2.2.2.2.2.1:Nat):Int)≤(1024:Int))) else false))
def L190:Lib Tryz.prog:=L240.add pm 190 [t6] .bool (fun st=>F190 st) [(2,[5],[],[],[],[]),(5,[8],[],[],[],[])] [] spOK_nil (fun _=>by kernel_rfl)
def F124 (a0:D6):Option Bool := Option.bind (F186 a0.1) fun v1 => letJ (σ:=Unit) (ρ:=Bool) (fun s2 => some false) fun j2_1 => if (if (if (!v1)=true then true else (decide (a0.2.1<(1:Int))))=true then true else (decide (a0.2.1>(6:Int))))=true then j2_1 () else Option.bind (F187 a0.2.2.1) fun v2 => letJ (σ:=Unit) (ρ:=Bool) (fun s3 => j2_1 ()) fun j3_2 => if (if (if (!v2)=true then true else (decide (a0.2.2.2.1<(1:Int))))=true then true else (decide (a0.2.2.2.1>(4096:Int))))=true then j3_2 () else Option.bind (if ((a0.2.1 != (4:Int))&&true)=true then (F188 a0.2.2.1) else some ([]:List Int)) fun v3 => if (if (a0.2.1 != (4:Int))=true then (decide (((List.length v3:Nat):Int)>(0:Int))) else false)=true then j3_2 () else Option.bind (F189 a0) fun v4 => Option.bind (F181 v4 (sett6_4_1 (sett6_3_1 (sett6_2_1 (sett6_1_1 (sett6_0_1 (Ty.zero t6:D6) a0.1) a0.2.1) a0.2.2.1) a0.2.2.2.1) a0.2.2.2.2.1)) fun v5 => Option.bind (if (v5&&true)=true then (F190 a0) else some false) fun v6 => some ((if v5=true then v6 else false))
def L124:Lib Tryz.prog:=L190.add pm 124 [t6] .bool (fun st=>F124 st) [] [] spOK_nil (fun _=>by kernel_rfl)
def F143 (a0:D6):Option Bool := Option.bind (F124 a0) fun v1 => some (!v1)
def L143:Lib Tryz.prog:=L124.add pm 143 [t6] .bool (fun st=>F143 st) [] [] spOK_nil (fun _=>by kernel_rfl)
def F145 (a0:D6):Option Int := some a0.1
def L145:Lib Tryz.prog:=L143.add pm 145 [t6] (.int .u64) (fun st=>F145 st) [] [] spOK_nil (fun _=>by kernel_rfl)
def F84 (a0:D7):Option Bool := if (if (if (decide (a0.1≥(0:Int)))=true then (decide (a0.1≤(1099511627776:Int))) else false)=true then (decide (((List.length a0.2.2.2.1:Nat):Int)≤(1024:Int))) else false)=true then letJ (σ:=Bool) (ρ:=Bool) (fun s1 => if s1=true then letJ (σ:=Int) (ρ:=Bool) (fun s2 => some ((!(decide (s2≥(0:Int)))))) fun j2_1 => letJ (σ:=Unit) (ρ:=Bool) (fun s2 => j2_1 (-1:Int)) fun j2_2 => letJ (σ:=Int) (ρ:=Bool) (fun s2 => j2_1 s2) fun j2_3 => whileO (σ:=Int) (ρ:=Bool) (fun s2 => if (decide (s2<((List.length a0.2.2.2.1:Nat):Int)))=true then Option.bind (idxO a0.2.2.2.1 s2) fun v3 => Option.bind (F143 v3) fun v4 => if v4=true then done (j2_3 s2) else turn (IntKind.wrap .i64 (s2+(1:Int))) else done (j2_2 ())) (0:Int) else some false) fun j1_1 => letJ (σ:=Unit) (ρ:=Bool) (fun s1 => j1_1 true) fun j1_2 => letJ (σ:=Unit) (ρ:=Bool) (fun s1 => j1_1 false) fun j1_3 => whileO (σ:=Int) (ρ:=Bool) (fun s1 => if (decide (s1<((List.length a0.2.2.2.1:Nat):Int)))=true then Option.bind (idxO a0.2.2.2.1 (IntKind.wrap .i64 (s1 - (1:Int)))) fun v2 => Option.bind (idxO a0.2.2.2.1 s1) fun v3 => Option.bind (F145 v2) fun v4 => Option.bind (F145 v3) fun v5 => if (decide (v4≥v5))=true then done (j1_3 ()) else turn (IntKind.wrap .i64 (s1+(1:Int))) else done (j1_2 ())) (1:Int) else some false
def L84:Lib Tryz.prog:=L145.add pm 84 [t7] .bool (fun st=>F84 st) [(2,[5],[],[],[],[]),(5,[8],[],[],[],[])] [] spOK_nil (fun _=>by kernel_rfl)
abbrev t9:Ty:=.st (.prod (.sl t6) (.prod (.cst (.fnc 145)) .unit))
abbrev D9:Type:=((List D6)×(Unit×Unit))
abbrev t10:Ty:=.st (.prod (.sl t6) (.prod (.cst .nilf) .unit))
abbrev D10:Type:=((List D6)×(Unit×Unit))
abbrev sett10_0_1 (x:D10) (y:(List D6)):D10:=(y,x.2)
abbrev sett10_1_1 (x:D10) (y:Unit):D9:=(x.1,(y,x.2.2))
def F132 (a0:D7):Option D9 := some ((sett10_1_1 (sett10_0_1 (Ty.zero t10:D10) a0.2.2.2.1) ()))
def L132:Lib Tryz.prog:=L84.add pm 132 [t7] t9 (fun st=>F132 st) [] [] spOK_nil (fun _=>by kernel_rfl)
def F204 (a0:Int):Option Bool := some ((a0 != a0))
def L204:Lib Tryz.prog:=L132.add pm 204 [(.int .u64)] .bool (fun st=>F204 st) [] [] spOK_nil (fun _=>by kernel_rfl)
def F203 (a0:Int) (a1:Int):Option Int := Option.bind (F204 a0) fun v2 => Option.bind (F204 a1) fun v3 => letJ (σ:=Int) (ρ:=Int) (fun s4 => some s4) fun j4_1 => if v2=true then if v3=true then j4_1 (0:Int) else j4_1 (-1:Int) else if v3=true then some ((1:Int)) else if (decide (a0<a1))=true then some ((-1:Int)) else if (decide (a0>a1))=true then some ((1:Int)) else some ((0:Int))
def L203:Lib Tryz.prog:=L204.add pm 203 [(.int .u64),(.int .u64)] (.int .i64) (fun st=>F203 st.1 st.2) [] [] spOK_nil (fun _=>by kernel_rfl)
def F69 (a0:D7) (a1:Int):Option (D6×Bool) := Option.bind (F132 a0) fun v2 => letJ (σ:=(Int×Bool)) (ρ:=(D6×Bool)) (fun s3 => if (!s3.2)=true then some (((Ty.zero t6:D6),false)) else Option.bind (idxO a0.2.2.2.1 s3.1) fun v5 => some ((v5,true))) fun j3_1 => letJ (σ:=Int) (ρ:=(D6×Bool)) (fun s3 => Option.bind (if ((decide (s3<((List.length v2.1:Nat):Int)))&&true)=true then (idxO v2.1 s3) else some (Ty.zero t6:D6)) fun v4 => if (decide (s3<((List.length v2.1:Nat):Int)))=true then Option.bind (F145 v4) fun v5 => Option.bind (F203 v5 a1) fun v6 => j3_1 (s3,(v6==(0:Int))) else j3_1 (s3,false)) fun j3_2 => whileO (σ:=(Int×Int)) (ρ:=(D6×Bool)) (fun s3 => if (decide (s3.1<s3.2))=true then Option.bind (shrO .u64 (IntKind.wrap .u64 (IntKind.wrap .i64 (s3.1+s3.2))) (1:Int)) fun v5 => Option.bind (idxO v2.1 (IntKind.wrap .i64 v5)) fun v6 => Option.bind (F145 v6) fun v7 => Option.bind (F203 v7 a1) fun v8 => letJ (σ:=(Int×Int)) (ρ:=((Int×Int) ⊕ (D6×Bool))) (fun s9 => turn (s9.1,s9.2)) fun j9_4 => if (decide (v8<(0:Int)))=true then j9_4 ((IntKind.wrap .i64 ((IntKind.wrap .i64 v5)+(1:Int))),s3.2) else j9_4 (s3.1,(IntKind.wrap .i64 v5)) else done (j3_2 s3.1)) ((0:Int),((List.length v2.1:Nat):Int))
def L69:Lib Tryz.prog:=L203.add pm 69 [t7,(.int .u64)] (.prod t6 .bool) (fun st=>F69 st.1 st.2) [(3,[9,10],[],[],[],[])] [] spOK_nil (fun _=>by kernel_rfl)
def F268 (a0:Int):Option Int := Option.bind (F301 a0) fun v1 => if (v1 != (0:Int))=true then some v1 else some ((5:Int))
def L268:Lib Tryz.prog:=L69.add pm 268 [(.int .i64)] (.int .i64) (fun st=>F268 st) [] [] spOK_nil (fun _=>by kernel_rfl)
def F267 (a0:Int) (a1:Int):Option Int := Option.bind (F268 a0) fun v2 => some v2
def L267:Lib Tryz.prog:=L268.add pm 267 [(.int .i64),(.int .i64)] (.int .i64) (fun st=>F267 st.1 st.2) [] [] spOK_nil (fun _=>by kernel_rfl)
abbrev sett0_0_1 (x:D0) (y:Int):D0:=(y,x.2)
abbrev sett0_1_1 (x:D0) (y:Int):D0:=(x.1,(y,x.2.2))
def F210 (a0:(List D0)):Option (List D0) := letJ (σ:=((List D0)×((List D0)×(List D0)))) (ρ:=(List D0)) (fun s1 => some s1.2.2) fun j1_1 => whileO (σ:=((List D0)×((List D0)×(List D0)))) (ρ:=(List D0)) (fun s1 => if (decide ((IntKind.wrap .i64 (((List.length s1.2.1:Nat):Int)+((List.length s1.1:Nat):Int)))>(0:Int)))=true then Option.bind (if ((!(((List.length s1.1:Nat):Int)==(0:Int)))&&((decide (((List.length s1.2.1:Nat):Int)>(0:Int)))&&true))=true then (idxO s1.2.1 (0:Int)) else some (Ty.zero t0:D0)) fun v4 => Option.bind (if ((!(((List.length s1.1:Nat):Int)==(0:Int)))&&((decide (((List.length s1.2.1:Nat):Int)>(0:Int)))&&true))=true then (idxO s1.1 (0:Int)) else some (Ty.zero t0:D0)) fun v5 => Option.bind (if ((!(((List.length s1.2.1:Nat):Int)==(0:Int)))&&((decide (((List.length s1.1:Nat):Int)>(0:Int)))&&true))=true then (idxO s1.1 (0:Int)) else some (Ty.zero t0:D0)) fun v6 => Option.bind (if ((!(((List.length s1.2.1:Nat):Int)==(0:Int)))&&((decide (((List.length s1.1:Nat):Int)>(0:Int)))&&true))=true then (idxO s1.2.1 (0:Int)) else some (Ty.zero t0:D0)) fun v7 => letJ (σ:=(Int×(D8×(List D0)))) (ρ:=(((List D0)×((List D0)×(List D0))) ⊕ (List D0))) (fun s8 => letJ (σ:=(Int×(D8×(List D0)))) (ρ:=(((List D0)×((List D0)×(List D0))) ⊕ (List D0))) (fun s11 => Option.bind (F267 s11.2.1.1 s11.2.1.2.1) fun v14 => letJ (σ:=(List D0)) (ρ:=(((List D0)×((List D0)×(List D0))) ⊕ (List D0))) (fun s15 => turn (s11.2.2,s8.2.2,s15)) fun j15_3 => if (v14 != (2:Int))=true then Option.bind (some ([(sett0_1_1 (sett0_0_1 (Ty.zero t0:D0) s11.1) v14)]:List D0)) fun v15 => Option.bind (appO 16 s1.2.2 v15) fun v16 => j15_3 v16 else j15_3 s1.2.2) fun j11_3 => if (if (((List.length s1.2.1:Nat):Int)==(0:Int))=true then true else (if (decide (((List.length s1.1:Nat):Int)>(0:Int)))=true then (decide (v6.1≤v7.1)) else false))=true then Option.bind (idxO s1.1 (0:Int)) fun v11 => Option.bind (idxO s1.1 (0:Int)) fun v12 => Option.bind (slcO s1.1 (1:Int) ((List.length s1.1:Nat):Int)) fun v13 => j11_3 (v11.1,(sett8_1_1 s8.2.1 v12.2.1),v13) else j11_3 (s8.1,s8.2.1,s1.1)) fun j8_3 => if (if (((List.length s1.1:Nat):Int)==(0:Int))=true then true else (if (decide (((List.length s1.2.1:Nat):Int)>(0:Int)))=true then (decide (v4.1≤v5.1)) else false))=true then Option.bind (idxO s1.2.1 (0:Int)) fun v8 => Option.bind (idxO s1.2.1 (0:Int)) fun v9 => Option.bind (slcO s1.2.1 (1:Int) ((List.length s1.2.1:Nat):Int)) fun v10 => j8_3 (v8.1,(sett8_0_1 (sett8_1_1 (sett8_0_1 (Ty.zero t8:D8) (2:Int)) (2:Int)) v9.2.1),v10) else j8_3 ((0:Int),(sett8_1_1 (sett8_0_1 (Ty.zero t8:D8) (2:Int)) (2:Int)),s1.2.1) else done (j1_1 (s1.1,s1.2.1,s1.2.2))) (([]:List D0),a0,([]:List D0))
def L210:Lib Tryz.prog:=L267.add pm 210 [(.sl t0)] (.sl t0) (fun st=>F210 st) [(4,[],[[3,2],[2,2],[7,1]],[],[],[])] [] spOK_nil (fun _=>by kernel_rfl)
def F300 (a0:D0) (a1:Int):Option Int := Option.bind (F203 a0.1 a1) fun v2 => some v2
def L300:Lib Tryz.prog:=L210.add pm 300 [t0,(.int .u64)] (.int .i64) (fun st=>F300 st.1 st.2) [] [] spOK_nil (fun _=>by kernel_rfl)
def F265 (a0:(List D0)) (a1:Int):Option (Int×Bool) := letJ (σ:=Int) (ρ:=(Int×Bool)) (fun s2 => Option.bind (if ((decide (s2<((List.length a0:Nat):Int)))&&true)=true then (idxO a0 s2) else some (Ty.zero t0:D0)) fun v3 => Option.bind (if ((decide (s2<((List.length a0:Nat):Int)))&&true)=true then (F300 v3 a1) else some (0:Int)) fun v4 => some ((s2,(if (decide (s2<((List.length a0:Nat):Int)))=true then (v4==(0:Int)) else false)))) fun j2_1 => whileO (σ:=(Int×Int)) (ρ:=(Int×Bool)) (fun s2 => if (decide (s2.1<s2.2))=true then Option.bind (shrO .u64 (IntKind.wrap .u64 (IntKind.wrap .i64 (s2.1+s2.2))) (1:Int)) fun v4 => Option.bind (idxO a0 (IntKind.wrap .i64 v4)) fun v5 => Option.bind (F300 v5 a1) fun v6 => letJ (σ:=(Int×Int)) (ρ:=((Int×Int) ⊕ (Int×Bool))) (fun s7 => turn (s7.1,s7.2)) fun j7_3 => if (decide (v6<(0:Int)))=true then j7_3 ((IntKind.wrap .i64 ((IntKind.wrap .i64 v4)+(1:Int))),s2.2) else j7_3 (s2.1,(IntKind.wrap .i64 v4)) else done (j2_1 s2.1)) ((0:Int),((List.length a0:Nat):Int))
def L265:Lib Tryz.prog:=L300.add pm 265 [(.sl t0),(.int .u64)] (.prod (.int .i64) .bool) (fun st=>F265 st.1 st.2) [(2,[9,10],[],[],[],[])] [] spOK_nil (fun _=>by kernel_rfl)
def F209 (a0:(List D0)) (a1:Int):Option Int := Option.bind (F265 a0 a1) fun v2 => if v2.2=true then Option.bind (idxO a0 v2.1) fun v3 => some v3.2.1 else some ((2:Int))
def L209:Lib Tryz.prog:=L265.add pm 209 [(.sl t0),(.int .u64)] (.int .i64) (fun st=>F209 st.1 st.2) [] [] spOK_nil (fun _=>by kernel_rfl)
def F146 (a0:(List D0)) (a1:(List D0)):Option Bool := letJ (σ:=Unit) (ρ:=Bool) (fun s2 => some true) fun j2_1 => letJ (σ:=D0) (ρ:=Bool) (fun s2 => some false) fun j2_2 => whileO (σ:=Int) (ρ:=Bool) (fun s2 => if (decide (s2<((List.length a0:Nat):Int)))=true then Option.bind (idxO a0 s2) fun v3 => Option.bind (F210 a1) fun v4 => Option.bind (F209 v4 v3.1) fun v5 => if (decide (v3.2.1>(if (decide ((2:Int)>v5))=true then (2:Int) else v5)))=true then done (j2_2 v3) else turn (IntKind.wrap .i64 (s2+(1:Int))) else done (j2_1 ())) (0:Int)
def L146:Lib Tryz.prog:=L209.add pm 146 [(.sl t0),(.sl t0)] .bool (fun st=>F146 st.1 st.2) [(1,[10],[],[],[],[])] [] spOK_nil (fun _=>by kernel_rfl)
abbrev t11:Ty:=.st (.prod t7 .unit)
abbrev D11:Type:=(D7×Unit)
def F250 (a0:D11) (a1:D6):Option (Bool×Bool) := letJ (σ:=(Bool×Bool)) (ρ:=(Bool×Bool)) (fun s2 => some ((s2.1,s2.2))) fun j2_1 => whileO (σ:=(Bool×(Bool×Int))) (ρ:=(Bool×Bool)) (fun s2 => if (decide (s2.2.2<((List.length a1.2.2.2.2.2.1:Nat):Int)))=true then Option.bind (idxO a1.2.2.2.2.2.1 s2.2.2) fun v5 => Option.bind (F69 a0.1 v5) fun v6 => Option.bind (if ((!s2.2.1)&&(v6.2&&true))=true then (F146 a1.2.2.1 v6.1.2.2.1) else some false) fun v7 => turn ((if s2.1=true then true else (!v6.2)),(if s2.2.1=true then true else (if v6.2=true then (!v7) else false)),(IntKind.wrap .i64 (s2.2.2+(1:Int)))) else done (j2_1 (s2.1,s2.2.1))) (false,false,(0:Int))
def L250:Lib Tryz.prog:=L146.add pm 250 [t11,t6] (.prod .bool .bool) (fun st=>F250 st.1 st.2) [(1,[4,5,13],[],[],[],[])] [] spOK_nil (fun _=>by kernel_rfl)
def F68 (a0:D6):Option Int := Option.bind (quoO .i64 ((List.length a0.2.2.2.2.2.2.1:Nat):Int) (16:Int)) fun v1 => Option.bind (remO ((List.length a0.2.2.2.2.2.2.1:Nat):Int) (16:Int)) fun v2 => letJ (σ:=Int) (ρ:=Int) (fun s3 => some ((IntKind.wrap .i64 (s3+(1:Int))))) fun j3_1 => if (decide (v2>(0:Int)))=true then j3_1 (IntKind.wrap .i64 (v1+(1:Int))) else j3_1 v1
def L68:Lib Tryz.prog:=L250.add pm 68 [t6] (.int .i64) (fun st=>F68 st) [] [] spOK_nil (fun _=>by kernel_rfl)
abbrev sett11_0_4 (x:D11) (y:D7):D11:=(y,x.2)
def F35 (a0:D7) (a1:D6):Option Int := Option.bind (F68 a1) fun v2 => letJ (σ:=Int) (ρ:=Int) (fun s3 => some s3) fun j3_1 => whileO (σ:=(Int×Int)) (ρ:=Int) (fun s3 => if (decide (s3.1<((List.length a1.2.2.2.2.2.1:Nat):Int)))=true then Option.bind (idxO a1.2.2.2.2.2.1 s3.1) fun v5 => Option.bind (F69 (sett11_0_4 (Ty.zero t11:D11) a0).1 v5) fun v6 => turn ((IntKind.wrap .i64 (s3.1+(1:Int))),(IntKind.wrap .i64 (s3.2+v6.1.2.2.2.1))) else done (j3_1 s3.2)) ((0:Int),v2)
def L35:Lib Tryz.prog:=L68.add pm 35 [t7,t6] (.int .i64) (fun st=>F35 st.1 st.2) [(3,[9],[[5,0]],[],[],[])] [] spOK_nil (fun _=>by kernel_rfl)
def F134 (a0:Int) (a1:Int):Option Bool := Option.bind (F204 a0) fun v2 => Option.bind (if (v2&&true)=true then (F204 a1) else some false) fun v3 => some ((if (if v2=true then (!v3) else false)=true then true else (decide (a0<a1))))
def L134:Lib Tryz.prog:=L35.add pm 134 [(.int .u64),(.int .u64)] .bool (fun st=>F134 st.1 st.2) [] [] spOK_nil (fun _=>by kernel_rfl)
def F135 (a0:Int):Option Bool := some ((a0 != a0))
def L135:Lib Tryz.prog:=L134.add pm 135 [(.int .u64)] .bool (fun st=>F135 st) [] [] spOK_nil (fun _=>by kernel_rfl)
def F70 (a0:(List Int)) (a1:Int):Option (Int×Bool) := letJ (σ:=Int) (ρ:=(Int×Bool)) (fun s2 => Option.bind (if ((decide (s2<((List.length a0:Nat):Int)))&&true)=true then (idxO a0 s2) else some (0:Int)) fun v3 => Option.bind (if ((decide (s2<((List.length a0:Nat):Int)))&&((!(v3==a1))&&true))=true then (idxO a0 s2) else some (0:Int)) fun v4 => Option.bind (if ((decide (s2<((List.length a0:Nat):Int)))&&((!(v3==a1))&&true))=true then (F135 v4) else some false) fun v5 => Option.bind (if ((decide (s2<((List.length a0:Nat):Int)))&&((!(v3==a1))&&(v5&&true)))=true then (F135 a1) else some false) fun v6 => some ((s2,(if (decide (s2<((List.length a0:Nat):Int)))=true then (if (v3==a1)=true then true else (if v5=true then v6 else false)) else false)))) fun j2_1 => whileO (σ:=(Int×Int)) (ρ:=(Int×Bool)) (fun s2 => if (decide (s2.1<s2.2))=true then Option.bind (shrO .u64 (IntKind.wrap .u64 (IntKind.wrap .i64 (s2.1+s2.2))) (1:Int)) fun v4 => Option.bind (idxO a0 (IntKind.wrap .i64 v4)) fun v5 => Option.bind (F134 v5 a1) fun v6 => letJ (σ:=(Int×Int)) (ρ:=((Int×Int) ⊕ (Int×Bool))) (fun s7 => turn (s7.1,s7.2)) fun j7_3 => if v6=true then j7_3 ((IntKind.wrap .i64 ((IntKind.wrap .i64 v4)+(1:Int))),s2.2) else j7_3 (s2.1,(IntKind.wrap .i64 v4)) else done (j2_1 s2.1)) ((0:Int),((List.length a0:Nat):Int))
def L70:Lib Tryz.prog:=L135.add pm 70 [(.sl (.int .u64)),(.int .u64)] (.prod (.int .i64) .bool) (fun st=>F70 st.1 st.2) [(1,[7,8],[],[],[],[])] [] spOK_nil (fun _=>by kernel_rfl)
def F39 (a0:D7) (a1:Int):Option (List Int) := letJ (σ:=(List Int)) (ρ:=(List Int)) (fun s2 => some s2) fun j2_1 => whileO (σ:=(Int×(List Int))) (ρ:=(List Int)) (fun s2 => if (decide (s2.1<((List.length (sett11_0_4 (Ty.zero t11:D11) a0).1.2.2.2.1:Nat):Int)))=true then letJ (σ:=(D6×(List Int))) (ρ:=((Int×(List Int)) ⊕ (List Int))) (fun s4 => turn ((IntKind.wrap .i64 (s2.1+(1:Int))),s4.2)) fun j4_3 => Option.bind (idxO (sett11_0_4 (Ty.zero t11:D11) a0).1.2.2.2.1 s2.1) fun v4 => Option.bind (F70 v4.2.2.2.2.2.1 a1) fun v5 => if v5.2=true then Option.bind (some ([v4.1]:List Int)) fun v6 => Option.bind (appO 8 s2.2 v6) fun v7 => j4_3 (v4,v7) else j4_3 (v4,s2.2) else done (j2_1 s2.2)) ((0:Int),([]:List Int))
def L39:Lib Tryz.prog:=L70.add pm 39 [t7,(.int .u64)] (.sl (.int .u64)) (fun st=>F39 st.1 st.2) [(3,[12],[[5,0]],[],[],[])] [] spOK_nil (fun _=>by kernel_rfl)
def F104 (a0:D11) (a1:Int):Option (Int×Bool) := letJ (σ:=Unit) (ρ:=(Int×Bool)) (fun s2 => some (((0:Int),false))) fun j2_1 => letJ (σ:=(D6×Int)) (ρ:=(Int×Bool)) (fun s2 => some ((s2.2,true))) fun j2_2 => whileO (σ:=Int) (ρ:=(Int×Bool)) (fun s2 => if (decide (s2<((List.length a0.1.2.2.2.1:Nat):Int)))=true then Option.bind (idxO a0.1.2.2.2.1 s2) fun v3 => Option.bind (F70 v3.2.2.2.2.2.1 a1) fun v4 => if v4.2=true then done (j2_2 (v3,v3.1)) else turn (IntKind.wrap .i64 (s2+(1:Int))) else done (j2_1 ())) (0:Int)
def L104:Lib Tryz.prog:=L39.add pm 104 [t11,(.int .u64)] (.prod (.int .u64) .bool) (fun st=>F104 st.1 st.2) [(3,[12],[],[],[],[])] [] spOK_nil (fun _=>by kernel_rfl)
def F41 (a0:D7) (a1:Int):Option (List Int) := Option.bind (F104 (sett11_0_4 (Ty.zero t11:D11) a0) a1) fun v2 => letJ (σ:=(List Int)) (ρ:=(List Int)) (fun s3 => some s3) fun j3_1 => letJ (σ:=Unit) (ρ:=(List Int)) (fun s3 => some (([]:List Int))) fun j3_2 => whileO (σ:=((List Int)×(Int×Bool))) (ρ:=(List Int)) (fun s3 => if s3.2.2=true then if (decide (((List.length s3.1:Nat):Int)>((List.length a0.2.2.2.1:Nat):Int)))=true then done (j3_2 ()) else Option.bind (some ([s3.2.1]:List Int)) fun v6 => Option.bind (appO 8 s3.1 v6) fun v7 => Option.bind (F104 (sett11_0_4 (Ty.zero t11:D11) a0) s3.2.1) fun v8 => turn (v7,v8.1,v8.2) else done (j3_1 s3.1)) (([]:List Int),v2.1,v2.2)
def L41:Lib Tryz.prog:=L104.add pm 41 [t7,(.int .u64)] (.sl (.int .u64)) (fun st=>F41 st.1 st.2) [(1,[6,7,8],[],[],[],[])] [] spOK_nil (fun _=>by kernel_rfl)
def F291 (a0:D11) (a1:Int):Option Bool := Option.bind (F41 a0.1 a1) fun v2 => Option.bind (if ((decide (((List.length v2:Nat):Int)>(0:Int)))&&true)=true then (idxO v2 (IntKind.wrap .i64 (((List.length v2:Nat):Int) - (1:Int)))) else some (0:Int)) fun v3 => some ((if (decide (((List.length v2:Nat):Int)>(0:Int)))=true then (v3==a0.1.2.2.1) else false))
def L291:Lib Tryz.prog:=L41.add pm 291 [t11,(.int .u64)] .bool (fun st=>F291 st.1 st.2) [] [] spOK_nil (fun _=>by kernel_rfl)
abbrev t12:Ty:=.st (.prod t2 .unit)
abbrev D12:Type:=(D2×Unit)
def F213 (a0:D12):Option Int := some ((IntKind.wrap .u64 (a0.1.2.1 - a0.1.1)))
def L213:Lib Tryz.prog:=L291.add pm 213 [t12] (.int .u64) (fun st=>F213 st) [] [] spOK_nil (fun _=>by kernel_rfl)
def F214 (a0:D12) (a1:Int):Option Bool := Option.bind (F213 a0) fun v2 => some ((if (decide ((IntKind.wrap .u64 (a1 - a0.1.1))<v2))=true then (decide (a1≥a0.1.1)) else false))
def L214:Lib Tryz.prog:=L213.add pm 214 [t12,(.int .u64)] .bool (fun st=>F214 st.1 st.2) [] [] spOK_nil (fun _=>by kernel_rfl)
abbrev sett12_0_2 (x:D12) (y:D2):D12:=(y,x.2)
def F150 (a0:D2) (a1:D2):Option Bool := Option.bind (F213 (sett12_0_2 (Ty.zero t12:D12) a0)) fun v2 => if (v2==(0:Int))=true then some true else Option.bind (F213 (sett12_0_2 (Ty.zero t12:D12) a1)) fun v3 => Option.bind (if ((!(v3==(0:Int)))&&true)=true then (F214 (sett12_0_2 (Ty.zero t12:D12) a0) (sett12_0_2 (Ty.zero t12:D12) a1).1.1) else some false) fun v4 => Option.bind (if ((!(v3==(0:Int)))&&((!v4)&&true))=true then (F214 (sett12_0_2 (Ty.zero t12:D12) a1) (sett12_0_2 (Ty.zero t12:D12) a0).1.1) else some false) fun v5 => some ((if (v3==(0:Int))=true then true else (if (!v4)=true then (!v5) else false)))
def L150:Lib Tryz.prog:=L214.add pm 150 [t2,t2] .bool (fun st=>F150 st.1 st.2) [] [] spOK_nil (fun _=>by kernel_rfl)
abbrev setarr_2_int_u64_0_1 (x:(Fin 2→Int)) (y:Int):(Fin 2→Int):=(fun j=>if j=Fin.mk 0 (by decide) then y else x j)
abbrev setarr_2_int_u64_1_1 (x:(Fin 2→Int)) (y:Int):(Fin 2→Int):=(fun j=>if j=Fin.mk 1 (by decide) then y else x j)
def F245 (a0:Int):Option (Fin 2→Int) := Option.bind (shrO .u64 (Go.Ab.andI .u64 a0 (2305843009213693951:Int)) (30:Int)) fun v1 => some ((setarr_2_int_u64_1_1 (setarr_2_int_u64_0_1 (Ty.zero (.arr 2 (.int .u64)):(Fin 2→Int)) v1) (Go.Ab.andI .u64 (Go.Ab.andI .u64 a0 (2305843009213693951:Int)) (1073741823:Int))))
def L245:Lib Tryz.prog:=L150.add pm 245 [(.int .u64)] (.arr 2 (.int .u64)) (fun st=>F245 st) [] [] spOK_nil (fun _=>by kernel_rfl)
def F290 (a0:Int):Option Int := Option.bind (shrO .u64 a0 (30:Int)) fun v1 => Option.bind (shrO .u64 (IntKind.wrap .u64 ((Go.Ab.xorI .u64 a0 v1) * (13787848793156543929:Int))) (27:Int)) fun v2 => Option.bind (shrO .u64 (IntKind.wrap .u64 ((Go.Ab.xorI .u64 (IntKind.wrap .u64 ((Go.Ab.xorI .u64 a0 v1) * (13787848793156543929:Int))) v2) * (10723151780598845931:Int))) (31:Int)) fun v3 => some ((Go.Ab.xorI .u64 (IntKind.wrap .u64 ((Go.Ab.xorI .u64 (IntKind.wrap .u64 ((Go.Ab.xorI .u64 a0 v1) * (13787848793156543929:Int))) v2) * (10723151780598845931:Int))) v3))
def L290:Lib Tryz.prog:=L245.add pm 290 [(.int .u64)] (.int .u64) (fun st=>F290 st) [] [] spOK_nil (fun _=>by kernel_rfl)
def F247 (a0:(Fin 2→Int)) (a1:Int) (a2:Int):Option (Fin 2→Int) := Option.bind (remO a2 (2:Int)) fun v3 => Option.bind (guardO (if (decide ((0:Int)≤(IntKind.wrap .i64 ((1:Int) - v3))))=true then (decide ((IntKind.wrap .i64 ((1:Int) - v3))<(2:Int))) else false)) fun v4 => Option.bind (aidxO a0 (IntKind.wrap .i64 ((1:Int) - v3))) fun v5 => Option.bind (F290 (IntKind.wrap .u64 ((IntKind.wrap .u64 (a1+(IntKind.wrap .u64 (v5 * (11400714819323198485:Int)))))+(IntKind.wrap .u64 ((IntKind.wrap .u64 a2) * (15111065706836454659:Int)))))) fun v6 => Option.bind (shrO .u64 v6 (20:Int)) fun v7 => Option.bind (guardO (if (decide ((0:Int)≤v3))=true then (decide (v3<(2:Int))) else false)) fun v8 => Option.bind (aidxO a0 v3) fun v9 => Option.bind (shlO .u64 (1:Int) (IntKind.wrap .i64 ((31:Int) - v3))) fun v10 => Option.bind (guardO (if (decide ((0:Int)≤v3))=true then (decide (v3<(2:Int))) else false)) fun v11 => Option.bind (asetO a0 v3 (Go.Ab.xorI .u64 v9 (Go.Ab.andI .u64 v7 (IntKind.wrap .u64 (v10 - (1:Int)))))) fun v12 => some v12
def L247:Lib Tryz.prog:=L290.add pm 247 [(.arr 2 (.int .u64)),(.int .u64),(.int .i64)] (.arr 2 (.int .u64)) (fun st=>F247 st.1 st.2.1 st.2.2) [] [] spOK_nil (fun _=>by kernel_rfl)
def F248 (a0:(Fin 2→Int)):Option Int := Option.bind (shlO .u64 (a0 (Fin.mk 0 (by decide))) (30:Int)) fun v1 => some ((Go.Ab.orI .u64 v1 (a0 (Fin.mk 1 (by decide)))))
def L248:Lib Tryz.prog:=L247.add pm 248 [(.arr 2 (.int .u64))] (.int .u64) (fun st=>F248 st) [] [] spOK_nil (fun _=>by kernel_rfl)
def F195 (a0:Int) (a1:Int) (a2:Bool):Option Int := Option.bind (F245 a1) fun v3 => letJ (σ:=(Fin 2→Int)) (ρ:=Int) (fun s4 => Option.bind (F248 s4) fun v5 => some v5) fun j4_1 => whileO (σ:=(Int×(Fin 2→Int))) (ρ:=Int) (fun s4 => if (decide (s4.1<(8:Int)))=true then letJ (σ:=Int) (ρ:=((Int×(Fin 2→Int)) ⊕ Int)) (fun s6 => Option.bind (F247 s4.2 a0 s6) fun v7 => turn ((IntKind.wrap .i64 (s4.1+(1:Int))),v7)) fun j6_3 => if a2=true then j6_3 (IntKind.wrap .i64 ((7:Int) - s4.1)) else j6_3 s4.1 else done (j4_1 s4.2)) ((0:Int),v3)
def L195:Lib Tryz.prog:=L248.add pm 195 [(.int .u64),(.int .u64),.bool] (.int .u64) (fun st=>F195 st.1 st.2.1 st.2.2) [(3,[4],[[7,0]],[],[],[])] [] spOK_nil (fun _=>by kernel_rfl)
def F215 (a0:Int) (a1:Int):Option Int := Option.bind (F195 a0 (IntKind.wrap .u64 (a1 - (1:Int))) true) fun v2 => some v2
def L215:Lib Tryz.prog:=L195.add pm 215 [(.int .u64),(.int .u64)] (.int .u64) (fun st=>F215 st.1 st.2) [] [] spOK_nil (fun _=>by kernel_rfl)
def F152 (a0:Int) (a1:D2) (a2:Int):Option Bool := Option.bind (if ((if (decide (a2>(0:Int)))=true then (decide (a2≤(2305843009213693952:Int))) else false)&&true)=true then (F215 a0 a2) else some (0:Int)) fun v3 => Option.bind (if ((if (decide (a2>(0:Int)))=true then (decide (a2≤(2305843009213693952:Int))) else false)&&true)=true then (F214 (sett12_0_2 (Ty.zero t12:D12) a1) v3) else some false) fun v4 => some ((if (if (decide (a2>(0:Int)))=true then (decide (a2≤(2305843009213693952:Int))) else false)=true then v4 else false))
def L152:Lib Tryz.prog:=L215.add pm 152 [(.int .u64),t2,(.int .u64)] .bool (fun st=>F152 st.1 st.2.1 st.2.2) [] [] spOK_nil (fun _=>by kernel_rfl)
def F252 (a0:D11) (a1:D6):Option Bool := letJ (σ:=Int) (ρ:=Bool) (fun s2 => some ((!(decide (s2≥(0:Int)))))) fun j2_1 => letJ (σ:=Unit) (ρ:=Bool) (fun s2 => j2_1 (-1:Int)) fun j2_2 => letJ (σ:=(Int×D6)) (ρ:=Bool) (fun s2 => j2_1 s2.1) fun j2_3 => whileO (σ:=Int) (ρ:=Bool) (fun s2 => if (decide (s2<((List.length a0.1.2.2.2.1:Nat):Int)))=true then Option.bind (idxO a0.1.2.2.2.1 s2) fun v3 => Option.bind (if ((if (v3.2.1==(4:Int))=true then (v3.1 != a1.1) else false)&&true)=true then (F150 a1.2.2.2.2.2.2.2.2.1.2.2.2.2.2.2.2.2.2.1 v3.2.2.2.2.2.2.2.2.1.2.2.2.2.2.2.2.2.2.1) else some false) fun v4 => Option.bind (if ((!(if (if (v3.2.1==(4:Int))=true then (v3.1 != a1.1) else false)=true then (!v4) else false))&&true)=true then (F152 a0.1.2.1 a1.2.2.2.2.2.2.2.2.1.2.2.2.2.2.2.2.2.2.1 v3.1) else some false) fun v5 => if (if (if (if (v3.2.1==(4:Int))=true then (v3.1 != a1.1) else false)=true then (!v4) else false)=true then true else v5)=true then done (j2_3 (s2,v3)) else turn (IntKind.wrap .i64 (s2+(1:Int))) else done (j2_2 ())) (0:Int)
def L252:Lib Tryz.prog:=L152.add pm 252 [t11,t6] .bool (fun st=>F252 st.1 st.2) [(3,[8],[],[],[],[])] [] spOK_nil (fun _=>by kernel_rfl)
def F15 (a0:D7):Option Int := letJ (σ:=Int) (ρ:=Int) (fun s1 => some s1) fun j1_1 => whileO (σ:=(Int×Int)) (ρ:=Int) (fun s1 => if (decide (s1.2<((List.length a0.2.2.2.1:Nat):Int)))=true then Option.bind (idxO a0.2.2.2.1 s1.2) fun v3 => Option.bind (F68 v3) fun v4 => turn ((IntKind.wrap .i64 (s1.1+v4)),(IntKind.wrap .i64 (s1.2+(1:Int)))) else done (j1_1 s1.1)) ((0:Int),(0:Int))
def L15:Lib Tryz.prog:=L252.add pm 15 [t7] (.int .i64) (fun st=>F15 st) [(1,[3,9],[],[],[],[])] [] spOK_nil (fun _=>by kernel_rfl)
abbrev sett7_2_1 (x:D7) (y:Int):D7:=(x.1,(x.2.1,(y,x.2.2.2)))
abbrev sett7_3_1 (x:D7) (y:(List D6)):D7:=(x.1,(x.2.1,(x.2.2.1,(y,x.2.2.2.2))))
def F14:Option Bool := Option.bind (F84 (sett11_0_4 (Ty.zero t11:D11) (sett7_2_1 (Ty.zero t7:D7) (1:Int))).1) fun v0 => letV ((if (if (decide ((sett11_0_4 (Ty.zero t11:D11) (sett7_2_1 (Ty.zero t7:D7) (1:Int))).1.1<(0:Int)))=true then true else (decide ((sett11_0_4 (Ty.zero t11:D11) (sett7_2_1 (Ty.zero t7:D7) (1:Int))).1.1>(1099511627776:Int))))=true then true else (decide (((List.length (sett11_0_4 (Ty.zero t11:D11) (sett7_2_1 (Ty.zero t7:D7) (1:Int))).1.2.2.2.1:Nat):Int)>(1024:Int))))) fun v1 => if v0=true then Option.bind (F69 (sett11_0_4 (Ty.zero t11:D11) (sett7_2_1 (Ty.zero t7:D7) (1:Int))).1 (sett11_0_4 (Ty.zero t11:D11) (sett7_2_1 (Ty.zero t7:D7) (1:Int))).1.2.2.1) fun v2 => letJ (σ:=Unit) (ρ:=Bool) (fun s3 => letJ (σ:=(List D0)) (ρ:=Bool) (fun s3 => Option.bind (some ([(sett6_3_1 (sett6_1_1 (sett6_0_1 (Ty.zero t6:D6) (1:Int)) (2:Int)) (3:Int))]:List D6)) fun v4 => Option.bind (if ((((List.length s3:Nat):Int)==(1:Int))&&true)=true then (idxO s3 (0:Int)) else some (Ty.zero t0:D0)) fun v5 => Option.bind (if ((if (((List.length s3:Nat):Int)==(1:Int))=true then (eqK (.prod (.int .u64) (.prod (.int .i64) .unit)) v5 (sett0_1_1 (Ty.zero t0:D0) (3:Int))) else false)&&true)=true then (F15 (sett7_3_1 (sett7_2_1 (Ty.zero t7:D7) (1:Int)) v4)) else some (0:Int)) fun v6 => some ((if (if (((List.length s3:Nat):Int)==(1:Int))=true then (eqK (.prod (.int .u64) (.prod (.int .i64) .unit)) v5 (sett0_1_1 (Ty.zero t0:D0) (3:Int))) else false)=true then (v6==(1:Int)) else false))) fun j3_1 => if (!(!v2.2))=true then j3_1 ([]:List D0) else Option.bind (some ([(sett0_1_1 (sett0_0_1 (Ty.zero t0:D0) (0:Int)) (3:Int))]:List D0)) fun v3 => Option.bind (appO 16 ([]:List D0) v3) fun v4 => j3_1 v4) fun j3_1 => whileO (σ:=Unit) (ρ:=Bool) (fun s3 => if (decide ((0:Int)<((List.length (sett11_0_4 (Ty.zero t11:D11) (sett7_2_1 (Ty.zero t7:D7) (1:Int))).1.2.2.2.1:Nat):Int)))=true then none else done (j3_1 ())) () else letJ (σ:=Unit) (ρ:=Bool) (fun s2 => letJ (σ:=(List D0)) (ρ:=Bool) (fun s2 => Option.bind (some ([(sett6_3_1 (sett6_1_1 (sett6_0_1 (Ty.zero t6:D6) (1:Int)) (2:Int)) (3:Int))]:List D6)) fun v3 => Option.bind (if ((((List.length s2:Nat):Int)==(1:Int))&&true)=true then (idxO s2 (0:Int)) else some (Ty.zero t0:D0)) fun v4 => Option.bind (if ((if (((List.length s2:Nat):Int)==(1:Int))=true then (eqK (.prod (.int .u64) (.prod (.int .i64) .unit)) v4 (sett0_1_1 (Ty.zero t0:D0) (3:Int))) else false)&&true)=true then (F15 (sett7_3_1 (sett7_2_1 (Ty.zero t7:D7) (1:Int)) v3)) else some (0:Int)) fun v5 => some ((if (if (((List.length s2:Nat):Int)==(1:Int))=true then (eqK (.prod (.int .u64) (.prod (.int .i64) .unit)) v4 (sett0_1_1 (Ty.zero t0:D0) (3:Int))) else false)=true then (v5==(1:Int)) else false))) fun j2_1 => if (!v1)=true then j2_1 ([]:List D0) else Option.bind (some ([(sett0_1_1 (sett0_0_1 (Ty.zero t0:D0) (0:Int)) (1:Int))]:List D0)) fun v2 => Option.bind (appO 16 ([]:List D0) v2) fun v3 => j2_1 v3) fun j2_1 => whileO (σ:=Unit) (ρ:=Bool) (fun s2 => if (decide ((0:Int)<((List.length (sett11_0_4 (Ty.zero t11:D11) (sett7_2_1 (Ty.zero t7:D7) (1:Int))).1.2.2.2.1:Nat):Int)))=true then none else done (j2_1 ())) ()
def L14:Lib Tryz.prog:=L15.add pm 14 [] .bool (fun st=>F14) [(6,[],[],[],[],[]),(11,[],[],[],[],[])] [(3000000,.vec)] (spOK_cons trivial spOK_nil) (fun _=>by kernel_rfl)
def F44 (a0:D6):Option Int := Option.bind (quoO .i64 (IntKind.wrap .i64 ((IntKind.wrap .i64 (((List.length a0.2.2.2.2.2.2.1:Nat):Int)+(16:Int))) - (1:Int))) (16:Int)) fun v1 => some ((IntKind.wrap .i64 ((1:Int)+v1)))
def L44:Lib Tryz.prog:=L14.add pm 44 [t6] (.int .i64) (fun st=>F44 st) [] [] spOK_nil (fun _=>by kernel_rfl)
def F16 (a0:D7):Option Int := letJ (σ:=Int) (ρ:=Int) (fun s1 => some s1) fun j1_1 => whileO (σ:=(Int×Int)) (ρ:=Int) (fun s1 => if (decide (s1.2<((List.length a0.2.2.2.1:Nat):Int)))=true then Option.bind (idxO a0.2.2.2.1 s1.2) fun v3 => Option.bind (F44 v3) fun v4 => turn ((IntKind.wrap .i64 (s1.1+v4)),(IntKind.wrap .i64 (s1.2+(1:Int)))) else done (j1_1 s1.1)) ((0:Int),(0:Int))
def L16:Lib Tryz.prog:=L44.add pm 16 [t7] (.int .i64) (fun st=>F16 st) [(1,[3,4],[],[],[],[])] [] spOK_nil (fun _=>by kernel_rfl)
def F18 (a0:D7):Option (List D0) := letJ (σ:=(List D0)) (ρ:=(List D0)) (fun s1 => some s1) fun j1_1 => whileO (σ:=((List D0)×Int)) (ρ:=(List D0)) (fun s1 => if (decide (s1.2<((List.length a0.2.2.2.1:Nat):Int)))=true then Option.bind (idxO a0.2.2.2.1 s1.2) fun v3 => letJ (σ:=(List D0)) (ρ:=(((List D0)×Int) ⊕ (List D0))) (fun s4 => turn (s4,(IntKind.wrap .i64 (s1.2+(1:Int))))) fun j4_3 => if (v3.2.1==(2:Int))=true then Option.bind (F35 a0 v3) fun v4 => Option.bind (some ([(sett0_1_1 (sett0_0_1 (Ty.zero t0:D0) v3.1) v4)]:List D0)) fun v5 => Option.bind (appO 16 s1.1 v5) fun v6 => j4_3 v6 else j4_3 s1.1 else done (j1_1 s1.1)) (([]:List D0),(0:Int))
def L18:Lib Tryz.prog:=L16.add pm 18 [t7] (.sl t0) (fun st=>F18 st) [(1,[3,9],[],[],[],[])] [] spOK_nil (fun _=>by kernel_rfl)
def F43 (a0:D7) (a1:Int):Option (D6×Bool) := letJ (σ:=Unit) (ρ:=(D6×Bool)) (fun s2 => some (((Ty.zero t6:D6),false))) fun j2_1 => letJ (σ:=D6) (ρ:=(D6×Bool)) (fun s2 => some ((s2,true))) fun j2_2 => whileO (σ:=Int) (ρ:=(D6×Bool)) (fun s2 => if (decide (s2<((List.length a0.2.2.2.1:Nat):Int)))=true then Option.bind (idxO a0.2.2.2.1 s2) fun v3 => if (v3.1==a1)=true then Option.bind (idxO a0.2.2.2.1 s2) fun v4 => done (j2_2 v4) else turn (IntKind.wrap .i64 (s2+(1:Int))) else done (j2_1 ())) (0:Int)
def L43:Lib Tryz.prog:=L18.add pm 43 [t7,(.int .u64)] (.prod t6 .bool) (fun st=>F43 st.1 st.2) [(1,[6],[],[],[],[])] [] spOK_nil (fun _=>by kernel_rfl)
def F36 (a0:D7) (a1:D6):Option Int := Option.bind (F44 a1) fun v2 => letJ (σ:=Int) (ρ:=Int) (fun s3 => some s3) fun j3_1 => whileO (σ:=(Int×Int)) (ρ:=Int) (fun s3 => if (decide (s3.2<((List.length a1.2.2.2.2.2.1:Nat):Int)))=true then Option.bind (idxO a1.2.2.2.2.2.1 s3.2) fun v5 => Option.bind (F43 a0 v5) fun v6 => turn ((IntKind.wrap .i64 (s3.1+v6.1.2.2.2.1)),(IntKind.wrap .i64 (s3.2+(1:Int)))) else done (j3_1 s3.1)) (v2,(0:Int))
def L36:Lib Tryz.prog:=L43.add pm 36 [t7,t6] (.int .i64) (fun st=>F36 st.1 st.2) [(1,[5,6],[],[],[],[])] [] spOK_nil (fun _=>by kernel_rfl)
def F19 (a0:D7):Option (List D0) := letJ (σ:=(List D0)) (ρ:=(List D0)) (fun s1 => some s1) fun j1_1 => whileO (σ:=((List D0)×Int)) (ρ:=(List D0)) (fun s1 => if (decide (s1.2<((List.length a0.2.2.2.1:Nat):Int)))=true then Option.bind (idxO a0.2.2.2.1 s1.2) fun v3 => letJ (σ:=(List D0)) (ρ:=(((List D0)×Int) ⊕ (List D0))) (fun s4 => turn (s4,(IntKind.wrap .i64 (s1.2+(1:Int))))) fun j4_3 => if (v3.2.1==(2:Int))=true then Option.bind (idxO a0.2.2.2.1 s1.2) fun v4 => Option.bind (idxO a0.2.2.2.1 s1.2) fun v5 => Option.bind (F36 a0 v5) fun v6 => Option.bind (some ([(sett0_1_1 (sett0_0_1 (Ty.zero t0:D0) v4.1) v6)]:List D0)) fun v7 => Option.bind (appO 16 s1.1 v7) fun v8 => j4_3 v8 else j4_3 s1.1 else done (j1_1 s1.1)) (([]:List D0),(0:Int))
def L19:Lib Tryz.prog:=L36.add pm 19 [t7] (.sl t0) (fun st=>F19 st) [(1,[3,4],[],[],[],[])] [] spOK_nil (fun _=>by kernel_rfl)
def F17 (a0:(List D0)) (a1:(List D0)):Option Bool := if (((List.length a0:Nat):Int) != ((List.length a1:Nat):Int))=true then some false else letJ (σ:=Unit) (ρ:=Bool) (fun s2 => some true) fun j2_1 => letJ (σ:=Unit) (ρ:=Bool) (fun s2 => some false) fun j2_2 => whileO (σ:=Int) (ρ:=Bool) (fun s2 => if (decide (s2<((List.length a0:Nat):Int)))=true then Option.bind (idxO a0 s2) fun v3 => Option.bind (idxO a1 s2) fun v4 => if (!(eqK (.prod (.int .u64) (.prod (.int .i64) .unit)) v3 v4))=true then done (j2_2 ()) else turn (IntKind.wrap .i64 (s2+(1:Int))) else done (j2_1 ())) (0:Int)
def L17:Lib Tryz.prog:=L19.add pm 17 [(.sl t0),(.sl t0)] .bool (fun st=>F17 st.1 st.2) [(1,[5],[],[],[],[])] [] spOK_nil (fun _=>by kernel_rfl)
def F20 (a0:D7):Option Int := letJ (σ:=Int) (ρ:=Int) (fun s1 => some s1) fun j1_1 => whileO (σ:=(Int×Int)) (ρ:=Int) (fun s1 => if (decide (s1.2<((List.length a0.2.2.2.1:Nat):Int)))=true then Option.bind (idxO a0.2.2.2.1 s1.2) fun v3 => turn ((IntKind.wrap .i64 (s1.1+(IntKind.wrap .i64 ((20:Int)+(IntKind.wrap .i64 ((64:Int) * ((List.length v3.2.2.2.2.2.1:Nat):Int))))))),(IntKind.wrap .i64 (s1.2+(1:Int)))) else done (j1_1 s1.1)) ((1000:Int),(0:Int))
def L20:Lib Tryz.prog:=L17.add pm 20 [t7] (.int .i64) (fun st=>F20 st) [(1,[3,9],[],[],[],[])] [] spOK_nil (fun _=>by kernel_rfl)
def F21 (a0:D7):Option Int := letJ (σ:=Int) (ρ:=Int) (fun s1 => some s1) fun j1_1 => whileO (σ:=(Int×Int)) (ρ:=Int) (fun s1 => if (decide (s1.2<((List.length a0.2.2.2.1:Nat):Int)))=true then Option.bind (idxO a0.2.2.2.1 s1.2) fun v3 => turn ((IntKind.wrap .i64 (s1.1+(IntKind.wrap .i64 ((64:Int) * ((List.length v3.2.2.2.2.2.1:Nat):Int))))),(IntKind.wrap .i64 (s1.2+(1:Int)))) else done (j1_1 s1.1)) ((IntKind.wrap .i64 ((1000:Int)+(IntKind.wrap .i64 ((20:Int) * ((List.length a0.2.2.2.1:Nat):Int))))),(0:Int))
def L21:Lib Tryz.prog:=L20.add pm 21 [t7] (.int .i64) (fun st=>F21 st) [(1,[3,4],[],[],[],[])] [] spOK_nil (fun _=>by kernel_rfl)
def F3 (a0:D7):Option Bool := Option.bind (F12 a0) fun v1 => Option.bind (if ((!(!v1))&&true)=true then (F13 a0) else some false) fun v2 => if (if (!v1)=true then true else (!v2))=true then Option.bind (F14) fun v3 => some v3 else Option.bind (F15 a0) fun v3 => Option.bind (F16 a0) fun v4 => Option.bind (if ((v3==v4)&&true)=true then (F18 a0) else some ([]:List D0)) fun v5 => Option.bind (if ((v3==v4)&&true)=true then (F19 a0) else some ([]:List D0)) fun v6 => Option.bind (if ((v3==v4)&&true)=true then (F17 v5 v6) else some false) fun v7 => Option.bind (if ((if (v3==v4)=true then v7 else false)&&true)=true then (F20 a0) else some (0:Int)) fun v8 => Option.bind (if ((if (v3==v4)=true then v7 else false)&&true)=true then (F21 a0) else some (0:Int)) fun v9 => Option.bind (if ((if (if (v3==v4)=true then v7 else false)=true then (v8==v9) else false)&&true)=true then (F14) else some false) fun v10 => some ((if (if (if (v3==v4)=true then v7 else false)=true then (v8==v9) else false)=true then v10 else false))
end
end Go.Fn
namespace Go.Fn
open Go Go.Ab Go.Tx
abbrev objs (w:D7):List D6:=w.2.2.2.1
def findO (l:List D6) (id:Int):D6×Bool:=match l.find? (fun o=>o.1==id) with | some o=>(o,true) | none=>(Ty.zero t6,false)
theorem F43_eq (w:D7) (id:Int) (hl:(objs w).length≤1000):F43 w id=some (findO (objs w) id):=by
 refine Def.eq ?_
 unfold F43
 simp only [letJ_eq,letV_eq]
 refine Def.loop (fun i:Int=>0≤i∧i≤(objs w).length∧(objs w).find? (fun o=>o.1==id)=((objs w).drop i.toNat).find? (fun o=>o.1==id)) (fun i:Int=>(objs w).length - i.toNat) ⟨by omega,by omega,by simp⟩ (fun i hi=>?_)
 refine Def.ite (fun h1=>?_) (fun h1=>?_)
 ·have h1:i<(objs w).length:=by simpa [objs] using h1
  have e:(i+1).toNat=i.toNat+1:=by omega
  refine Def.bind (Def.idx hi.1 h1 (fun o ho hm=>?_))
  have hd:(objs w).drop i.toNat=o::(objs w).drop (i.toNat+1):=by
   obtain ⟨hk,e⟩:=List.getElem?_eq_some_iff.1 ho
   rw [← e];exact List.drop_eq_getElem_cons hk
  have hf:=hi.2.2
  rw [hd,List.find?_cons] at hf
  refine Def.ite (fun h2=>Def.bind (Def.idx hi.1 h1 (fun o' ho' _=>?_))) (fun h2=>.turn ?_)
  ·rw [ho] at ho'; cases ho'
   refine .done (.ret ?_)
   unfold findO
   rw [hf,h2]
  ·have hw:IntKind.wrap .i64 (i+1)=i+1:=wrap_i64 (by omega) (by omega)
   rw [hw]
   have h2:(o.1==id)=false:=by simpa using h2
   rw [h2] at hf
   exact ⟨⟨by omega,by omega,by rw [e];exact hf⟩,by omega⟩
 ·have h1 : ¬ i<(objs w).length:=by simpa [objs] using h1
  refine .done (.ret ?_)
  have hf:=hi.2.2
  rw [List.drop_eq_nil_of_le (by omega)] at hf
  unfold findO
  rw [hf];rfl
abbrev lnk (o:D6):List Int:=o.2.2.2.2.2.1
abbrev dat (o:D6):List Int:=o.2.2.2.2.2.2.1
def pages (o:D6):Int:=1+((dat o).length+15) / 16
theorem F44_eq (o:D6) (h:(dat o).length≤1000000):F44 o=some (pages o):=by
 unfold F44
 have h' : (o.2.2.2.2.2.2.1).length≤1000000:=h
 rw [wrap_i64 (x:=((o.2.2.2.2.2.2.1).length:Int)+16) (by omega) (by omega),wrap_i64 (x:=((o.2.2.2.2.2.2.1).length:Int)+16 - 1) (by omega) (by omega)]
 have e:((o.2.2.2.2.2.2.1).length:Int)+16 - 1=(o.2.2.2.2.2.2.1).length+15:=by omega
 have e2:(((o.2.2.2.2.2.2.1).length:Int)+15).tdiv 16=((o.2.2.2.2.2.2.1).length+15) / 16:=Int.tdiv_eq_ediv_of_nonneg (by omega)
 rw [e,quoO,if_pos (by decide),e2,wrap_i64 (by omega) (by omega),Option.bind_some,wrap_i64 (by omega) (by omega)]
 rfl
abbrev quo (o:D6):Int:=o.2.2.2.1
def usesF (l:List D6) (n:Int) (ids:List Int):Int:=ids.foldl (fun n id=>IntKind.wrap .i64 (n+quo (findO l id).1)) n
theorem F36_eq (w:D7) (o:D6) (hl:(objs w).length≤1000) (hd:(dat o).length≤1000000) (hk:(lnk o).length≤1000):F36 w o=some (usesF (objs w) (pages o) (lnk o)):=by
 refine Def.eq ?_
 unfold F36
 rw [F44_eq o hd,Option.bind_some]
 simp only [letJ_eq]
 refine Def.for2 (l:=lnk o) (fun pre a=>a=usesF (objs w) (pages o) pre) (by omega) rfl (fun pre v post a e hi=>?_) (fun a hi=>?_)
 ·subst hi
  refine Def.bind (Def.of (F43_eq w v hl) ?_)
  refine .turn ⟨rfl,?_⟩
  simp only [usesF,List.foldl_append,List.foldl_cons,List.foldl_nil]
 ·subst hi
  exact .done (.ret rfl)
end Go.Fn
namespace Go.Fn
open Go Go.Ab Go.Tx
theorem findO_mem:∀ {l:List D6},l.Pairwise (fun a b=>a.1<b.1)→∀ o∈l,findO l o.1=(o,true)
 | [],_,o,h=>by cases h
 | a::l,hp,o,h=>by
  obtain ⟨h1,h2⟩:=List.pairwise_cons.1 hp
  rcases List.mem_cons.1 h with rfl | h
  ·simp [findO]
  ·have:=h1 o h
   have hne:(a.1==o.1)=false:=by simp;omega
   have ih:=findO_mem h2 o h
   unfold findO at ih ⊢
   rw [List.find?_cons,hne]
   exact ih
theorem findO_none {l:List D6} {id:Int} (h:∀ o∈l,o.1≠id):findO l id=(Ty.zero t6,false):=by
 have:l.find? (fun o=>o.1==id)=none:=List.find?_eq_none.2 fun o ho=>by simpa using h o ho
 unfold findO
 rw [this]
end Go.Fn
namespace Go.Fn
open Go Go.Ab Go.Tx
def lowB (ks:List Int) (t:Int):Nat:=(ks.filter fun k=>decide (k<t)).length
theorem lowB_le (ks:List Int) (t:Int):lowB ks t≤ks.length:=List.length_filter_le _ _
theorem lowB_lt:∀ {ks:List Int},ks.Pairwise (· < ·)→∀ (t:Int) (m:Nat) (v:Int),ks[m]? = some v→(v<t↔m<lowB ks t)
 | [],_,t,m,v,h=>by simp at h
 | k::ks,hp,t,m,v,h=>by
  obtain ⟨h1,h2⟩:=List.pairwise_cons.1 hp
  by_cases hk:k<t
  ·have e:lowB (k::ks) t=lowB ks t+1:=by simp [lowB,List.filter_cons,hk]
   rw [e]
   cases m with
   | zero=>simp at h;subst h;simp [hk]
   | succ m =>
    have:=lowB_lt h2 t m v (by simpa using h)
    rw [this];omega
  ·have e0:lowB (k::ks) t=0:=by
    have:∀ x∈k::ks,¬ x<t:=by
     intro x hx
     rcases List.mem_cons.1 hx with rfl | hx
     ·exact hk
     ·have:=h1 x hx;omega
    unfold lowB
    rw [List.filter_eq_nil_iff.2 (by intro x hx;simpa using this x hx)]
    rfl
   rw [e0]
   have hv:v∈k::ks:=List.mem_of_getElem? h
   constructor
   ·intro hv'
    rcases List.mem_cons.1 hv with rfl | hx
    ·exact absurd hv' hk
    ·have:=h1 v hx;omega
   ·intro h;omega
theorem lowB_mem {ks:List Int} (hp:ks.Pairwise (· < ·)) {t v:Int} (h:ks[lowB ks t]? = some v):t∈ks↔v=t:=by
 constructor
 ·intro hm
  obtain ⟨m,hm⟩:=List.getElem?_of_mem hm
  have h1:=lowB_lt hp t m t hm
  have h2:=lowB_lt hp t _ v h
  have h3 : ¬ v<t:=fun hc=>by have:=h2.1 hc;omega
  have h4 : ¬ m<lowB ks t:=fun hc=>by have:=h1.2 hc;omega
  by_cases he:m=lowB ks t
  ·rw [he,h] at hm;exact Option.some.inj hm
  ·exfalso
   have hlt:lowB ks t<m:=by omega
   obtain ⟨q1,q2⟩:=List.getElem?_eq_some_iff.1 h
   obtain ⟨r1,r2⟩:=List.getElem?_eq_some_iff.1 hm
   have:=List.pairwise_iff_getElem.1 hp _ _ q1 r1 hlt
   omega
 ·rintro rfl;exact List.mem_of_getElem? h
theorem lowB_end {ks:List Int} (hp:ks.Pairwise (· < ·)) {t:Int} (h:ks.length≤lowB ks t):t ∉ ks:=by
 intro hm
 obtain ⟨m,hm⟩:=List.getElem?_of_mem hm
 have h1:=lowB_lt hp t m t hm
 obtain ⟨r1,r2⟩:=List.getElem?_eq_some_iff.1 hm
 have:t<t:=h1.2 (by omega)
 omega
end Go.Fn
namespace Go.Fn
open Go Go.Ab Go.Tx
abbrev thr (o:D6):D4:=o.2.2.2.2.2.2.2.2.1
abbrev gat (o:D6):D5:=o.2.2.2.2.2.2.2.2.2.1
abbrev big:Nat:=9223372036854775807
structure OkO (o:D6):Prop where
 lab:o.2.2.1.length≤big
 lnk:(lnk o).length≤big
 dat:(dat o).length≤big
 mps:o.2.2.2.2.2.2.2.1.length≤big
 clr:(thr o).2.2.1.length≤big
 alr:(thr o).2.2.2.2.2.2.2.2.1.length≤big
 lbs:∀ i,((thr o).2.2.2.2.2.2.2.2.2.2.1 i).length≤big
 gra:(gat o).1.length≤big
 gcl:(gat o).2.1.length≤big
 inn:o.2.2.2.2.2.2.2.2.2.2.1.length≤big
 out:o.2.2.2.2.2.2.2.2.2.2.2.1.length≤big
structure FitL (l:List D0):Prop where
 rise:l.Pairwise (fun a b=>a.1<b.1)
 lev:∀ p∈l,0≤p.2.1∧p.2.1≤5∧p.2.1≠2
theorem F155_def (l:List D0) (hl:l.length≤big):Def (F155 l) fun b=>b=true→FitL l:=by
 unfold F155
 simp only [letJ_eq,F218,Option.bind_some]
 refine Def.for1 (l:=l) (fun pre=>FitL pre) hl ⟨List.Pairwise.nil,by simp⟩ (fun pre v post e hi=>?_) (fun hi=>.done (.ret fun _=>hi))
 refine Def.bindI _ (fun _=>Def.at e) (fun v4 q4 _=>?_)
 refine Def.bindI _ (fun hc=>Def.prev e hl (by simp at hc;omega)) (fun v5 q5 _=>?_)
 refine Def.bindI _ (fun _=>Def.at e) (fun v6 q6 _=>?_)
 refine Def.ite (fun _=>.done (.ret (fun h=>by cases h))) (fun hc=>.turn ⟨rfl,?_⟩)
 simp at hc q4 q5 q6
 obtain ⟨⟨⟨h0,h5⟩,h2⟩,hp⟩:=hc
 have e4:=q4 h0 h5
 subst e4
 refine ⟨?_,?_⟩
 ·rw [List.pairwise_append]
  refine ⟨hi.rise,by simp,fun x hx y hy=>?_⟩
  simp only [List.mem_singleton] at hy;subst hy
  have hpos:0<pre.length:=List.length_pos_of_mem hx
  have hu:=q5 h0 h5 h2 hpos
  have hv:=q6 h0 h5 h2 hpos
  have hlt:=hp hpos
  rw [hv] at hlt
  have hr:=hi.rise
  obtain ⟨ys,rfl⟩:=List.getLast?_eq_some_iff.1 hu
  rw [List.pairwise_append] at hr
  rcases List.mem_append.1 hx with hx | hx
  ·have:=hr.2.2 x hx v5 (by simp);omega
  ·simp at hx;subst hx;omega
 ·intro p hp'
  rcases List.mem_append.1 hp' with hp' | hp'
  ·exact hi.lev p hp'
  ·simp at hp'; subst hp'; exact ⟨h0,h5,h2⟩
theorem F94_def (l:List D0) (hl:l.length≤big):Def (F94 l) fun b=>b=true→l.length≤16∧FitL l:=by
 unfold F94
 simp only [letJ_eq]
 refine Def.for1 (l:=l) (fun _=>True) hl trivial (fun pre v post e _=>?_) (fun _=>?_)
 ·exact Def.ite (fun _=>.done (.ret (fun h=>by cases h))) (fun _=>.turn ⟨rfl,trivial⟩)
 ·refine Def.done (Def.bindI _ (fun _=>F155_def l hl) (fun b q _=>.ret (fun h=>?_)))
  by_cases h' : ((l.length:Nat):Int)≤16
  ·rw [if_pos (by simpa using h')] at h
   exact ⟨by omega,q (by simpa using h') h⟩
  ·rw [if_neg (by simpa using h')] at h;cases h
theorem same_def {α:Type} {a b:List α} {c:Int→α→α→Bool} (hl:b.length≤big):Def (if (((List.length a:Nat):Int) != ((List.length b:Nat):Int))=true then some false else
  whileO (σ:=Int) (ρ:=Bool) (fun s=>if (decide (s<((List.length a:Nat):Int)))=true then Option.bind (idxO a s) fun v=>Option.bind (idxO b s) fun u=>if c s v u=true then done (some false) else turn (IntKind.wrap .i64 (s+(1:Int))) else done (some true)) (0:Int))
  fun r=>r=true→(∀ s v u,c s v u=false→v=u)→a=b:=by
 refine Def.ite (fun _=>.ret (fun h=>by cases h)) (fun h=>?_)
 have hn:a.length=b.length:=by simp at h;exact_mod_cast h
 refine Def.for1 (l:=a) (fun pre=>(∀ s v u,c s v u=false→v=u)→b.take pre.length=pre) (by rw [hn];exact hl) (by simp) (fun pre v post e hi=>?_) (fun hi=>?_)
 ·have hlt:pre.length<b.length:=by rw [← hn,e];simp
  refine Def.bind (Def.idx (by omega) (by exact_mod_cast hlt) (fun u hu _=>?_))
  refine Def.ite (fun _=>.done (.ret (fun h=>by cases h))) (fun hc=>.turn ⟨rfl,fun hh=>?_⟩)
  have hvu:=hh _ _ _ (by simpa using hc)
  simp only [Int.toNat_natCast] at hu
  rw [List.length_append,List.length_singleton,List.take_add_one,hi hh,hu,hvu];rfl
 ·refine .done (.ret (fun _ hh=>?_))
  have:=hi hh
  rw [hn,List.take_length] at this
  exact this.symm
theorem F128_def (a b:List D0) (hl:b.length≤big):Def (F128 a b) fun _=>True:=by
 unfold F128
 simp only [letJ_eq]
 exact (same_def (c:=fun _ v u=>!(eqK (.prod (.int .u64) (.prod (.int .i64) .unit)) v u)) hl).mono fun _ _=>trivial
theorem F139_def (a b:List Int) (hl:b.length≤big):Def (F139 a b) fun r=>r=true→a=b:=by
 unfold F139
 simp only [letJ_eq]
 refine (same_def (c:=fun _ v u=>v != u) hl).mono fun r h hr=>h hr fun _ v u h=>?_
 simpa using h
theorem F140_def (a b:List D1) (hl:b.length≤big):Def (F140 a b) fun _=>True:=by
 unfold F140
 simp only [letJ_eq]
 exact (same_def (c:=fun _ v u=>!(eqK (.prod (.int .i64) (.prod (.int .i64) (.prod (.int .u64) (.prod (.int .u64) (.prod (.int .i64) (.prod .bool .unit)))))) v u)) hl).mono fun _ _=>trivial
theorem guard4 {i:Int} {Q:Unit→Prop} (h0:0≤i) (h1:i<(4:Nat)) (h:Q ()):Def (guardO (if (decide ((0:Int)≤i))=true then (decide (i<(4:Int))) else false)) Q :=
 have h4:i<4:=by omega
 Def.guard (by simp [h0,h4]) h
theorem F141_def (a b:D4) (h1:b.2.2.1.length≤big) (h2:b.2.2.2.2.2.2.2.2.1.length≤big) (h3:∀ i,(b.2.2.2.2.2.2.2.2.2.2.1 i).length≤big):Def (F141 a b) fun _=>True:=by
 unfold F141
 simp only [letJ_eq,letV_eq]
 refine Def.times (n:=4) (by omega) (fun i h0 h4=>?_) ?_
 ·refine Def.bind (guard4 h0 h4 (Def.bind (Def.aidx h0 h4 fun k=>Def.bind (guard4 h0 h4 (Def.bind (Def.aidx h0 h4 fun k'=>?_))))))
  refine Def.bind' (R:=fun _=>True) (F128_def _ _ (h3 _)) (fun _ _=>?_)
  exact Def.ite (fun _=>.done (.ret trivial)) (fun _=>.turn rfl)
 ·refine Def.done (Def.bindI (fun _=>True) (fun _=>F128_def _ _ h1) (fun _ _ _=>?_))
  exact Def.bindI (fun _=>True) (fun _=>(F139_def _ _ h2).mono fun _ _=>trivial) (fun _ _ _=>.ret trivial)
theorem F142_def (a b:D5) (h1:b.1.length≤big) (h2:b.2.1.length≤big):Def (F142 a b) fun _=>True:=by
 unfold F142
 simp only [letV_eq]
 refine Def.bind' (R:=fun _=>True) (F128_def _ _ h1) (fun _ _=>?_)
 exact Def.bindI (fun _=>True) (fun _=>F128_def _ _ h2) (fun _ _ _=>.ret trivial)
theorem F83_def (a b:D6) (h:OkO b):Def (F83 a b) fun r=>r=true→lnk a=lnk b∧dat a=dat b:=by
 unfold F83
 simp only [letV_eq]
 refine Def.bindI (fun _=>True) (fun _=>F128_def _ _ h.lab) (fun _ _ _=>?_)
 refine Def.ite (fun _=>.ret (fun h=>by cases h)) (fun _=>?_)
 refine Def.bind' (F139_def _ _ h.lnk) (fun v4 q4=>?_)
 refine Def.bindI _ (fun _=>F139_def _ _ h.dat) (fun v5 q5 _=>?_)
 refine Def.bindI (fun _=>True) (fun _=>F140_def _ _ h.mps) (fun v6 _ _=>?_)
 refine Def.bindI (fun _=>True) (fun _=>F141_def _ _ h.clr h.alr h.lbs) (fun v7 _ _=>?_)
 refine Def.bindI (fun _=>True) (fun _=>F142_def _ _ h.gra h.gcl) (fun v8 _ _=>?_)
 refine Def.bindI (fun _=>True) (fun _=>(F139_def _ _ h.inn).mono fun _ _=>trivial) (fun v9 _ _=>?_)
 refine Def.bindI (fun _=>True) (fun _=>(F139_def _ _ h.out).mono fun _ _=>trivial) (fun v10 _ _=>.ret (fun hr=>?_))
 cases v4 with
 | false=>simp at hr
 | true =>
  cases v5 with
  | false=>simp at hr
  | true=>exact ⟨q4 rfl,q5 (by simp) rfl⟩
theorem F95_def (o:D6) (h:OkO o):Def (F95 o) fun r=>r=true→(o.2.1≠2→lnk o=[])∧(o.2.1≠1→dat o=[]):=by
 have key:∀ x:D6,((o.2.1≠2→lnk x=[])∧(o.2.1≠1→dat x=[]))→Def (Option.bind (F83 x o) fun v2=>some v2) fun r=>r=true→(o.2.1≠2→lnk o=[])∧(o.2.1≠1→dat o=[]):=by
  intro x hx
  refine Def.bind' (F83_def x o h) (fun v q=>.ret (fun hv=>?_))
  obtain ⟨e1,e2⟩:=q hv
  rw [← e1,← e2];exact hx
 unfold F95
 simp only [letJ_eq]
 refine Def.ite (fun hk=>?_) (fun hk=>Def.ite (fun hk2=>?_) (fun hk2=>Def.ite (fun hk3=>?_) (fun hk3=>Def.ite (fun hk4=>?_) (fun hk4=>Def.ite (fun hk5=>?_) (fun hk5=>Def.ite (fun hk6=>?_) (fun hk6=>?_))))))
 all_goals refine key _ ⟨fun hn=>?_,fun hn=>?_⟩
 all_goals first | rfl | (simp_all)
theorem F96_def (l:List D0) (hl:l.length≤1000000):Def (F96 l) fun _=>True:=by
 unfold F96
 simp only [letJ_eq]
 refine Def.for2 (l:=l) (fun pre a=>a.length≤pre.length) (by omega) (by simp) (fun pre v post a e hi=>?_) (fun a hi=>.done (.ret trivial))
 have hlt:pre.length<l.length:=by rw [e];simp
 refine Def.ite (fun h=>?_) (fun h=>.turn ⟨rfl,by simp;omega⟩)
 refine Def.bind' (R:=fun _=>True) ((Def.at e).mono fun _ _=>trivial) (fun u _=>Def.bind (.ret (Def.bind (Def.app (by simp only [List.length_cons,List.length_nil];omega) (.turn ⟨rfl,?_⟩)))))
 simp only [List.length_append,List.length_cons,List.length_nil];omega
theorem F97_def (l:List Int) (hl:l.length≤big):Def (F97 l) fun b=>b=true→l.Pairwise (· < ·):=by
 unfold F97
 simp only [letJ_eq,F93,Option.bind_some]
 refine Def.for1 (l:=l) (fun pre=>pre.Pairwise (· < ·)) hl List.Pairwise.nil (fun pre v post e hi=>?_) (fun hi=>.done (.ret fun _=>hi))
 refine Def.bindI _ (fun hc=>Def.prev e hl (by simp at hc;omega)) (fun u hu _=>?_)
 refine Def.bindI _ (fun hc=>Def.at e) (fun v' hv _=>?_)
 refine Def.ite (fun _=>.done (.ret (fun h=>by cases h))) (fun hc=>.turn ⟨rfl,?_⟩)
 rw [List.pairwise_append]
 refine ⟨hi,by simp,fun x hx y hy=>?_⟩
 simp only [List.mem_singleton] at hy;subst hy
 have h0:0<pre.length:=List.length_pos_of_mem hx
 simp [h0] at hc hu hv
 obtain ⟨hc1,hc2⟩:=hc
 have hu:=hu hc1.1 hc1.2
 have hv:=hv hc1.1 hc1.2
 obtain ⟨ys,rfl⟩:=List.getLast?_eq_some_iff.1 hu
 rw [List.pairwise_append] at hi
 rcases List.mem_append.1 hx with hx | hx
 ·have:=hi.2.2 x hx u (by simp);omega
 ·simp at hx;omega
theorem F98_def (l:List D1):Def (F98 l) fun _=>True:=by
 unfold F98
 refine Def.ite (fun _=>.ret trivial) (fun hn=>?_)
 simp only [letJ_eq,letV_eq,F156,Option.bind_some]
 have hl:l.length≤big:=by simp at hn;unfold big;omega
 refine Def.for1 (l:=l) (fun _=>True) hl trivial (fun pre v post e _=>?_) (fun _=>.done (.ret trivial))
 refine Def.bindI (fun _=>True) (fun hc=>(Def.prev e hl (by simp at hc;omega)).mono fun _ _=>trivial) (fun _ _ _=>?_)
 refine Def.bindI (fun _=>True) (fun hc=>(Def.prev e hl (by simp at hc;omega)).mono fun _ _=>trivial) (fun _ _ _=>?_)
 refine Def.bindI (fun _=>True) (fun _=>(Def.at e).mono fun _ _=>trivial) (fun _ _ _=>?_)
 exact Def.ite (fun _=>.done (.ret trivial)) (fun _=>.turn ⟨rfl,trivial⟩)
theorem F159_def (l:List D0) (c:Int) (hl:l.length≤big):Def (F159 l c) fun _=>True:=by
 unfold F159
 simp only [letJ_eq]
 refine Def.for1 (l:=l) (fun _=>True) hl trivial (fun pre v post e _=>?_) (fun _=>.done (.ret trivial))
 refine Def.ite (fun _=>Def.bind' (R:=fun _=>True) ((Def.at e).mono fun _ _=>trivial) (fun _ _=>.done (.ret trivial))) (fun _=>.turn ⟨rfl,trivial⟩)
theorem F219_def (a:Int):Def (F219 a) fun _=>True:=by
 unfold F219
 exact Def.ite (fun _=>.ret trivial) (fun _=>.ret trivial)
theorem F158_def (a b:Int):Def (F158 a b) fun _=>True:=by
 unfold F158
 exact Def.bind' (F219_def _) (fun _ _=>Def.bind' (F219_def _) (fun _ _=>.ret trivial))
theorem F100_def (a b:List D0) (ha:a.length≤big) (hb:b.length≤big):Def (F100 a b) fun _=>True:=by
 unfold F100
 simp only [letJ_eq]
 refine Def.for1 (l:=a) (fun _=>True) ha trivial (fun pre v post e _=>?_) (fun _=>.done ?_)
 ·refine Def.bind' (R:=fun _=>True) ((Def.at e).mono fun _ _=>trivial) (fun _ _=>Def.bind' (F159_def _ _ hb) (fun _ _=>Def.bind' (F158_def _ _) (fun _ _=>?_)))
  exact Def.ite (fun _=>.done (.ret trivial)) (fun _=>.turn ⟨rfl,trivial⟩)
 ·refine Def.for1 (l:=b) (fun _=>True) hb trivial (fun pre v post e _=>?_) (fun _=>.done (.ret trivial))
  refine Def.bind' (F159_def _ _ ha) (fun _ _=>Def.bind' (R:=fun _=>True) ((Def.at e).mono fun _ _=>trivial) (fun _ _=>Def.bind' (F158_def _ _) (fun _ _=>?_)))
  exact Def.ite (fun _=>.done (.ret trivial)) (fun _=>.turn ⟨rfl,trivial⟩)
theorem F99_def (l:List D0) (t:D4) (hl:l.length≤big) (h1:t.2.2.1.length≤big) (h3:∀ i,(t.2.2.2.2.2.2.2.2.2.2.1 i).length≤big):Def (F99 l t) fun _=>True:=by
 unfold F99
 simp only [letJ_eq,letV_eq]
 refine Def.times (n:=4) (by omega) (fun i h0 h4=>?_) ?_
 ·refine Def.bind (guard4 h0 h4 (Def.bind (Def.aidx h0 h4 fun k=>Def.bind' (F94_def _ (h3 k)) (fun _ _=>?_))))
  exact Def.ite (fun _=>.done (.ret trivial)) (fun _=>.turn rfl)
 ·refine Def.done (Def.ite (fun _=>.ret trivial) (fun _=>Def.bind' (F94_def _ h1) (fun _ _=>?_)))
  refine Def.bindI (fun _=>True) (fun _=>F100_def _ _ hl h1) (fun _ _ _=>?_)
  exact Def.bindI (fun _=>True) (fun _=>.ret trivial) (fun _ _ _=>.ret trivial)
structure Snd6 (o:D6):Prop where
 id:1≤o.1∧o.1≤2305843009213693952
 kind:1≤o.2.1∧o.2.1≤6
 lab:o.2.2.1.length≤16
 fit:FitL o.2.2.1
 quo:1≤quo o∧quo o≤4096
 own:o.2.1≠2→lnk o=[]
 dat:o.2.1≠1→dat o=[]
 seg:o.2.1=1→((Fn.dat o).length:Int)≤16 * (Fn.quo o - 1)
 lns:(Fn.lnk o).length≤64
 lnk:(Fn.lnk o).Pairwise (· < ·)
theorem F34_def (o:D6) (h:OkO o):Def (F34 o) fun b=>b=true→Snd6 o:=by
 unfold F34
 simp only [F93,Option.bind_some,letV_eq,letJ_eq]
 refine Def.bindI _ (fun _=>F94_def _ h.lab) (fun v2 q2 _=>?_)
 refine Def.bindI _ (fun _=>F95_def o h) (fun v4 q4 _=>?_)
 refine Def.ite (fun _=>.ret (fun h=>by cases h)) (fun hc=>?_)
 simp at hc
 obtain ⟨⟨⟨⟨⟨⟨hid,hk1⟩,hk2⟩,hv2⟩,hq1⟩,hq2⟩,hv4⟩:=hc
 obtain ⟨hlab,hfit⟩:=q2 (by simp [hid,hk1,hk2]) hv2
 obtain ⟨ho,hd⟩:=q4 (by simp [hid,hk1,hk2,hv2,hq1,hq2]) hv4
 have mk:(o.2.1=1→((Fn.dat o).length:Int)≤16 * (Fn.quo o - 1))→(o.2.1=2→(Fn.lnk o).length≤64∧(Fn.lnk o).Pairwise (· < ·))→Snd6 o:=fun h1 h2=>{
  id:=hid,kind:=⟨hk1,hk2⟩,lab:=hlab,fit:=hfit,quo:=⟨hq1,hq2⟩,own:=ho,dat:=hd,seg:=h1
  lns:=by
   by_cases e:o.2.1=2
   ·exact (h2 e).1
   ·rw [ho e];simp
  lnk:=by
   by_cases e:o.2.1=2
   ·exact (h2 e).2
   ·rw [ho e];exact List.Pairwise.nil }
 refine Def.bindI (fun _=>True) (fun _=>F96_def _ (by omega)) (fun v5 _ _=>?_)
 refine Def.ite (fun _=>.ret (fun h=>by cases h)) (fun _=>?_)
 refine Def.ite (fun e1=>.ret (fun hb=>?_)) (fun e1=>?_)
 ·have e1:o.2.1=1:=by simpa using e1
  refine mk (fun _=>?_) (fun e=>by omega)
  have hq:quo o≤4096:=hq2
  have hq' : 1≤quo o:=hq1
  rw [wrap_i64 (x:=o.2.2.2.1 - 1) (by simp only [quo] at hq'; omega) (by simp only [quo] at hq;omega),wrap_i64 (by simp only [quo] at hq'; omega) (by simp only [quo] at hq;omega)] at hb
  simpa using hb
 have e1 : ¬ o.2.1=1:=by simpa using e1
 refine Def.ite (fun e2=>?_) (fun e2=>?_)
 ·refine Def.bindI _ (fun _=>F97_def _ h.lnk) (fun v6 q6 _=>.ret (fun hb=>?_))
  refine mk (fun e=>absurd e e1) (fun _=>?_)
  by_cases hn:((o.2.2.2.2.2.1.length:Nat):Int)≤64
  ·refine ⟨by simp only [Fn.lnk];omega,q6 (by simpa using hn) ?_⟩
   rw [if_pos (by simpa using hn)] at hb;exact hb
  ·rw [if_neg (by simpa using hn)] at hb;cases hb
 have e2 : ¬ o.2.1=2:=by simpa using e2
 have done:∀ b:Bool,b=true→Snd6 o:=fun _ _=>mk (fun e=>absurd e e1) (fun e=>absurd e e2)
 refine Def.ite (fun _=>Def.bind' (F98_def _) (fun b _=>.ret (done _))) (fun _=>?_)
 refine Def.ite (fun _=>Def.bind' (F99_def _ _ h.lab h.clr h.lbs) (fun b _=>.ret (done _))) (fun _=>?_)
 refine Def.ite (fun _=>?_) (fun _=>.ret (done _))
 refine Def.bind' (F94_def _ h.gra) (fun b _=>Def.bindI (fun _=>True) (fun _=>(F94_def _ h.gcl).mono fun _ _=>trivial) (fun _ _ _=>?_))
 exact Def.bindI (fun _=>True) (fun _=>F100_def _ _ h.gra h.gcl) (fun _ _ _=>.ret (done _))
theorem F13_def (w:D7) (hn:(objs w).length≤big) (h:∀ o∈objs w,OkO o):Def (F13 w) fun b=>b=true→(objs w).Pairwise (fun a b=>a.1<b.1)∧∀ o∈objs w,Snd6 o:=by
 unfold F13
 refine Def.ite (fun _=>.ret (fun h=>by cases h)) (fun _=>?_)
 simp only [letJ_eq]
 refine Def.for1 (l:=objs w) (fun pre=>pre.Pairwise (fun a b=>a.1<b.1)∧∀ o∈pre,Snd6 o) hn ⟨List.Pairwise.nil,by simp⟩ (fun pre v post e hi=>?_) (fun hi=>.done (.ret fun _=>hi))
 obtain ⟨hi,hs⟩:=hi
 have hv:v∈objs w:=by rw [e];simp
 refine Def.bind' (F34_def v (h v hv)) (fun v3 q3=>?_)
 refine Def.bindI _ (fun hc=>Def.prev e hn (by simp at hc;omega)) (fun u hu _=>?_)
 refine Def.bindI _ (fun hc=>Def.at e) (fun v' hv' _=>?_)
 refine Def.ite (fun _=>.done (.ret (fun h=>by cases h))) (fun hc=>.turn ⟨rfl,?_,?_⟩)
 ·rw [List.pairwise_append]
  refine ⟨hi,by simp,fun x hx y hy=>?_⟩
  simp only [List.mem_singleton] at hy;subst hy
  have h0:0<pre.length:=List.length_pos_of_mem hx
  simp [h0] at hc hu hv'
  have hu:=hu hc.1
  have hv:=hv' hc.1
  have hc2:=hc.2
  rw [hv] at hc2
  obtain ⟨ys,rfl⟩:=List.getLast?_eq_some_iff.1 hu
  rw [List.pairwise_append] at hi
  rcases List.mem_append.1 hx with hx | hx
  ·have:=hi.2.2 x hx u (by simp);omega
  ·simp at hx;subst hx;omega
 ·intro o ho
  rcases List.mem_append.1 ho with ho | ho
  ·exact hs o ho
  ·simp at ho;subst ho
   refine q3 ?_
   simp at hc;exact hc.1
end Go.Fn
namespace Go.Fn
open Go Go.Ab Go.Tx
end Go.Fn
namespace Go.Fn
open Go Go.Ab Go.Tx
theorem shr_half {i j:Nat} (hn:i+j≤4611686018427387904):shrO .u64 (IntKind.wrap .u64 (IntKind.wrap .i64 ((i:Int)+j))) 1=some (((i+j) / 2:Nat):Int):=by
 rw [wrap_i64 (x:=(i:Int)+j) (by omega) (by omega)]
 have e:IntKind.wrap .u64 ((i:Int)+j)=(i:Int)+j:=wrap_in (by simp [inR];omega)
 rw [e,shrO,if_pos (by decide)]
 have e2:((i:Int)+j).fdiv (2 ^ (min (1:Int).toNat (IntKind.bits .u64)))=(((i+j) / 2:Nat):Int):=by
  rw [show min (1:Int).toNat (IntKind.bits .u64)=1 from by decide,Int.fdiv_eq_ediv_of_nonneg _ (by decide)]
  simp
 rw [e2]
section
variable {ρ:Type}
theorem Def.search {n m:Nat} (hm:m≤n) (hn:n≤1000000) {B E:Int×Int→Option ((Int×Int) ⊕ ρ)} {Q:ρ→Prop}
  (hb:∀ i j:Nat,i<j→j≤n→i≤m→m≤j→Def (B ((i:Int),(j:Int))) fun r=>match r with | .inl s=>(s=((((i+j) / 2:Nat):Int)+1,(j:Int))∧(i+j) / 2<m)∨(s=((i:Int),(((i+j) / 2:Nat):Int))∧m≤(i+j) / 2) | .inr r=>Q r)
  (he:Def (E ((m:Int),(m:Int))) fun r=>match r with | .inl _=>False | .inr r=>Q r) :
  Def (whileO (fun s=>if decide (s.1<s.2)=true then B s else E s) ((0:Int),(n:Int))) Q:=by
 refine Def.loop (fun s:Int×Int=>∃ i j:Nat,s=((i:Int),(j:Int))∧i≤m∧m≤j∧j≤n) (fun s=>(s.2 - s.1).toNat) ⟨0,n,rfl,by omega,hm,by omega⟩ (fun s hi=>?_)
 obtain ⟨i,j,rfl,h1,h2,h3⟩:=hi
 refine Def.ite (fun hc=>?_) (fun hc=>?_)
 ·have hlt:i<j:=by simpa using hc
  refine (hb i j hlt h3 h1 h2).mono fun r hr=>?_
  cases r with
  | inr r=>exact hr
  | inl s =>
   rcases hr with ⟨rfl,h⟩ | ⟨rfl,h⟩
   ·exact ⟨⟨(i+j) / 2+1,j,by simp,by omega,by omega,by omega⟩,by simp only;omega⟩
   ·exact ⟨⟨i,(i+j) / 2,rfl,by omega,by omega,by omega⟩,by simp only;omega⟩
 ·have hge : ¬ i<j:=by simpa using hc
  have e1:i=m:=by omega
  have e2:j=m:=by omega
  subst e1;subst e2
  refine he.mono fun r hr=>?_
  cases r with
  | inl s=>exact hr.elim
  | inr r=>exact hr
end
theorem F203_eq (a b:Int):F203 a b=some (if a<b then -1 else if b<a then 1 else 0):=by
 unfold F203 F204
 simp only [Option.bind_some,letJ_eq,bne_self_eq_false,Bool.false_eq_true,if_false]
 by_cases h1:a<b
 ·simp [h1]
 ·by_cases h2:b<a
  ·simp [h1,h2]
  ·simp [h1,h2]
abbrev keys (l:List D6):List Int:=l.map (·.1)
theorem keys_rise {l:List D6} (h:l.Pairwise (fun a b=>a.1<b.1)):(keys l).Pairwise (· < ·):=by
 rw [List.pairwise_map];exact h
theorem F69_eq (w:D7) (id:Int) (hl:(objs w).length≤1000000) (hp:(objs w).Pairwise (fun a b=>a.1<b.1)):F69 w id=some (findO (objs w) id):=by
 refine Def.eq ?_
 unfold F69 F132
 rw [Option.bind_some]
 have e0:((sett10_1_1 (sett10_0_1 (Ty.zero t10:D10) w.2.2.2.1) ()):D9).1=objs w:=rfl
 simp only [letJ_eq,e0]
 have hk:=keys_rise hp
 have hlen:(keys (objs w)).length=(objs w).length:=by simp [keys]
 have hge:∀ (k:Nat) (v:D6),(objs w)[k]? = some v→(keys (objs w))[k]? = some v.1:=fun k v h=>by simp [keys,h]
 refine Def.search (n:=(objs w).length) (m:=lowB (keys (objs w)) id) (by rw [← hlen];exact lowB_le _ _) hl (fun i j hij hj h1 h2=>?_) (.done ?_)
 ·simp only
  rw [shr_half (by omega)]
  have ew:IntKind.wrap .i64 (((i+j) / 2:Nat):Int)=(((i+j) / 2:Nat):Int):=wrap_i64 (by omega) (by omega)
  have ew2:IntKind.wrap .i64 ((((i+j) / 2:Nat):Int)+1)=(((i+j) / 2:Nat):Int)+1:=wrap_i64 (by omega) (by omega)
  rw [Option.bind_some]
  simp only [ew,ew2]
  refine Def.bind (Def.idx (by omega) (by show _<(((objs w).length:Nat):Int);omega) (fun v hv _=>?_))
  simp only [Int.toNat_natCast] at hv
  have hlow:=lowB_lt hk id _ v.1 (hge _ _ hv)
  rw [F145,Option.bind_some,F203_eq,Option.bind_some]
  refine Def.ite (fun hc=>.turn (.inl ⟨rfl,?_⟩)) (fun hc=>.turn (.inr ⟨rfl,?_⟩))
  ·refine hlow.1 ?_
   by_cases h:v.1<id
   ·exact h
   ·by_cases h' : id<v.1 <;> simp [h,h'] at hc
  ·have : ¬ v.1<id:=fun h=>by simp [h] at hc
   exact Nat.le_of_not_lt fun h=>this (hlow.2 h)
 ·by_cases hlt:lowB (keys (objs w)) id<(objs w).length
  ·have hg:=List.getElem?_eq_getElem hlt
   have hm:=lowB_mem hk (hge _ _ hg)
   have h1:idxO (objs w) (lowB (keys (objs w)) id:Int)=some (objs w)[lowB (keys (objs w)) id]:=by rw [idxO_nat,hg]
   have hd:decide (((lowB (keys (objs w)) id:Nat):Int)<(((objs w).length:Nat):Int))=true:=by simpa using hlt
   generalize ho:(objs w)[lowB (keys (objs w)) id]=o at h1 hm
   have hin:o∈objs w:=by rw [← ho];exact List.getElem_mem hlt
   simp only [hd,h1,Bool.and_true,if_true,Option.bind_some,F145,F203_eq]
   by_cases he:o.1=id
   ·subst he
    refine ⟨_,by simp only [Int.lt_irrefl,if_false];rfl,?_⟩
    exact (findO_mem hp o hin).symm
   ·have hno:∀ x∈objs w,x.1≠id:=fun x hx e=>he (hm.1 (List.mem_map.2 ⟨x,hx,e⟩))
    refine ⟨_,?_,rfl⟩
    rw [findO_none hno]
    have : ¬ ((if o.1<id then (-1:Int) else if id<o.1 then 1 else 0)==0)=true:=by
     by_cases h1:o.1<id
     ·simp [h1]
     ·by_cases h2:id<o.1
      ·simp [h1,h2]
      ·omega
    rw [if_pos (by simpa using this)]
  ·have hd:decide (((lowB (keys (objs w)) id:Nat):Int)<(((objs w).length:Nat):Int))=false:=by simpa using hlt
   have hno:∀ x∈objs w,x.1≠id:=fun x hx e=>lowB_end hk (by rw [hlen];omega) (List.mem_map.2 ⟨x,hx,e⟩)
   simp only [hd,Bool.false_and,Bool.false_eq_true,if_false,Option.bind_some]
   exact ⟨_,rfl,(findO_none hno).symm⟩
theorem F68_eq (o:D6) (h:(dat o).length≤1000000):F68 o=some (pages o):=by
 unfold F68
 have h' : (o.2.2.2.2.2.2.1).length≤1000000:=h
 have e2:(((o.2.2.2.2.2.2.1).length:Nat):Int).tdiv 16=((o.2.2.2.2.2.2.1).length:Int) / 16:=Int.tdiv_eq_ediv_of_nonneg (by omega)
 have e3:(((o.2.2.2.2.2.2.1).length:Nat):Int).tmod 16=((o.2.2.2.2.2.2.1).length:Int) % 16:=Int.tmod_eq_emod_of_nonneg (by omega)
 rw [quoO,if_pos (by decide),e2,Option.bind_some,remO,if_pos (by decide),e3,Option.bind_some]
 simp only [letJ_eq]
 rw [wrap_i64 (x:=((o.2.2.2.2.2.2.1).length:Int) / 16) (by omega) (by omega),wrap_i64 (x:=((o.2.2.2.2.2.2.1).length:Int) / 16+1) (by omega) (by omega)]
 unfold pages
 split
 ·rename_i hc
  have hc:((o.2.2.2.2.2.2.1).length:Int) % 16>0:=by simpa using hc
  rw [wrap_i64 (by omega) (by omega)]
  simp only [dat,Option.some.injEq];omega
 ·rename_i hc
  have hc : ¬ ((o.2.2.2.2.2.2.1).length:Int) % 16>0:=by simpa using hc
  simp only [dat,Option.some.injEq];omega
theorem F35_eq (w:D7) (o:D6) (hl:(objs w).length≤1000000) (hp:(objs w).Pairwise (fun a b=>a.1<b.1)) (hd:(dat o).length≤1000000) (hk:(lnk o).length≤1000):F35 w o=some (usesF (objs w) (pages o) (lnk o)):=by
 refine Def.eq ?_
 unfold F35
 rw [F68_eq o hd,Option.bind_some]
 simp only [letJ_eq]
 have e0:((sett11_0_4 (Ty.zero t11:D11) w):D11).1=w:=rfl
 refine Def.forB (l:=lnk o) (fun s:Int×Int=>s.1) (fun pre s=>s.2=usesF (objs w) (pages o) pre) (by omega) rfl rfl (fun pre v post s e hs hi=>?_) (fun s hs hi=>.done (.ret hi))
 rw [hs]
 refine Def.bind' (Def.at e) (fun u hu=>?_)
 subst hu
 refine Def.bind (Def.of (F69_eq w u hl hp) (.turn ⟨rfl,?_⟩))
 rw [hi]
 simp only [usesF,List.foldl_append,List.foldl_cons,List.foldl_nil]
end Go.Fn
namespace Go.Fn
open Go Go.Ab Go.Tx
theorem eqT_refl:∀ (t:Ty) (e:t.den→t.den→Bool),eqT t=some e→∀ x,e x x=true:=by
 intro t
 induction t with
 | int k=>intro e h x;cases h;simp
 | bool=>intro e h x;cases h;simp
 | unit=>intro e h x;cases h;rfl
 | prod a b iha ihb =>
  intro e h x
  simp only [eqT] at h
  cases ha:eqT a with
  | none=>rw [ha] at h;cases h
  | some f =>
   cases hb:eqT b with
   | none=>rw [ha,hb] at h;cases h
   | some g=>rw [ha,hb] at h;cases h;simp [iha f ha x.1,ihb g hb x.2]
 | st a ih =>
  intro e h x
  simp only [eqT] at h
  cases ha:eqT a with
  | none=>rw [ha] at h;cases h
  | some f=>rw [ha] at h;cases h;exact ih f ha x
 | arr n t ih =>
  intro e h x
  simp only [eqT] at h
  cases ha:eqT t with
  | none=>rw [ha] at h;cases h
  | some f=>rw [ha] at h;cases h;simp [ih f ha]
 | _=>intro e h;cases h
theorem eqK_refl {t:Ty} (h:(eqT t).isSome=true) (x:t.den):eqK t x x=true:=by
 unfold eqK
 cases he:eqT t with
 | none=>rw [he] at h;cases h
 | some e=>exact eqT_refl t e he x
end Go.Fn
namespace Go.Fn
open Go Go.Ab Go.Tx
theorem okO_of {o:D6} (h:wfT t6 o):OkO o:=by
 obtain ⟨_,_,h1,_,_,h2,h3,h4,h5,h6,h7,h8,_⟩:=h
 obtain ⟨_,_,c1,_,_,_,_,_,c2,_,c3,_⟩:=h5
 obtain ⟨g1,g2,_⟩:=h6
 exact ⟨h1.1,h2.1,h3.1,h4.1,c1.1,c2.1,fun i=>(c3 i).1,g1.1,g2.1,h7.1,h8.1⟩
theorem F12_def (w:D7):Def (F12 w) fun b=>b=true→(objs w).length≤24∧∀ o∈objs w,(lnk o).length≤70∧(dat o).length≤300:=by
 unfold F12
 refine Def.ite (fun h=>.ret (fun h=>by cases h)) (fun h=>?_)
 have hn:(objs w).length≤24:=by simp at h;exact_mod_cast h
 simp only [letJ_eq,letV_eq]
 refine Def.for1 (l:=objs w) (fun pre=>∀ o∈pre,(lnk o).length≤70∧(dat o).length≤300) (by omega) (by simp) (fun pre v post e hi=>?_) (fun hi=>.done (.ret fun _=>⟨hn,hi⟩))
 refine Def.ite (fun _=>.done (.ret (fun h=>by cases h))) (fun h2=>.turn ⟨rfl,?_⟩)
 intro x hx
 rcases List.mem_append.1 hx with hx | hx
 ·exact hi x hx
 ·simp only [List.mem_singleton] at hx;subst hx
  simp at h2
  show x.2.2.2.2.2.1.length≤70∧x.2.2.2.2.2.2.1.length≤300
  exact ⟨by omega,by omega⟩
def usedF (l:List D6):Int:=l.foldl (fun n o=>IntKind.wrap .i64 (n+pages o)) 0
theorem F15_eq (w:D7) (hl:(objs w).length≤1000) (hd:∀ o∈objs w,(dat o).length≤300):F15 w=some (usedF (objs w)):=by
 refine Def.eq ?_
 unfold F15
 simp only [letJ_eq]
 refine Def.for2 (l:=objs w) (fun pre a=>a=usedF pre) (by omega) rfl (fun pre v post a e hi=>?_) (fun a hi=>.done (.ret hi))
 refine Def.bind (Def.of (F68_eq v (by have:=hd v (by rw [e];simp);omega)) (.turn ⟨rfl,?_⟩))
 rw [hi];simp only [usedF,List.foldl_append,List.foldl_cons,List.foldl_nil]
theorem F16_eq (w:D7) (hl:(objs w).length≤1000) (hd:∀ o∈objs w,(dat o).length≤300):F16 w=some (usedF (objs w)):=by
 refine Def.eq ?_
 unfold F16
 simp only [letJ_eq]
 refine Def.for2 (l:=objs w) (fun pre a=>a=usedF pre) (by omega) rfl (fun pre v post a e hi=>?_) (fun a hi=>.done (.ret hi))
 refine Def.bind (Def.of (F44_eq v (by have:=hd v (by rw [e];simp);omega)) (.turn ⟨rfl,?_⟩))
 rw [hi];simp only [usedF,List.foldl_append,List.foldl_cons,List.foldl_nil]
def chargedF (w:D7) (l:List D6):List D0:=l.flatMap fun o=>if (o.2.1==(2:Int))=true then [sett0_1_1 (sett0_0_1 (Ty.zero t0:D0) o.1) (usesF (objs w) (pages o) (lnk o))] else []
theorem chargedF_len (w:D7) (l:List D6):(chargedF w l).length≤l.length:=by
 induction l with
 | nil=>simp [chargedF]
 | cons o l ih =>
  have e:chargedF w (o::l)=chargedF w [o]++chargedF w l:=by simp [chargedF]
  have h1:(chargedF w [o]).length≤1:=by
   simp only [chargedF,List.flatMap_cons,List.flatMap_nil,List.append_nil]
   split <;> simp
  rw [e,List.length_append,List.length_cons];omega
theorem chargedF_app (w:D7) (a b:List D6):chargedF w (a++b)=chargedF w a++chargedF w b:=by simp [chargedF]
theorem F18_eq (w:D7) (hl:(objs w).length≤1000) (hp:(objs w).Pairwise (fun a b=>a.1<b.1)) (hd:∀ o∈objs w,(lnk o).length≤70∧(dat o).length≤300):F18 w=some (chargedF w (objs w)):=by
 refine Def.eq ?_
 unfold F18
 simp only [letJ_eq]
 refine Def.for2 (l:=objs w) (fun pre a=>a=chargedF w pre) (by omega) rfl (fun pre v post a e hi=>?_) (fun a hi=>.done (.ret hi))
 subst hi
 have hv:=hd v (by rw [e];simp)
 have hlen:=chargedF_len w pre
 have hpl:pre.length≤(objs w).length:=by rw [e];simp
 refine Def.ite (fun h=>?_) (fun h=>.turn ⟨rfl,?_⟩)
 ·refine Def.bind (Def.of (F35_eq w v (by omega) hp (by omega) (by omega)) ?_)
  refine Def.bind (.ret ?_)
  refine Def.bind (Def.app (by simp only [List.length_cons,List.length_nil];omega) (.turn ⟨rfl,?_⟩))
  rw [chargedF_app]
  congr 1
  simp only [chargedF,List.flatMap_cons,List.flatMap_nil,List.append_nil,if_pos h]
 ·rw [chargedF_app]
  simp only [chargedF,List.flatMap_cons,List.flatMap_nil,List.append_nil,if_neg h]
theorem F19_eq (w:D7) (hl:(objs w).length≤1000) (hd:∀ o∈objs w,(lnk o).length≤70∧(dat o).length≤300):F19 w=some (chargedF w (objs w)):=by
 refine Def.eq ?_
 unfold F19
 simp only [letJ_eq]
 refine Def.for2 (l:=objs w) (fun pre a=>a=chargedF w pre) (by omega) rfl (fun pre v post a e hi=>?_) (fun a hi=>.done (.ret hi))
 subst hi
 have hv:=hd v (by rw [e];simp)
 have hlen:=chargedF_len w pre
 have hpl:pre.length≤(objs w).length:=by rw [e];simp
 refine Def.ite (fun h=>?_) (fun h=>.turn ⟨rfl,?_⟩)
 ·refine Def.bind' (Def.at e) (fun u hu=>Def.bind' (Def.at e) (fun u2 hu2=>?_))
  subst hu;subst hu2
  refine Def.bind (Def.of (F36_eq w _ hl (by omega) (by omega)) ?_)
  refine Def.bind (.ret ?_)
  refine Def.bind (Def.app (by simp only [List.length_cons,List.length_nil];omega) (.turn ⟨rfl,?_⟩))
  rw [chargedF_app]
  congr 1
  simp only [chargedF,List.flatMap_cons,List.flatMap_nil,List.append_nil,if_pos h]
 ·rw [chargedF_app]
  simp only [chargedF,List.flatMap_cons,List.flatMap_nil,List.append_nil,if_neg h]
theorem F17_refl (l:List D0) (hl:l.length≤1000):F17 l l=some true:=by
 refine Def.eq ?_
 unfold F17
 refine Def.ite (fun h=>absurd h (by simp)) (fun _=>?_)
 simp only [letJ_eq]
 refine Def.for1 (l:=l) (fun _=>True) (by omega) trivial (fun pre v post e _=>?_) (fun _=>.done (.ret rfl))
 refine Def.bind' (Def.at e) (fun u hu=>?_)
 subst hu
 rw [eqK_refl (t:=.prod (.int .u64) (.prod (.int .i64) .unit)) rfl]
 exact Def.ite (fun h=>absurd h (by simp)) (fun _=>.turn ⟨rfl,trivial⟩)
def links (l:List D6):Int:=(l.map fun o=>((lnk o).length:Int)).sum
theorem links_app (a b:List D6):links (a++b)=links a+links b:=by simp [links]
theorem links_le (l:List D6) (h:∀ o∈l,(lnk o).length≤70):0≤links l∧links l≤70 * l.length:=by
 induction l with
 | nil=>simp [links]
 | cons o l ih =>
  have:=ih fun x hx=>h x (List.mem_cons_of_mem _ hx)
  have h1:=h o List.mem_cons_self
  simp only [links,List.map_cons,List.sum_cons,List.length_cons] at this ⊢
  omega
theorem F20_eq (w:D7) (hl:(objs w).length≤1000) (hd:∀ o∈objs w,(lnk o).length≤70):F20 w=some (1000+20 * (objs w).length+64 * links (objs w)):=by
 refine Def.eq ?_
 unfold F20
 simp only [letJ_eq]
 refine Def.for2 (l:=objs w) (fun pre a=>a=1000+20 * (pre.length:Int)+64 * links pre) (by omega) rfl (fun pre v post a e hi=>.turn ⟨rfl,?_⟩) (fun a hi=>.done (.ret hi))
 have hv:=hd v (by rw [e];simp)
 have hp:=links_le pre fun o ho=>hd o (by rw [e];simp [ho])
 have hpl:pre.length≤(objs w).length:=by rw [e];simp
 have e1:links [v]=((lnk v).length:Int):=by simp [links]
 show IntKind.wrap .i64 (a+IntKind.wrap .i64 (20+IntKind.wrap .i64 (64 * ((lnk v).length:Int))))=_
 rw [hi,links_app,e1,wrap_i64 (x:=64 * ((lnk v).length:Int)) (by omega) (by omega),wrap_i64 (x:=20+64 * ((lnk v).length:Int)) (by omega) (by omega),wrap_i64 (by omega) (by omega),List.length_append]
 simp only [List.length_cons,List.length_nil]
 omega
theorem F21_eq (w:D7) (hl:(objs w).length≤1000) (hd:∀ o∈objs w,(lnk o).length≤70):F21 w=some (1000+20 * (objs w).length+64 * links (objs w)):=by
 refine Def.eq ?_
 unfold F21
 simp only [letJ_eq]
 have e0:IntKind.wrap .i64 (1000+IntKind.wrap .i64 (20 * ((objs w).length:Int)))=1000+20 * (objs w).length:=by
  rw [wrap_i64 (x:=20 * ((objs w).length:Int)) (by omega) (by omega),wrap_i64 (by omega) (by omega)]
 have e0' : IntKind.wrap .i64 ((1000:Int)+IntKind.wrap .i64 ((20:Int) * ((List.length w.2.2.2.1:Nat):Int)))=1000+20 * (objs w).length:=e0
 rw [e0']
 refine Def.for2 (l:=objs w) (fun pre a=>a=1000+20 * ((objs w).length:Int)+64 * links pre) (by omega) (by simp [links]) (fun pre v post a e hi=>.turn ⟨rfl,?_⟩) (fun a hi=>.done (.ret hi))
 have hv:=hd v (by rw [e];simp)
 have hp:=links_le pre fun o ho=>hd o (by rw [e];simp [ho])
 have hpl:pre.length≤(objs w).length:=by rw [e];simp
 have e1:links [v]=((lnk v).length:Int):=by simp [links]
 show IntKind.wrap .i64 (a+IntKind.wrap .i64 (64 * ((lnk v).length:Int)))=_
 rw [hi,links_app,e1,wrap_i64 (x:=64 * ((lnk v).length:Int)) (by omega) (by omega),wrap_i64 (by omega) (by omega)]
 omega
theorem run14:callL 100 L14.tr 14 (toVs [] ()) .bool=some true:=by kernel_rfl
theorem awake28:F14=some true:=eval_fun (n:=100) (g:=14) («as»:=[]) (rty:=.bool) (l:=L14.tr) (F:=L15.cf) (f:=fun _=>F14) L14.le () run14
theorem F3_true (w:D7) (h:wfT t7 w):F3 w=some true:=by
 obtain ⟨_,_,_,hw,_⟩:=h
 have hok:∀ o∈objs w,OkO o:=fun o ho=>okO_of (hw.2 o ho)
 refine Def.eq ?_
 unfold F3
 rw [awake28]
 refine Def.bind' (F12_def w) (fun v1 q1=>?_)
 refine Def.bindI _ (fun _=>F13_def w hw.1 hok) (fun v2 q2 n2=>?_)
 refine Def.ite (fun _=>Def.bind (.ret (.ret rfl))) (fun hc=>?_)
 cases v1 with
 | false=>exact absurd (by simp) hc
 | true =>
 cases v2 with
 | false=>exact absurd (by simp) hc
 | true =>
 obtain ⟨hn,hf⟩:=q1 rfl
 obtain ⟨hp,_⟩:=q2 (by simp) rfl
 rw [F15_eq w (by omega) fun o ho=>(hf o ho).2,F16_eq w (by omega) fun o ho=>(hf o ho).2,F18_eq w (by omega) hp hf,F19_eq w (by omega) hf,F20_eq w (by omega) fun o ho=>(hf o ho).1,F21_eq w (by omega) fun o ho=>(hf o ho).1]
 have hlen:=chargedF_len w (objs w)
 simp only [Option.bind_some,beq_self_eq_true,Bool.and_true,if_true,F17_refl _ (show (chargedF w (objs w)).length≤1000 by omega)]
 exact .ret rfl
end Go.Fn
namespace Go.Fn
set_option maxRecDepth 100000
open Go Go.Ab Go.Tx
theorem law3 {st:TupD [t7]} (h:EnvWf (toVs [t7] st)→F3 st=some true):PureOK Go.Proofs.Tryz.prog 3 ((toVs [t7] st).map Val.d) [.b true] :=
 law_of L21 pm 3 [t7] .bool (fun st=>F3 st) [] [] spOK_nil (fun st=>by kernel_rfl) (by kernel_rfl) h
end Go.Fn
