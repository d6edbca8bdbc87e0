import Derived.Test.YtleeccmcgophfaaGreatPK
import Derived.Test.YtleeccmcgophfaaGreatProg
import Derived.Test.YtleeccmcgophfaaGreatPL
set_option linter.all false
namespace Go.Fn
set_option maxRecDepth 100000
set_option linter.unusedVariables false
open Go Go.Ab Go.Tx
theorem pm : Go.Proofs.Tryz.prog.follows .mixedOrders = true := by kernel_rfl
abbrev t0 : Ty := .st (.prod (.int .u64) (.prod (.int .i64) .unit))
abbrev D0 : Type := (Int × (Int × Unit))
abbrev t1 : Ty := .st (.prod (.int .i64) (.prod (.int .i64) (.prod (.int .u64) (.prod (.int .u64) (.prod (.int .i64) (.prod .bool .unit))))))
abbrev D1 : Type := (Int × (Int × (Int × (Int × (Int × (Bool × Unit))))))
abbrev t2 : Ty := .st (.prod (.int .u64) (.prod (.int .u64) .unit))
abbrev D2 : Type := (Int × (Int × Unit))
abbrev t3 : Ty := .st (.prod t2 (.prod (.int .u64) (.prod (.int .u64) (.prod .bool .unit))))
abbrev D3 : Type := (D2 × (Int × (Int × (Bool × Unit))))
abbrev t4 : Ty := .st (.prod (.arr 16 (.int .u64)) (.prod (.int .u64) (.prod (.sl t0) (.prod t2 (.prod (.int .u64) (.prod (.int .u64) (.prod (.int .i64) (.prod t3 (.prod (.sl (.int .u64)) (.prod t2 (.prod (.arr 4 (.sl t0)) .unit)))))))))))
abbrev D4 : Type := ((Fin 16 → Int) × (Int × ((List D0) × (D2 × (Int × (Int × (Int × (D3 × ((List Int) × (D2 × ((Fin 4 → (List D0)) × Unit)))))))))))
abbrev t5 : Ty := .st (.prod (.sl t0) (.prod (.sl t0) (.prod t2 (.prod (.int .u64) (.prod (.int .u64) .unit)))))
abbrev D5 : Type := ((List D0) × ((List D0) × (D2 × (Int × (Int × Unit)))))
abbrev t6 : Ty := .st (.prod (.int .u64) (.prod (.int .i64) (.prod (.sl t0) (.prod (.int .i64) (.prod .bool (.prod (.sl (.int .u64)) (.prod (.sl (.int .u64)) (.prod (.sl t1) (.prod t4 (.prod t5 (.prod (.sl (.int .u64)) (.prod (.sl (.int .u64)) .unit))))))))))))
abbrev D6 : Type := (Int × (Int × ((List D0) × (Int × (Bool × ((List Int) × ((List Int) × ((List D1) × (D4 × (D5 × ((List Int) × ((List Int) × Unit))))))))))))
abbrev t7 : Ty := .st (.prod (.int .i64) (.prod (.int .u64) (.prod (.int .u64) (.prod (.sl t6) .unit))))
abbrev D7 : Type := (Int × (Int × (Int × ((List D6) × Unit))))
noncomputable def F30 (a0 : D7) : Option Bool :=
 if (decide (((List.length a0.2.2.2.1 : Nat) : Int) > (16 : Int))) = true then
  some false
 else
  letJ (σ := Unit) (ρ := Bool) (fun s1 =>
   some true) fun j1_1 =>
   letJ (σ := D6) (ρ := Bool) (fun s1 =>
    some false) fun j1_2 =>
    whileO (σ := Int) (ρ := Bool) (fun s1 =>
     if (decide (s1 < ((List.length a0.2.2.2.1 : Nat) : Int))) = true then
     Option.bind (idxO a0.2.2.2.1 s1) fun v2 =>
     letV ((if (if (if (decide (((List.length v2.2.2.1 : Nat) : Int) > (20 : Int))) = true then true else (decide (((List.length v2.2.2.2.2.2.1 : Nat) : Int) > (70 : Int)))) = true then true else (decide (((List.length v2.2.2.2.2.2.2.1 : Nat) : Int) > (300 : Int)))) = true then true else (decide (((List.length v2.2.2.2.2.2.2.2.1 : Nat) : Int) > (20 : Int))))) fun v3 =>
     if v3 = true then
      done (j1_2 v2)
     else
      turn (IntKind.wrap .i64 (s1 + (1 : Int)))
     else
     done (j1_1 ())) (0 : Int)
noncomputable def L30 : Lib Go.Proofs.Tryz.prog := (L0 _).add pm 30 [t7] .bool (fun st => F30 st) [] [(1, [12], [], [], [], [])] [] spOK_nil (fun st => by kernel_rfl)
noncomputable def F43 (a0 : D7) (a1 : Int) : Option (D6 × Bool) :=
 letJ (σ := Unit) (ρ := (D6 × Bool)) (fun s2 =>
  some (((Ty.zero t6 : D6), false))) fun j2_1 =>
  letJ (σ := D6) (ρ := (D6 × Bool)) (fun s2 =>
   some ((s2, true))) fun j2_2 =>
   whileO (σ := Int) (ρ := (D6 × Bool)) (fun s2 =>
    if (decide (s2 < ((List.length a0.2.2.2.1 : Nat) : Int))) = true then
     Option.bind (idxO a0.2.2.2.1 s2) fun v3 =>
     if (v3.1 == a1) = true then
     Option.bind (idxO a0.2.2.2.1 s2) fun v4 =>
     done (j2_2 v4)
     else
     turn (IntKind.wrap .i64 (s2 + (1 : Int)))
    else
     done (j2_1 ())) (0 : Int)
noncomputable def L43 : Lib Go.Proofs.Tryz.prog := L30.add pm 43 [t7, (.int .u64)] (.prod t6 .bool) (fun st => F43 st.1 st.2) [] [(1, [6], [], [], [], [])] [] spOK_nil (fun st => by kernel_rfl)
noncomputable def F93 (a0 : Int) : Option Bool :=
 some ((if (decide (a0 ≥ (1 : Int))) = true then (decide (a0 ≤ (2305843009213693952 : Int))) else false))
noncomputable def L93 : Lib Go.Proofs.Tryz.prog := L43.add pm 93 [(.int .u64)] .bool (fun st => F93 st) [] [] [] spOK_nil (fun st => by kernel_rfl)
noncomputable def F218 (a0 : Int) : Option Bool :=
 some ((if (decide (a0 ≥ (0 : Int))) = true then (decide (a0 ≤ (5 : Int))) else false))
noncomputable def L218 : Lib Go.Proofs.Tryz.prog := L93.add pm 218 [(.int .i64)] .bool (fun st => F218 st) [] [] [] spOK_nil (fun st => by kernel_rfl)
noncomputable def F155 (a0 : (List D0)) : Option Bool :=
 letJ (σ := Unit) (ρ := Bool) (fun s1 =>
  some true) fun j1_1 =>
  letJ (σ := Unit) (ρ := Bool) (fun s1 =>
   some false) fun j1_2 =>
   whileO (σ := Int) (ρ := Bool) (fun s1 =>
    if (decide (s1 < ((List.length a0 : Nat) : Int))) = true then
     Option.bind (idxO a0 s1) fun v2 =>
     Option.bind (F218 v2.2.1) fun v3 =>
     Option.bind (if ((!(!v3)) && true) = true then (idxO a0 s1) else some (Ty.zero t0 : D0)) fun v4 =>
     Option.bind (if ((!(if (!v3) = true then true else (v4.2.1 == (2 : Int)))) && ((decide (s1 > (0 : Int))) && true)) = true then (idxO a0 (IntKind.wrap .i64 (s1 - (1 : Int)))) else some (Ty.zero t0 : D0)) fun v5 =>
     Option.bind (if ((!(if (!v3) = true then true else (v4.2.1 == (2 : Int)))) && ((decide (s1 > (0 : Int))) && true)) = true then (idxO a0 s1) else some (Ty.zero t0 : D0)) fun v6 =>
     if (if (if (!v3) = true then true else (v4.2.1 == (2 : Int))) = true then true else (if (decide (s1 > (0 : Int))) = true then (decide (v5.1 ≥ v6.1)) else false)) = true then
     done (j1_2 ())
     else
     turn (IntKind.wrap .i64 (s1 + (1 : Int)))
    else
     done (j1_1 ())) (0 : Int)
noncomputable def L155 : Lib Go.Proofs.Tryz.prog := L218.add pm 155 [(.sl t0)] .bool (fun st => F155 st) [(155, 4, [.calm [0, 1, 2, 3, 4, 5, 6, 7, 8, 9, 10, 11, 12, 13, 14, 15, 16, 17, 18, 19, 20, 21, 22, 23, 24, 25, 26, 27, 28, 29, 30, 31, 32]])] [(1, [3], [], [], [], [])] [] spOK_nil (fun st => by kernel_rfl)
noncomputable def F94 (a0 : (List D0)) : Option Bool :=
 letJ (σ := Unit) (ρ := Bool) (fun s1 =>
  Option.bind (if ((decide (((List.length a0 : Nat) : Int) ≤ (16 : Int))) && true) = true then (F155 a0) else some false) fun v1 =>
  some ((if (decide (((List.length a0 : Nat) : Int) ≤ (16 : Int))) = true then v1 else false))) fun j1_1 =>
  letJ (σ := Unit) (ρ := Bool) (fun s1 =>
   some false) fun j1_2 =>
   whileO (σ := Int) (ρ := Bool) (fun s1 =>
    if (decide (s1 < ((List.length a0 : Nat) : Int))) = true then
     Option.bind (idxO a0 s1) fun v2 =>
     if (v2.2.1 == (5 : Int)) = true then
     done (j1_2 ())
     else
     turn (IntKind.wrap .i64 (s1 + (1 : Int)))
    else
     done (j1_1 ())) (0 : Int)
noncomputable def L94 : Lib Go.Proofs.Tryz.prog := L155.add pm 94 [(.sl t0)] .bool (fun st => F94 st) [] [(1, [3], [], [], [], [])] [] spOK_nil (fun st => by kernel_rfl)
noncomputable def F128 (a0 : (List D0)) (a1 : (List D0)) : Option Bool :=
 if (((List.length a0 : Nat) : Int) != ((List.length a1 : Nat) : Int)) = true then
  some false
 else
  letJ (σ := Unit) (ρ := Bool) (fun s2 =>
   some true) fun j2_1 =>
   letJ (σ := Unit) (ρ := Bool) (fun s2 =>
    some false) fun j2_2 =>
    whileO (σ := Int) (ρ := Bool) (fun s2 =>
     if (decide (s2 < ((List.length a0 : Nat) : Int))) = true then
     Option.bind (idxO a0 s2) fun v3 =>
     Option.bind (idxO a1 s2) fun v4 =>
     if (!(eqK (.prod (.int .u64) (.prod (.int .i64) .unit)) v3 v4)) = true then
      done (j2_2 ())
     else
      turn (IntKind.wrap .i64 (s2 + (1 : Int)))
     else
     done (j2_1 ())) (0 : Int)
noncomputable def L128 : Lib Go.Proofs.Tryz.prog := L94.add pm 128 [(.sl t0), (.sl t0)] .bool (fun st => F128 st.1 st.2) [(128, 6, [.calm [0, 1, 2, 3, 4, 5, 6, 7, 8]])] [(1, [5], [], [], [], [])] [] spOK_nil (fun st => by kernel_rfl)
noncomputable def F139 (a0 : (List Int)) (a1 : (List Int)) : Option Bool :=
 if (((List.length a0 : Nat) : Int) != ((List.length a1 : Nat) : Int)) = true then
  some false
 else
  letJ (σ := Unit) (ρ := Bool) (fun s2 =>
   some true) fun j2_1 =>
   letJ (σ := Unit) (ρ := Bool) (fun s2 =>
    some false) fun j2_2 =>
    whileO (σ := Int) (ρ := Bool) (fun s2 =>
     if (decide (s2 < ((List.length a0 : Nat) : Int))) = true then
     Option.bind (idxO a0 s2) fun v3 =>
     Option.bind (idxO a1 s2) fun v4 =>
     if (v3 != v4) = true then
      done (j2_2 ())
     else
      turn (IntKind.wrap .i64 (s2 + (1 : Int)))
     else
     done (j2_1 ())) (0 : Int)
noncomputable def L139 : Lib Go.Proofs.Tryz.prog := L128.add pm 139 [(.sl (.int .u64)), (.sl (.int .u64))] .bool (fun st => F139 st.1 st.2) [(139, 6, [.calm [0, 1, 2, 3, 4, 5, 6, 7, 8]])] [(1, [5], [], [], [], [])] [] spOK_nil (fun st => by kernel_rfl)
noncomputable def F140 (a0 : (List D1)) (a1 : (List D1)) : Option Bool :=
 if (((List.length a0 : Nat) : Int) != ((List.length a1 : Nat) : Int)) = true then
  some false
 else
  letJ (σ := Unit) (ρ := Bool) (fun s2 =>
   some true) fun j2_1 =>
   letJ (σ := Unit) (ρ := Bool) (fun s2 =>
    some false) fun j2_2 =>
    whileO (σ := Int) (ρ := Bool) (fun s2 =>
     if (decide (s2 < ((List.length a0 : Nat) : Int))) = true then
     Option.bind (idxO a0 s2) fun v3 =>
     Option.bind (idxO a1 s2) fun v4 =>
     if (!(eqK (.prod (.int .i64) (.prod (.int .i64) (.prod (.int .u64) (.prod (.int .u64) (.prod (.int .i64) (.prod .bool .unit)))))) v3 v4)) = true then
      done (j2_2 ())
     else
      turn (IntKind.wrap .i64 (s2 + (1 : Int)))
     else
     done (j2_1 ())) (0 : Int)
noncomputable def L140 : Lib Go.Proofs.Tryz.prog := L139.add pm 140 [(.sl t1), (.sl t1)] .bool (fun st => F140 st.1 st.2) [(140, 6, [.calm [0, 1, 2, 3, 4, 5, 6, 7, 8]])] [(1, [5], [], [], [], [])] [] spOK_nil (fun st => by kernel_rfl)
noncomputable def F141 (a0 : D4) (a1 : D4) : Option Bool :=
 letJ (σ := Unit) (ρ := Bool) (fun s2 =>
  Option.bind (if ((if (eqK (.arr 16 (.int .u64)) a0.1 a1.1) = true then (a0.2.1 == a1.2.1) else false) && true) = true then (F128 a0.2.2.1 a1.2.2.1) else some false) fun v2 =>
  letV ((if (if (if (if (eqK (.arr 16 (.int .u64)) a0.1 a1.1) = true then (a0.2.1 == a1.2.1) else false) = true then v2 else false) = true then (eqK (.prod (.int .u64) (.prod (.int .u64) .unit)) a0.2.2.2.1 a1.2.2.2.1) else false) = true then (a0.2.2.2.2.1 == a1.2.2.2.2.1) else false)) fun v3 =>
  Option.bind (if ((if (if (if v3 = true then (a0.2.2.2.2.2.1 == a1.2.2.2.2.2.1) else false) = true then (a0.2.2.2.2.2.2.1 == a1.2.2.2.2.2.2.1) else false) = true then (eqK (.prod t2 (.prod (.int .u64) (.prod (.int .u64) (.prod .bool .unit)))) a0.2.2.2.2.2.2.2.1 a1.2.2.2.2.2.2.2.1) else false) && true) = true then (F139 a0.2.2.2.2.2.2.2.2.1 a1.2.2.2.2.2.2.2.2.1) else some false) fun v4 =>
  letV ((if (if (if (if v3 = true then (a0.2.2.2.2.2.1 == a1.2.2.2.2.2.1) else false) = true then (a0.2.2.2.2.2.2.1 == a1.2.2.2.2.2.2.1) else false) = true then (eqK (.prod t2 (.prod (.int .u64) (.prod (.int .u64) (.prod .bool .unit)))) a0.2.2.2.2.2.2.2.1 a1.2.2.2.2.2.2.2.1) else false) = true then v4 else false)) fun v5 =>
  some ((if v5 = true then (eqK (.prod (.int .u64) (.prod (.int .u64) .unit)) a0.2.2.2.2.2.2.2.2.2.1 a1.2.2.2.2.2.2.2.2.2.1) else false))) fun j2_1 =>
  letJ (σ := Unit) (ρ := Bool) (fun s2 =>
   some false) fun j2_2 =>
   whileO (σ := Int) (ρ := Bool) (fun s2 =>
    if (decide (s2 < (4 : Int))) = true then
     Option.bind (guardO (if (decide ((0 : Int) ≤ s2)) = true then (decide (s2 < (4 : Int))) else false)) fun v3 =>
     Option.bind (aidxO a0.2.2.2.2.2.2.2.2.2.2.1 s2) fun v4 =>
     Option.bind (guardO (if (decide ((0 : Int) ≤ s2)) = true then (decide (s2 < (4 : Int))) else false)) fun v5 =>
     Option.bind (aidxO a1.2.2.2.2.2.2.2.2.2.2.1 s2) fun v6 =>
     Option.bind (F128 v4 v6) fun v7 =>
     if (!v7) = true then
     done (j2_2 ())
     else
     turn (IntKind.wrap .i64 (s2 + (1 : Int)))
    else
     done (j2_1 ())) (0 : Int)
noncomputable def L141 : Lib Go.Proofs.Tryz.prog := L140.add pm 141 [t4, t4] .bool (fun st => F141 st.1 st.2) [(141, 4, [.calm [0, 1, 2, 3, 4, 5, 6, 7, 8, 9]])] [(1, [5], [], [], [], [])] [] spOK_nil (fun st => by kernel_rfl)
noncomputable def F142 (a0 : D5) (a1 : D5) : Option Bool :=
 Option.bind (F128 a0.1 a1.1) fun v2 =>
 Option.bind (if (v2 && true) = true then (F128 a0.2.1 a1.2.1) else some false) fun v3 =>
 letV ((if (if (if (if v2 = true then v3 else false) = true then (eqK (.prod (.int .u64) (.prod (.int .u64) .unit)) a0.2.2.1 a1.2.2.1) else false) = true then (a0.2.2.2.1 == a1.2.2.2.1) else false) = true then (a0.2.2.2.2.1 == a1.2.2.2.2.1) else false)) fun v4 =>
 some v4
noncomputable def L142 : Lib Go.Proofs.Tryz.prog := L141.add pm 142 [t5, t5] .bool (fun st => F142 st.1 st.2) [] [] [] spOK_nil (fun st => by kernel_rfl)
noncomputable def F83 (a0 : D6) (a1 : D6) : Option Bool :=
 Option.bind (if ((!(if (a0.1 != a1.1) = true then true else (a0.2.1 != a1.2.1))) && true) = true then (F128 a0.2.2.1 a1.2.2.1) else some false) fun v2 =>
 letV ((if (if (if (if (a0.1 != a1.1) = true then true else (a0.2.1 != a1.2.1)) = true then true else (!v2)) = true then true else (a0.2.2.2.1 != a1.2.2.2.1)) = true then true else (!(a0.2.2.2.2.1 == a1.2.2.2.2.1)))) fun v3 =>
 if v3 = true then
  some false
 else
  Option.bind (F139 a0.2.2.2.2.2.1 a1.2.2.2.2.2.1) fun v4 =>
  Option.bind (if (v4 && true) = true then (F139 a0.2.2.2.2.2.2.1 a1.2.2.2.2.2.2.1) else some false) fun v5 =>
  Option.bind (if ((if v4 = true then v5 else false) && true) = true then (F140 a0.2.2.2.2.2.2.2.1 a1.2.2.2.2.2.2.2.1) else some false) fun v6 =>
  Option.bind (if ((if (if v4 = true then v5 else false) = true then v6 else false) && true) = true then (F141 a0.2.2.2.2.2.2.2.2.1 a1.2.2.2.2.2.2.2.2.1) else some false) fun v7 =>
  Option.bind (if ((if (if (if v4 = true then v5 else false) = true then v6 else false) = true then v7 else false) && true) = true then (F142 a0.2.2.2.2.2.2.2.2.2.1 a1.2.2.2.2.2.2.2.2.2.1) else some false) fun v8 =>
  Option.bind (if ((if (if (if (if v4 = true then v5 else false) = true then v6 else false) = true then v7 else false) = true then v8 else false) && true) = true then (F139 a0.2.2.2.2.2.2.2.2.2.2.1 a1.2.2.2.2.2.2.2.2.2.2.1) else some false) fun v9 =>
  Option.bind (if ((if (if (if (if (if v4 = true then v5 else false) = true then v6 else false) = true then v7 else false) = true then v8 else false) = true then v9 else false) && true) = true then (F139 a0.2.2.2.2.2.2.2.2.2.2.2.1 a1.2.2.2.2.2.2.2.2.2.2.2.1) else some false) fun v10 =>
  some ((if (if (if (if (if (if v4 = true then v5 else false) = true then v6 else false) = true then v7 else false) = true then v8 else false) = true then v9 else false) = true then v10 else false))
noncomputable def L83 : Lib Go.Proofs.Tryz.prog := L142.add pm 83 [t6, t6] .bool (fun st => F83 st.1 st.2) [] [] [] spOK_nil (fun st => by kernel_rfl)
abbrev sett6_0_1 (x : D6) (y : Int) : D6 := (y, x.2)
abbrev sett6_1_1 (x : D6) (y : Int) : D6 := (x.1, (y, x.2.2))
abbrev sett6_2_1 (x : D6) (y : (List D0)) : D6 := (x.1, (x.2.1, (y, x.2.2.2)))
abbrev sett6_3_1 (x : D6) (y : Int) : D6 := (x.1, (x.2.1, (x.2.2.1, (y, x.2.2.2.2))))
abbrev sett6_4_1 (x : D6) (y : Bool) : D6 := (x.1, (x.2.1, (x.2.2.1, (x.2.2.2.1, (y, x.2.2.2.2.2)))))
abbrev sett6_6_1 (x : D6) (y : (List Int)) : D6 := (x.1, (x.2.1, (x.2.2.1, (x.2.2.2.1, (x.2.2.2.2.1, (x.2.2.2.2.2.1, (y, x.2.2.2.2.2.2.2)))))))
abbrev sett6_5_1 (x : D6) (y : (List Int)) : D6 := (x.1, (x.2.1, (x.2.2.1, (x.2.2.2.1, (x.2.2.2.2.1, (y, x.2.2.2.2.2.2))))))
abbrev sett6_7_1 (x : D6) (y : (List D1)) : D6 := (x.1, (x.2.1, (x.2.2.1, (x.2.2.2.1, (x.2.2.2.2.1, (x.2.2.2.2.2.1, (x.2.2.2.2.2.2.1, (y, x.2.2.2.2.2.2.2.2))))))))
abbrev sett6_8_35 (x : D6) (y : D4) : D6 := (x.1, (x.2.1, (x.2.2.1, (x.2.2.2.1, (x.2.2.2.2.1, (x.2.2.2.2.2.1, (x.2.2.2.2.2.2.1, (x.2.2.2.2.2.2.2.1, (y, x.2.2.2.2.2.2.2.2.2)))))))))
abbrev sett6_43_6 (x : D6) (y : D5) : D6 := (x.1, (x.2.1, (x.2.2.1, (x.2.2.2.1, (x.2.2.2.2.1, (x.2.2.2.2.2.1, (x.2.2.2.2.2.2.1, (x.2.2.2.2.2.2.2.1, (x.2.2.2.2.2.2.2.2.1, (y, x.2.2.2.2.2.2.2.2.2.2))))))))))
abbrev sett6_49_1 (x : D6) (y : (List Int)) : D6 := (x.1, (x.2.1, (x.2.2.1, (x.2.2.2.1, (x.2.2.2.2.1, (x.2.2.2.2.2.1, (x.2.2.2.2.2.2.1, (x.2.2.2.2.2.2.2.1, (x.2.2.2.2.2.2.2.2.1, (x.2.2.2.2.2.2.2.2.2.1, (y, x.2.2.2.2.2.2.2.2.2.2.2)))))))))))
abbrev sett6_50_1 (x : D6) (y : (List Int)) : D6 := (x.1, (x.2.1, (x.2.2.1, (x.2.2.2.1, (x.2.2.2.2.1, (x.2.2.2.2.2.1, (x.2.2.2.2.2.2.1, (x.2.2.2.2.2.2.2.1, (x.2.2.2.2.2.2.2.2.1, (x.2.2.2.2.2.2.2.2.2.1, (x.2.2.2.2.2.2.2.2.2.2.1, (y, x.2.2.2.2.2.2.2.2.2.2.2.2))))))))))))
noncomputable def F95 (a0 : D6) : Option Bool :=
 letJ (σ := D6) (ρ := Bool) (fun s1 =>
  Option.bind (F83 s1 a0) fun v2 =>
  some v2) fun j1_1 =>
  if (a0.2.1 == (1 : Int)) = true then
   j1_1 (sett6_6_1 (sett6_4_1 (sett6_3_1 (sett6_2_1 (sett6_1_1 (sett6_0_1 (Ty.zero t6 : D6) a0.1) a0.2.1) a0.2.2.1) a0.2.2.2.1) a0.2.2.2.2.1) a0.2.2.2.2.2.2.1)
  else
   letJ (σ := D6) (ρ := Bool) (fun s1 =>
    j1_1 s1) fun j1_2 =>
    if (a0.2.1 == (2 : Int)) = true then
    j1_2 (sett6_5_1 (sett6_4_1 (sett6_3_1 (sett6_2_1 (sett6_1_1 (sett6_0_1 (Ty.zero t6 : D6) a0.1) a0.2.1) a0.2.2.1) a0.2.2.2.1) a0.2.2.2.2.1) a0.2.2.2.2.2.1)
    else
    letJ (σ := D6) (ρ := Bool) (fun s1 =>
     j1_2 s1) fun j1_3 =>
     if (a0.2.1 == (3 : Int)) = true then
      j1_3 (sett6_7_1 (sett6_4_1 (sett6_3_1 (sett6_2_1 (sett6_1_1 (sett6_0_1 (Ty.zero t6 : D6) a0.1) a0.2.1) a0.2.2.1) a0.2.2.2.1) a0.2.2.2.2.1) a0.2.2.2.2.2.2.2.1)
     else
      letJ (σ := D6) (ρ := Bool) (fun s1 =>
       j1_3 s1) fun j1_4 =>
       if (a0.2.1 == (4 : Int)) = true then
       j1_4 (sett6_8_35 (sett6_4_1 (sett6_3_1 (sett6_2_1 (sett6_1_1 (sett6_0_1 (Ty.zero t6 : D6) a0.1) a0.2.1) a0.2.2.1) a0.2.2.2.1) a0.2.2.2.2.1) a0.2.2.2.2.2.2.2.2.1)
       else
       letJ (σ := D6) (ρ := Bool) (fun s1 =>
        j1_4 s1) fun j1_5 =>
        if (a0.2.1 == (5 : Int)) = true then
         j1_5 (sett6_43_6 (sett6_4_1 (sett6_3_1 (sett6_2_1 (sett6_1_1 (sett6_0_1 (Ty.zero t6 : D6) a0.1) a0.2.1) a0.2.2.1) a0.2.2.2.1) a0.2.2.2.2.1) a0.2.2.2.2.2.2.2.2.2.1)
        else
         letJ (σ := D6) (ρ := Bool) (fun s1 =>
          j1_5 s1) fun j1_6 =>
          if (a0.2.1 == (6 : Int)) = true then
          j1_6 (sett6_50_1 (sett6_49_1 (sett6_4_1 (sett6_3_1 (sett6_2_1 (sett6_1_1 (sett6_0_1 (Ty.zero t6 : D6) a0.1) a0.2.1) a0.2.2.1) a0.2.2.2.1) a0.2.2.2.2.1) a0.2.2.2.2.2.2.2.2.2.2.1) a0.2.2.2.2.2.2.2.2.2.2.2.1)
          else
          j1_6 (sett6_4_1 (sett6_3_1 (sett6_2_1 (sett6_1_1 (sett6_0_1 (Ty.zero t6 : D6) a0.1) a0.2.1) a0.2.2.1) a0.2.2.2.1) a0.2.2.2.2.1)
noncomputable def L95 : Lib Go.Proofs.Tryz.prog := L83.add pm 95 [t6] .bool (fun st => F95 st) [] [] [] spOK_nil (fun st => by kernel_rfl)
noncomputable def F96 (a0 : (List D0)) : Option (List Int) :=
 letJ (σ := (List Int)) (ρ := (List Int)) (fun s1 =>
  some s1) fun j1_1 =>
  whileO (σ := ((List Int) × Int)) (ρ := (List Int)) (fun s1 =>
   if (decide (s1.2 < ((List.length a0 : Nat) : Int))) = true then
    Option.bind (idxO a0 s1.2) fun v3 =>
    letJ (σ := (List Int)) (ρ := (((List Int) × Int) ⊕ (List Int))) (fun s4 =>
     turn (s4, (IntKind.wrap .i64 (s1.2 + (1 : Int))))) fun j4_3 =>
     if (v3.2.1 == (0 : Int)) = true then
     Option.bind (idxO a0 s1.2) fun v4 =>
     Option.bind (some ([v4.1] : List Int)) fun v5 =>
     Option.bind (appO 8 s1.1 v5) fun v6 =>
     j4_3 v6
     else
     j4_3 s1.1
   else
    done (j1_1 s1.1)) (([] : List Int), (0 : Int))
noncomputable def L96 : Lib Go.Proofs.Tryz.prog := L95.add pm 96 [(.sl t0)] (.sl (.int .u64)) (fun st => F96 st) [] [(1, [3, 4], [], [], [], [])] [] spOK_nil (fun st => by kernel_rfl)
noncomputable def F97 (a0 : (List Int)) : Option Bool :=
 letJ (σ := Unit) (ρ := Bool) (fun s1 =>
  some true) fun j1_1 =>
  letJ (σ := Unit) (ρ := Bool) (fun s1 =>
   some false) fun j1_2 =>
   whileO (σ := Int) (ρ := Bool) (fun s1 =>
    if (decide (s1 < ((List.length a0 : Nat) : Int))) = true then
     Option.bind (idxO a0 s1) fun v2 =>
     Option.bind (F93 v2) fun v3 =>
     Option.bind (if ((!(!v3)) && ((decide (s1 > (0 : Int))) && true)) = true then (idxO a0 (IntKind.wrap .i64 (s1 - (1 : Int)))) else some (0 : Int)) fun v4 =>
     Option.bind (if ((!(!v3)) && ((decide (s1 > (0 : Int))) && true)) = true then (idxO a0 s1) else some (0 : Int)) fun v5 =>
     if (if (!v3) = true then true else (if (decide (s1 > (0 : Int))) = true then (decide (v4 ≥ v5)) else false)) = true then
     done (j1_2 ())
     else
     turn (IntKind.wrap .i64 (s1 + (1 : Int)))
    else
     done (j1_1 ())) (0 : Int)
noncomputable def L97 : Lib Go.Proofs.Tryz.prog := L96.add pm 97 [(.sl (.int .u64))] .bool (fun st => F97 st) [(97, 4, [.calm [0, 1, 2, 3, 4, 5, 6, 7, 8, 9, 10, 11, 12, 13, 14, 15, 16, 17, 18, 19, 20, 21]])] [(1, [3], [], [], [], [])] [] spOK_nil (fun st => by kernel_rfl)
noncomputable def F156 (a0 : D1) : Option Bool :=
 letV ((if (if (if (if (decide (a0.1 ≥ (0 : Int))) = true then (decide (a0.1 < (1048576 : Int))) else false) = true then (decide (a0.2.2.2.2.1 ≥ (0 : Int))) else false) = true then (decide (a0.2.2.2.2.1 < (1048576 : Int))) else false) = true then (decide (a0.2.1 ≥ (1 : Int))) else false)) fun v1 =>
 letV ((if (if (if v1 = true then (decide (a0.2.1 ≤ (1048576 : Int))) else false) = true then (decide (a0.2.1 ≤ (IntKind.wrap .i64 ((1048576 : Int) - a0.1)))) else false) = true then (decide (a0.2.1 ≤ (IntKind.wrap .i64 ((1048576 : Int) - a0.2.2.2.2.1)))) else false)) fun v2 =>
 some v2
noncomputable def L156 : Lib Go.Proofs.Tryz.prog := L97.add pm 156 [t1] .bool (fun st => F156 st) [] [] [] spOK_nil (fun st => by kernel_rfl)
noncomputable def F98 (a0 : (List D1)) : Option Bool :=
 if (decide (((List.length a0 : Nat) : Int) > (16 : Int))) = true then
  some false
 else
  letJ (σ := Unit) (ρ := Bool) (fun s1 =>
   some true) fun j1_1 =>
   letJ (σ := Unit) (ρ := Bool) (fun s1 =>
    some false) fun j1_2 =>
    whileO (σ := Int) (ρ := Bool) (fun s1 =>
     if (decide (s1 < ((List.length a0 : Nat) : Int))) = true then
     Option.bind (idxO a0 s1) fun v2 =>
     Option.bind (F156 v2) fun v3 =>
     Option.bind (if ((!(!v3)) && ((decide (s1 > (0 : Int))) && true)) = true then (idxO a0 (IntKind.wrap .i64 (s1 - (1 : Int)))) else some (Ty.zero t1 : D1)) fun v4 =>
     Option.bind (if ((!(!v3)) && ((decide (s1 > (0 : Int))) && true)) = true then (idxO a0 (IntKind.wrap .i64 (s1 - (1 : Int)))) else some (Ty.zero t1 : D1)) fun v5 =>
     Option.bind (if ((!(!v3)) && ((decide (s1 > (0 : Int))) && true)) = true then (idxO a0 s1) else some (Ty.zero t1 : D1)) fun v6 =>
     if (if (!v3) = true then true else (if (decide (s1 > (0 : Int))) = true then (decide ((IntKind.wrap .i64 (v4.1 + v5.2.1)) > v6.1)) else false)) = true then
      done (j1_2 ())
     else
      turn (IntKind.wrap .i64 (s1 + (1 : Int)))
     else
     done (j1_1 ())) (0 : Int)
noncomputable def L98 : Lib Go.Proofs.Tryz.prog := L156.add pm 98 [(.sl t1)] .bool (fun st => F98 st) [(98, 6, [.calm [0, 1, 2, 3, 4, 5, 6, 7, 8, 9, 10, 11, 12, 13, 14, 15, 16, 17, 18, 19, 20, 21, 22, 23, 24, 25, 26, 27, 28, 29, 30]])] [(1, [3], [], [], [], [])] [] spOK_nil (fun st => by kernel_rfl)
noncomputable def F159 (a0 : (List D0)) (a1 : Int) : Option Int :=
 letJ (σ := Unit) (ρ := Int) (fun s2 =>
  some ((2 : Int))) fun j2_1 =>
  letJ (σ := Int) (ρ := Int) (fun s2 =>
   some s2) fun j2_2 =>
   whileO (σ := Int) (ρ := Int) (fun s2 =>
    if (decide (s2 < ((List.length a0 : Nat) : Int))) = true then
     Option.bind (idxO a0 s2) fun v3 =>
     if (v3.1 == a1) = true then
     Option.bind (idxO a0 s2) fun v4 =>
     done (j2_2 v4.2.1)
     else
     turn (IntKind.wrap .i64 (s2 + (1 : Int)))
    else
     done (j2_1 ())) (0 : Int)
noncomputable def L159 : Lib Go.Proofs.Tryz.prog := L98.add pm 159 [(.sl t0), (.int .u64)] (.int .i64) (fun st => F159 st.1 st.2) [] [(1, [5], [], [], [], [])] [] spOK_nil (fun st => by kernel_rfl)
noncomputable def F219 (a0 : Int) : Option Int :=
 if (if (decide (a0 < (0 : Int))) = true then true else (decide (a0 > (5 : Int)))) = true then
  some ((2 : Int))
 else
  some a0
noncomputable def L219 : Lib Go.Proofs.Tryz.prog := L159.add pm 219 [(.int .i64)] (.int .i64) (fun st => F219 st) [] [] [] spOK_nil (fun st => by kernel_rfl)
noncomputable def F158 (a0 : Int) (a1 : Int) : Option Bool :=
 Option.bind (F219 a0) fun v2 =>
 Option.bind (F219 a1) fun v3 =>
 some ((decide (v2 ≤ v3)))
noncomputable def L158 : Lib Go.Proofs.Tryz.prog := L219.add pm 158 [(.int .i64), (.int .i64)] .bool (fun st => F158 st.1 st.2) [] [] [] spOK_nil (fun st => by kernel_rfl)
noncomputable def F100 (a0 : (List D0)) (a1 : (List D0)) : Option Bool :=
 letJ (σ := Unit) (ρ := Bool) (fun s2 =>
  letJ (σ := Unit) (ρ := Bool) (fun s2 =>
   some true) fun j2_1 =>
   letJ (σ := Unit) (ρ := Bool) (fun s2 =>
    some false) fun j2_2 =>
    whileO (σ := Int) (ρ := Bool) (fun s2 =>
     if (decide (s2 < ((List.length a1 : Nat) : Int))) = true then
      Option.bind (idxO a1 s2) fun v3 =>
      Option.bind (F159 a0 v3.1) fun v4 =>
      Option.bind (idxO a1 s2) fun v5 =>
      Option.bind (F158 v4 v5.2.1) fun v6 =>
      if (!v6) = true then
      done (j2_2 ())
      else
      turn (IntKind.wrap .i64 (s2 + (1 : Int)))
     else
      done (j2_1 ())) (0 : Int)) fun j2_1 =>
  letJ (σ := Unit) (ρ := Bool) (fun s2 =>
   some false) fun j2_2 =>
   whileO (σ := Int) (ρ := Bool) (fun s2 =>
    if (decide (s2 < ((List.length a0 : Nat) : Int))) = true then
     Option.bind (idxO a0 s2) fun v3 =>
     Option.bind (idxO a0 s2) fun v4 =>
     Option.bind (F159 a1 v4.1) fun v5 =>
     Option.bind (F158 v3.2.1 v5) fun v6 =>
     if (!v6) = true then
     done (j2_2 ())
     else
     turn (IntKind.wrap .i64 (s2 + (1 : Int)))
    else
     done (j2_1 ())) (0 : Int)
noncomputable def L100 : Lib Go.Proofs.Tryz.prog := L158.add pm 100 [(.sl t0), (.sl t0)] .bool (fun st => F100 st.1 st.2) [(100, 4, [.calm [0, 1, 2, 3, 4, 5, 6, 7, 8, 9, 10, 11, 12, 13]]), (100, 9, [.calm [0, 1, 2, 3, 4, 5, 6, 7, 8, 9, 10, 11, 12, 13]])] [(1, [5], [], [], [], []), (2, [6], [], [], [], [])] [] spOK_nil (fun st => by kernel_rfl)
noncomputable def F157 (a0 : D2) : Option Bool :=
 some ((if (decide (a0.1 ≤ a0.2.1)) = true then (decide (a0.2.1 ≤ (2305843009213693952 : Int))) else false))
noncomputable def L157 : Lib Go.Proofs.Tryz.prog := L100.add pm 157 [t2] .bool (fun st => F157 st) [] [] [] spOK_nil (fun st => by kernel_rfl)
noncomputable def F99 (a0 : (List D0)) (a1 : D4) : Option Bool :=
 letJ (σ := Unit) (ρ := Bool) (fun s2 =>
  if (if (a1.2.2.2.2.2.2.1 != (1 : Int)) = true then (!(eqK (.prod t2 (.prod (.int .u64) (.prod (.int .u64) (.prod .bool .unit)))) a1.2.2.2.2.2.2.2.1 (Ty.zero t3 : D3))) else false) = true then
   some false
  else
   Option.bind (F94 a1.2.2.1) fun v2 =>
   Option.bind (if (v2 && true) = true then (F100 a0 a1.2.2.1) else some false) fun v3 =>
   Option.bind (if ((if (if (if (if v2 = true then v3 else false) = true then (decide (a1.2.2.2.2.2.2.1 ≥ (0 : Int))) else false) = true then (decide (a1.2.2.2.2.2.2.1 ≤ (2 : Int))) else false) = true then (decide (((List.length a1.2.2.2.2.2.2.2.2.1 : Nat) : Int) ≤ (8 : Int))) else false) && true) = true then (F157 a1.2.2.2.2.2.2.2.2.2.1) else some false) fun v4 =>
   letV ((if (if (if (if (if v2 = true then v3 else false) = true then (decide (a1.2.2.2.2.2.2.1 ≥ (0 : Int))) else false) = true then (decide (a1.2.2.2.2.2.2.1 ≤ (2 : Int))) else false) = true then (decide (((List.length a1.2.2.2.2.2.2.2.2.1 : Nat) : Int) ≤ (8 : Int))) else false) = true then v4 else false)) fun v5 =>
   some v5) fun j2_1 =>
  letJ (σ := Unit) (ρ := Bool) (fun s2 =>
   some false) fun j2_2 =>
   whileO (σ := Int) (ρ := Bool) (fun s2 =>
    if (decide (s2 < (4 : Int))) = true then
     Option.bind (guardO (if (decide ((0 : Int) ≤ s2)) = true then (decide (s2 < (4 : Int))) else false)) fun v3 =>
     Option.bind (aidxO a1.2.2.2.2.2.2.2.2.2.2.1 s2) fun v4 =>
     Option.bind (F94 v4) fun v5 =>
     if (!v5) = true then
     done (j2_2 ())
     else
     turn (IntKind.wrap .i64 (s2 + (1 : Int)))
    else
     done (j2_1 ())) (0 : Int)
noncomputable def L99 : Lib Go.Proofs.Tryz.prog := L157.add pm 99 [(.sl t0), t4] .bool (fun st => F99 st.1 st.2) [] [(1, [5], [], [], [], [])] [] spOK_nil (fun st => by kernel_rfl)
noncomputable def F34 (a0 : D6) : Option Bool :=
 Option.bind (F93 a0.1) fun v1 =>
 Option.bind (if ((!(if (if (!v1) = true then true else (decide (a0.2.1 < (1 : Int)))) = true then true else (decide (a0.2.1 > (6 : Int))))) && true) = true then (F94 a0.2.2.1) else some false) fun v2 =>
 letV ((if (if (if (if (if (!v1) = true then true else (decide (a0.2.1 < (1 : Int)))) = true then true else (decide (a0.2.1 > (6 : Int)))) = true then true else (!v2)) = true then true else (decide (a0.2.2.2.1 < (1 : Int)))) = true then true else (decide (a0.2.2.2.1 > (4096 : Int))))) fun v3 =>
 Option.bind (if ((!v3) && true) = true then (F95 a0) else some false) fun v4 =>
 if (if v3 = true then true else (!v4)) = true then
  some false
 else
  Option.bind (if ((a0.2.1 != (4 : Int)) && true) = true then (F96 a0.2.2.1) else some ([] : List Int)) fun v5 =>
  if (if (a0.2.1 != (4 : Int)) = true then (decide (((List.length v5 : Nat) : Int) > (0 : Int))) else false) = true then
  some false
  else
  letJ (σ := Bool) (ρ := Bool) (fun s6 =>
   some s6) fun j6_1 =>
   if (a0.2.1 == (1 : Int)) = true then
    j6_1 (decide (((List.length a0.2.2.2.2.2.2.1 : Nat) : Int) ≤ (IntKind.wrap .i64 ((16 : Int) * (IntKind.wrap .i64 (a0.2.2.2.1 - (1 : Int)))))))
   else
    letJ (σ := Bool) (ρ := Bool) (fun s6 =>
     j6_1 s6) fun j6_2 =>
     if (a0.2.1 == (2 : Int)) = true then
     Option.bind (if ((decide (((List.length a0.2.2.2.2.2.1 : Nat) : Int) ≤ (64 : Int))) && true) = true then (F97 a0.2.2.2.2.2.1) else some false) fun v6 =>
     j6_2 (if (decide (((List.length a0.2.2.2.2.2.1 : Nat) : Int) ≤ (64 : Int))) = true then v6 else false)
     else
     letJ (σ := Bool) (ρ := Bool) (fun s6 =>
      j6_2 s6) fun j6_3 =>
      if (a0.2.1 == (3 : Int)) = true then
       Option.bind (F98 a0.2.2.2.2.2.2.2.1) fun v6 =>
       j6_3 v6
      else
       letJ (σ := Bool) (ρ := Bool) (fun s6 =>
        j6_3 s6) fun j6_4 =>
        if (a0.2.1 == (4 : Int)) = true then
        Option.bind (F99 a0.2.2.1 a0.2.2.2.2.2.2.2.2.1) fun v6 =>
        j6_4 (if v6 = true then (!a0.2.2.2.2.1) else false)
        else
        if (a0.2.1 == (5 : Int)) = true then
         Option.bind (F94 a0.2.2.2.2.2.2.2.2.2.1.1) fun v6 =>
         Option.bind (if (v6 && true) = true then (F94 a0.2.2.2.2.2.2.2.2.2.1.2.1) else some false) fun v7 =>
         Option.bind (if ((if v6 = true then v7 else false) && true) = true then (F100 a0.2.2.2.2.2.2.2.2.2.1.1 a0.2.2.2.2.2.2.2.2.2.1.2.1) else some false) fun v8 =>
         j6_4 (if (if v6 = true then v7 else false) = true then v8 else false)
        else
         some ((if (decide (((List.length a0.2.2.2.2.2.2.2.2.2.2.1 : Nat) : Int) ≤ (64 : Int))) = true then (decide (((List.length a0.2.2.2.2.2.2.2.2.2.2.2.1 : Nat) : Int) ≤ (1024 : Int))) else false))
noncomputable def L34 : Lib Go.Proofs.Tryz.prog := L99.add pm 34 [t6] .bool (fun st => F34 st) [] [] [] spOK_nil (fun st => by kernel_rfl)
noncomputable def F13 (a0 : D7) : Option Bool :=
 if (if (if (decide (a0.1 < (0 : Int))) = true then true else (decide (a0.1 > (1099511627776 : Int)))) = true then true else (decide (((List.length a0.2.2.2.1 : Nat) : Int) > (1024 : Int)))) = true then
  some false
 else
  letJ (σ := Unit) (ρ := Bool) (fun s1 =>
   some true) fun j1_1 =>
   letJ (σ := Unit) (ρ := Bool) (fun s1 =>
    some false) fun j1_2 =>
    whileO (σ := Int) (ρ := Bool) (fun s1 =>
     if (decide (s1 < ((List.length a0.2.2.2.1 : Nat) : Int))) = true then
     Option.bind (idxO a0.2.2.2.1 s1) fun v2 =>
     Option.bind (F34 v2) fun v3 =>
     Option.bind (if ((!(!v3)) && ((decide (s1 > (0 : Int))) && true)) = true then (idxO a0.2.2.2.1 (IntKind.wrap .i64 (s1 - (1 : Int)))) else some (Ty.zero t6 : D6)) fun v4 =>
     Option.bind (if ((!(!v3)) && ((decide (s1 > (0 : Int))) && true)) = true then (idxO a0.2.2.2.1 s1) else some (Ty.zero t6 : D6)) fun v5 =>
     if (if (!v3) = true then true else (if (decide (s1 > (0 : Int))) = true then (decide (v4.1 ≥ v5.1)) else false)) = true then
      done (j1_2 ())
     else
      turn (IntKind.wrap .i64 (s1 + (1 : Int)))
     else
     done (j1_1 ())) (0 : Int)
noncomputable def L13 : Lib Go.Proofs.Tryz.prog := L34.add pm 13 [t7] .bool (fun st => F13 st) [(13, 6, [.calm [0, 1, 2, 3, 4, 5, 6, 7, 8, 9, 10, 11, 12, 13, 14, 15, 16, 17, 18, 19, 20, 21, 22, 23, 24, 25, 26]])] [(1, [3], [], [], [], [])] [] spOK_nil (fun st => by kernel_rfl)
noncomputable def F271 (a0 : Int) : Option Int :=
 Option.bind (F219 a0) fun v1 =>
 if (v1 == (0 : Int)) = true then
  some ((5 : Int))
 else
  Option.bind (F219 a0) fun v2 =>
  some v2
noncomputable def L271 : Lib Go.Proofs.Tryz.prog := L13.add pm 271 [(.int .i64)] (.int .i64) (fun st => F271 st) [] [] [] spOK_nil (fun st => by kernel_rfl)
abbrev sett0_0_1 (x : D0) (y : Int) : D0 := (y, x.2)
abbrev sett0_1_1 (x : D0) (y : Int) : D0 := (x.1, (y, x.2.2))
noncomputable def F217 (a0 : (List D0)) : Option (List D0) :=
 letJ (σ := (List D0)) (ρ := (List D0)) (fun s1 =>
  some s1) fun j1_1 =>
  whileO (σ := ((List D0) × Int)) (ρ := (List D0)) (fun s1 =>
   if (decide (s1.2 < ((List.length a0 : Nat) : Int))) = true then
    Option.bind (idxO a0 s1.2) fun v3 =>
    Option.bind (idxO a0 s1.2) fun v4 =>
    Option.bind (F271 v4.2.1) fun v5 =>
    Option.bind (some ([(sett0_1_1 (sett0_0_1 (Ty.zero t0 : D0) v3.1) v5)] : List D0)) fun v6 =>
    Option.bind (appO 16 s1.1 v6) fun v7 =>
    turn (v7, (IntKind.wrap .i64 (s1.2 + (1 : Int))))
   else
    done (j1_1 s1.1)) (([] : List D0), (0 : Int))
noncomputable def L217 : Lib Go.Proofs.Tryz.prog := L271.add pm 217 [(.sl t0)] (.sl t0) (fun st => F217 st) [(217, 5, [.calm [0, 1, 2, 3, 4, 5, 6, 7, 8, 9, 10, 11, 12, 13], .bar 14, .bar 15])] [(1, [3, 4], [], [], [], [])] [] spOK_nil (fun st => by kernel_rfl)
noncomputable def F270 (a0 : Int) (a1 : Int) : Option Int :=
 Option.bind (F219 a0) fun v2 =>
 Option.bind (F219 a1) fun v3 =>
 if (decide (v2 > v3)) = true then
  Option.bind (F219 a0) fun v4 =>
  some v4
 else
  Option.bind (F219 a1) fun v4 =>
  some v4
noncomputable def L270 : Lib Go.Proofs.Tryz.prog := L217.add pm 270 [(.int .i64), (.int .i64)] (.int .i64) (fun st => F270 st.1 st.2) [] [] [] spOK_nil (fun st => by kernel_rfl)
noncomputable def F269 (a0 : (List D0)) (a1 : Int) (a2 : Int) : Option (List D0) :=
 letJ (σ := ((List D0) × Bool)) (ρ := (List D0)) (fun s3 =>
  letJ (σ := (List D0)) (ρ := (List D0)) (fun s5 =>
   some s5) fun j5_1 =>
   if (!s3.2) = true then
    Option.bind (some ([(sett0_1_1 (sett0_0_1 (Ty.zero t0 : D0) a1) a2)] : List D0)) fun v5 =>
    Option.bind (appO 16 s3.1 v5) fun v6 =>
    j5_1 v6
   else
    j5_1 s3.1) fun j3_1 =>
  whileO (σ := ((List D0) × (Bool × Int))) (ρ := (List D0)) (fun s3 =>
   if (decide (s3.2.2 < ((List.length a0 : Nat) : Int))) = true then
    Option.bind (if ((!s3.2.1) && true) = true then (idxO a0 s3.2.2) else some (Ty.zero t0 : D0)) fun v6 =>
    letJ (σ := ((List D0) × Bool)) (ρ := (((List D0) × (Bool × Int)) ⊕ (List D0))) (fun s7 =>
     Option.bind (idxO a0 s3.2.2) fun v9 =>
     letJ (σ := (List D0)) (ρ := (((List D0) × (Bool × Int)) ⊕ (List D0))) (fun s10 =>
      turn (s10, s7.2, (IntKind.wrap .i64 (s3.2.2 + (1 : Int))))) fun j10_3 =>
      if (v9.1 != a1) = true then
      Option.bind (idxO a0 s3.2.2) fun v10 =>
      Option.bind (some ([v10] : List D0)) fun v11 =>
      Option.bind (appO 16 s7.1 v11) fun v12 =>
      j10_3 v12
      else
      j10_3 s7.1) fun j7_3 =>
     if (if (!s3.2.1) = true then (decide (v6.1 > a1)) else false) = true then
     Option.bind (some ([(sett0_1_1 (sett0_0_1 (Ty.zero t0 : D0) a1) a2)] : List D0)) fun v7 =>
     Option.bind (appO 16 s3.1 v7) fun v8 =>
     j7_3 (v8, true)
     else
     j7_3 (s3.1, s3.2.1)
   else
    done (j3_1 (s3.1, s3.2.1))) (([] : List D0), (a2 == (2 : Int)), (0 : Int))
noncomputable def L269 : Lib Go.Proofs.Tryz.prog := L270.add pm 269 [(.sl t0), (.int .u64), (.int .i64)] (.sl t0) (fun st => F269 st.1 st.2.1 st.2.2) [] [(1, [7, 8, 9], [], [], [], [])] [] spOK_nil (fun st => by kernel_rfl)
noncomputable def F216 (a0 : (List D0)) (a1 : (List D0)) : Option (List D0) :=
 letJ (σ := (List D0)) (ρ := (List D0)) (fun s2 =>
  letJ (σ := (List D0)) (ρ := (List D0)) (fun s3 =>
   some s3) fun j3_1 =>
   whileO (σ := ((List D0) × Int)) (ρ := (List D0)) (fun s3 =>
    if (decide (s3.2 < ((List.length a1 : Nat) : Int))) = true then
     Option.bind (idxO a1 s3.2) fun v5 =>
     Option.bind (idxO a1 s3.2) fun v6 =>
     Option.bind (F159 a0 v6.1) fun v7 =>
     Option.bind (idxO a1 s3.2) fun v8 =>
     Option.bind (F270 v7 v8.2.1) fun v9 =>
     Option.bind (F269 s3.1 v5.1 v9) fun v10 =>
     turn (v10, (IntKind.wrap .i64 (s3.2 + (1 : Int))))
    else
     done (j3_1 s3.1)) (s2, (0 : Int))) fun j2_1 =>
  whileO (σ := ((List D0) × Int)) (ρ := (List D0)) (fun s2 =>
   if (decide (s2.2 < ((List.length a0 : Nat) : Int))) = true then
    Option.bind (idxO a0 s2.2) fun v4 =>
    Option.bind (idxO a0 s2.2) fun v5 =>
    Option.bind (idxO a0 s2.2) fun v6 =>
    Option.bind (F159 a1 v6.1) fun v7 =>
    Option.bind (F270 v5.2.1 v7) fun v8 =>
    Option.bind (F269 s2.1 v4.1 v8) fun v9 =>
    turn (v9, (IntKind.wrap .i64 (s2.2 + (1 : Int))))
   else
    done (j2_1 s2.1)) (a0, (0 : Int))
noncomputable def L216 : Lib Go.Proofs.Tryz.prog := L269.add pm 216 [(.sl t0), (.sl t0)] (.sl t0) (fun st => F216 st.1 st.2) [(216, 5, [.calm [0, 1, 2, 3, 4, 5, 6, 7, 8, 9, 10, 11, 12, 13, 14, 15, 16, 17, 18, 19], .bar 20]), (216, 9, [.calm [0, 1, 2, 3, 4, 5, 6, 7, 8, 9, 10, 11, 12, 13, 14, 15, 16, 17, 18, 19], .bar 20])] [(1, [5, 6], [], [], [], []), (2, [5, 7], [], [], [], [])] [] spOK_nil (fun st => by kernel_rfl)
noncomputable def F153 (a0 : (List D0)) (a1 : (List D0)) : Option Bool :=
 Option.bind (F217 a1) fun v2 =>
 Option.bind (F216 v2 ([] : List D0)) fun v3 =>
 Option.bind (F100 a0 v3) fun v4 =>
 some v4
noncomputable def L153 : Lib Go.Proofs.Tryz.prog := L216.add pm 153 [(.sl t0), (.sl t0)] .bool (fun st => F153 st.1 st.2) [] [] [] spOK_nil (fun st => by kernel_rfl)
noncomputable def F44 (a0 : D6) : Option Int :=
 Option.bind (quoO .i64 (IntKind.wrap .i64 ((IntKind.wrap .i64 (((List.length a0.2.2.2.2.2.2.1 : Nat) : Int) + (16 : Int))) - (1 : Int))) (16 : Int)) fun v1 =>
 some ((IntKind.wrap .i64 ((1 : Int) + v1)))
noncomputable def L44 : Lib Go.Proofs.Tryz.prog := L153.add pm 44 [t6] (.int .i64) (fun st => F44 st) [] [] [] spOK_nil (fun st => by kernel_rfl)
noncomputable def F36 (a0 : D7) (a1 : D6) : Option Int :=
 Option.bind (F44 a1) fun v2 =>
 letJ (σ := Int) (ρ := Int) (fun s3 =>
  some s3) fun j3_1 =>
  whileO (σ := (Int × Int)) (ρ := Int) (fun s3 =>
   if (decide (s3.2 < ((List.length a1.2.2.2.2.2.1 : Nat) : Int))) = true then
    Option.bind (idxO a1.2.2.2.2.2.1 s3.2) fun v5 =>
    Option.bind (F43 a0 v5) fun v6 =>
    turn ((IntKind.wrap .i64 (s3.1 + v6.1.2.2.2.1)), (IntKind.wrap .i64 (s3.2 + (1 : Int))))
   else
    done (j3_1 s3.1)) (v2, (0 : Int))
noncomputable def L36 : Lib Go.Proofs.Tryz.prog := L44.add pm 36 [t7, t6] (.int .i64) (fun st => F36 st.1 st.2) [(36, 5, [.fresh [0, 1, 2, 3, 4, 5, 6, 7, 8, 9] 10 11, .calm [12]])] [(1, [5, 6], [], [], [], [])] [] spOK_nil (fun st => by kernel_rfl)
noncomputable def F90 (a0 : D7) (a1 : D6) : Option Bool :=
 letJ (σ := Unit) (ρ := Bool) (fun s2 =>
  Option.bind (if ((!(a1.2.1 != (2 : Int))) && true) = true then (F36 a0 a1) else some (0 : Int)) fun v2 =>
  some ((if (a1.2.1 != (2 : Int)) = true then true else (decide (v2 ≤ a1.2.2.2.1))))) fun j2_1 =>
  letJ (σ := D6) (ρ := Bool) (fun s2 =>
   some false) fun j2_2 =>
   whileO (σ := Int) (ρ := Bool) (fun s2 =>
    if (decide (s2 < ((List.length a1.2.2.2.2.2.1 : Nat) : Int))) = true then
     Option.bind (idxO a1.2.2.2.2.2.1 s2) fun v3 =>
     Option.bind (F43 a0 v3) fun v4 =>
     Option.bind (if ((!(!v4.2)) && true) = true then (F153 a1.2.2.1 v4.1.2.2.1) else some false) fun v5 =>
     if (if (!v4.2) = true then true else (!v5)) = true then
     done (j2_2 v4.1)
     else
     turn (IntKind.wrap .i64 (s2 + (1 : Int)))
    else
     done (j2_1 ())) (0 : Int)
noncomputable def L90 : Lib Go.Proofs.Tryz.prog := L36.add pm 90 [t7, t6] .bool (fun st => F90 st.1 st.2) [(90, 4, [.fresh [0, 1, 2, 3, 4, 5, 6, 7, 8, 9] 10 11, .calm [12]]), (90, 7, [.calm [0, 1, 2, 3, 4, 5, 6, 7, 8, 9, 10, 11]])] [(1, [5], [], [], [], [])] [] spOK_nil (fun st => by kernel_rfl)
noncomputable def F103 (a0 : (List Int)) (a1 : Int) : Option Bool :=
 letJ (σ := Unit) (ρ := Bool) (fun s2 =>
  some false) fun j2_1 =>
  letJ (σ := Unit) (ρ := Bool) (fun s2 =>
   some true) fun j2_2 =>
   whileO (σ := Int) (ρ := Bool) (fun s2 =>
    if (decide (s2 < ((List.length a0 : Nat) : Int))) = true then
     Option.bind (idxO a0 s2) fun v3 =>
     if (v3 == a1) = true then
     done (j2_2 ())
     else
     turn (IntKind.wrap .i64 (s2 + (1 : Int)))
    else
     done (j2_1 ())) (0 : Int)
noncomputable def L103 : Lib Go.Proofs.Tryz.prog := L90.add pm 103 [(.sl (.int .u64)), (.int .u64)] .bool (fun st => F103 st.1 st.2) [] [(1, [5], [], [], [], [])] [] spOK_nil (fun st => by kernel_rfl)
noncomputable def F40 (a0 : D7) (a1 : Int) : Option (List Int) :=
 letJ (σ := (List Int)) (ρ := (List Int)) (fun s2 =>
  some s2) fun j2_1 =>
  whileO (σ := ((List Int) × Int)) (ρ := (List Int)) (fun s2 =>
   if (decide (s2.2 < ((List.length a0.2.2.2.1 : Nat) : Int))) = true then
    Option.bind (idxO a0.2.2.2.1 s2.2) fun v4 =>
    Option.bind (F103 v4.2.2.2.2.2.1 a1) fun v5 =>
    letJ (σ := (List Int)) (ρ := (((List Int) × Int) ⊕ (List Int))) (fun s6 =>
     turn (s6, (IntKind.wrap .i64 (s2.2 + (1 : Int))))) fun j6_3 =>
     if v5 = true then
     Option.bind (idxO a0.2.2.2.1 s2.2) fun v6 =>
     Option.bind (some ([v6.1] : List Int)) fun v7 =>
     Option.bind (appO 8 s2.1 v7) fun v8 =>
     j6_3 v8
     else
     j6_3 s2.1
   else
    done (j2_1 s2.1)) (([] : List Int), (0 : Int))
noncomputable def L40 : Lib Go.Proofs.Tryz.prog := L103.add pm 40 [t7, (.int .u64)] (.sl (.int .u64)) (fun st => F40 st.1 st.2) [] [(1, [5, 6], [], [], [], [])] [] spOK_nil (fun st => by kernel_rfl)
noncomputable def F42 (a0 : D7) (a1 : Int) : Option (List Int) :=
 letJ (σ := Unit) (ρ := (List Int)) (fun s2 =>
  some (([] : List Int))) fun j2_1 =>
  letJ (σ := (List Int)) (ρ := (List Int)) (fun s2 =>
   some s2) fun j2_2 =>
   whileO (σ := (Int × (List Int))) (ρ := (List Int)) (fun s2 =>
    if (decide (((List.length s2.2 : Nat) : Int) ≤ ((List.length a0.2.2.2.1 : Nat) : Int))) = true then
     Option.bind (F40 a0 s2.1) fun v4 =>
     if (((List.length v4 : Nat) : Int) == (0 : Int)) = true then
     done (j2_2 s2.2)
     else
     Option.bind (idxO v4 (0 : Int)) fun v5 =>
     Option.bind (some ([v5] : List Int)) fun v6 =>
     Option.bind (appO 8 s2.2 v6) fun v7 =>
     turn (v5, v7)
    else
     done (j2_1 ())) (a1, ([] : List Int))
noncomputable def L42 : Lib Go.Proofs.Tryz.prog := L40.add pm 42 [t7, (.int .u64)] (.sl (.int .u64)) (fun st => F42 st.1 st.2) [] [(1, [1, 5], [], [], [], [])] [] spOK_nil (fun st => by kernel_rfl)
noncomputable def F154 (a0 : D7) (a1 : Int) : Option Bool :=
 Option.bind (F42 a0 a1) fun v2 =>
 Option.bind (if ((!(if (a1 == a0.2.2.1) = true then (((List.length v2 : Nat) : Int) == (0 : Int)) else false)) && ((decide (((List.length v2 : Nat) : Int) > (0 : Int))) && true)) = true then (idxO v2 (IntKind.wrap .i64 (((List.length v2 : Nat) : Int) - (1 : Int)))) else some (0 : Int)) fun v3 =>
 some ((if (if (a1 == a0.2.2.1) = true then (((List.length v2 : Nat) : Int) == (0 : Int)) else false) = true then true else (if (decide (((List.length v2 : Nat) : Int) > (0 : Int))) = true then (v3 == a0.2.2.1) else false)))
noncomputable def L154 : Lib Go.Proofs.Tryz.prog := L42.add pm 154 [t7, (.int .u64)] .bool (fun st => F154 st.1 st.2) [(154, 2, [.calm [0, 1, 2, 3, 4, 5, 6, 7, 8, 9, 10, 11, 12, 13, 14, 15, 16, 17, 18, 19, 20, 21, 22, 23, 24, 25]])] [] [] spOK_nil (fun st => by kernel_rfl)
noncomputable def F91 (a0 : D7) (a1 : D6) : Option Bool :=
 Option.bind (F40 a0 a1.1) fun v2 =>
 if (a1.1 == a0.2.2.1) = true then
  some ((if (if (((List.length v2 : Nat) : Int) == (0 : Int)) = true then (a1.2.1 == (2 : Int)) else false) = true then (decide (a1.2.2.2.1 ≤ (1024 : Int))) else false))
 else
  letV ((if (decide (((List.length v2 : Nat) : Int) < (1 : Int))) = true then true else (if (decide (((List.length v2 : Nat) : Int) > (1 : Int))) = true then (if (if (!a1.2.2.2.2.1) = true then true else (a1.2.1 == (2 : Int))) = true then true else (a1.2.1 == (4 : Int))) else false))) fun v3 =>
  if v3 = true then
  some false
  else
  Option.bind (if ((!(a1.2.1 != (2 : Int))) && true) = true then (F154 a0 a1.1) else some false) fun v4 =>
  some ((if (a1.2.1 != (2 : Int)) = true then true else v4))
noncomputable def L91 : Lib Go.Proofs.Tryz.prog := L154.add pm 91 [t7, t6] .bool (fun st => F91 st.1 st.2) [] [] [] spOK_nil (fun st => by kernel_rfl)
noncomputable def F277 (a0 : Int) : Option Int :=
 Option.bind (shrO .u64 a0 (30 : Int)) fun v1 =>
 Option.bind (shrO .u64 (IntKind.wrap .u64 ((Go.Ab.xorI .u64 a0 v1) * (13787848793156543929 : Int))) (27 : Int)) fun v2 =>
 Option.bind (shrO .u64 (IntKind.wrap .u64 ((Go.Ab.xorI .u64 (IntKind.wrap .u64 ((Go.Ab.xorI .u64 a0 v1) * (13787848793156543929 : Int))) v2) * (10723151780598845931 : Int))) (31 : Int)) fun v3 =>
 some ((Go.Ab.xorI .u64 (IntKind.wrap .u64 ((Go.Ab.xorI .u64 (IntKind.wrap .u64 ((Go.Ab.xorI .u64 a0 v1) * (13787848793156543929 : Int))) v2) * (10723151780598845931 : Int))) v3))
noncomputable def L277 : Lib Go.Proofs.Tryz.prog := L91.add pm 277 [(.int .u64)] (.int .u64) (fun st => F277 st) [] [] [] spOK_nil (fun st => by kernel_rfl)
noncomputable def F231 (a0 : Int) (a1 : Int) (a2 : Int) : Option Int :=
 Option.bind (F277 (IntKind.wrap .u64 ((IntKind.wrap .u64 (a0 + (IntKind.wrap .u64 (a2 * (11400714819323198485 : Int))))) + (IntKind.wrap .u64 (a1 * (15111065706836454659 : Int)))))) fun v3 =>
 Option.bind (shrO .u64 v3 (20 : Int)) fun v4 =>
 some v4
noncomputable def L231 : Lib Go.Proofs.Tryz.prog := L277.add pm 231 [(.int .u64), (.int .u64), (.int .u64)] (.int .u64) (fun st => F231 st.1 st.2.1 st.2.2) [] [] [] spOK_nil (fun st => by kernel_rfl)
noncomputable def F185 (a0 : Int) (a1 : Int) : Option Int :=
 Option.bind (shrO .u64 (Go.Ab.andI .u64 (IntKind.wrap .u64 (a1 - (1 : Int))) (2305843009213693951 : Int)) (30 : Int)) fun v2 =>
 letJ (σ := (Int × Int)) (ρ := Int) (fun s3 =>
  Option.bind (shlO .u64 s3.1 (30 : Int)) fun v5 =>
  some ((IntKind.wrap .u64 (v5 + s3.2)))) fun j3_1 =>
  whileO (σ := (Int × (Int × Int))) (ρ := Int) (fun s3 =>
   if (decide (s3.2.2 < (8 : Int))) = true then
    Option.bind (remO (IntKind.wrap .u64 ((7 : Int) - s3.2.2)) (2 : Int)) fun v6 =>
    letJ (σ := (Int × Int)) (ρ := ((Int × (Int × Int)) ⊕ Int)) (fun s7 =>
     turn (s7.1, s7.2, (IntKind.wrap .u64 (s3.2.2 + (1 : Int))))) fun j7_3 =>
     if (v6 == (0 : Int)) = true then
     Option.bind (F231 a0 (IntKind.wrap .u64 ((7 : Int) - s3.2.2)) s3.2.1) fun v7 =>
     j7_3 ((Go.Ab.xorI .u64 s3.1 (Go.Ab.andI .u64 v7 (2147483647 : Int))), s3.2.1)
     else
     Option.bind (F231 a0 (IntKind.wrap .u64 ((7 : Int) - s3.2.2)) s3.1) fun v7 =>
     j7_3 (s3.1, (Go.Ab.xorI .u64 s3.2.1 (Go.Ab.andI .u64 v7 (1073741823 : Int))))
   else
    done (j3_1 (s3.1, s3.2.1))) (v2, (Go.Ab.andI .u64 (Go.Ab.andI .u64 (IntKind.wrap .u64 (a1 - (1 : Int))) (2305843009213693951 : Int)) (1073741823 : Int)), (0 : Int))
noncomputable def L185 : Lib Go.Proofs.Tryz.prog := L231.add pm 185 [(.int .u64), (.int .u64)] (.int .u64) (fun st => F185 st.1 st.2) [] [(1, [5, 6, 7], [], [], [], [])] [] spOK_nil (fun st => by kernel_rfl)
noncomputable def F122 (a0 : Int) (a1 : D2) (a2 : Int) : Option Bool :=
 Option.bind (F185 a0 a2) fun v3 =>
 some ((if (if (if (decide (a2 ≥ (1 : Int))) = true then (decide (a2 ≤ (2305843009213693952 : Int))) else false) = true then (decide (v3 ≥ a1.1)) else false) = true then (decide (v3 < a1.2.1)) else false))
noncomputable def L122 : Lib Go.Proofs.Tryz.prog := L185.add pm 122 [(.int .u64), t2, (.int .u64)] .bool (fun st => F122 st.1 st.2.1 st.2.2) [] [] [] spOK_nil (fun st => by kernel_rfl)
noncomputable def F123 (a0 : D2) (a1 : D2) : Option Bool :=
 letV ((if (if (if (a0.1 == a0.2.1) = true then true else (a1.1 == a1.2.1)) = true then true else (decide (a0.2.1 ≤ a1.1))) = true then true else (decide (a1.2.1 ≤ a0.1)))) fun v2 =>
 some v2
noncomputable def L123 : Lib Go.Proofs.Tryz.prog := L122.add pm 123 [t2, t2] .bool (fun st => F123 st.1 st.2) [] [] [] spOK_nil (fun st => by kernel_rfl)
noncomputable def F92 (a0 : D7) : Option Bool :=
 letJ (σ := Unit) (ρ := Bool) (fun s1 =>
  some true) fun j1_1 =>
  letJ (σ := (D6 × D6)) (ρ := Bool) (fun s1 =>
   some false) fun j1_2 =>
   whileO (σ := Int) (ρ := Bool) (fun s1 =>
    if (decide (s1 < ((List.length a0.2.2.2.1 : Nat) : Int))) = true then
     Option.bind (idxO a0.2.2.2.1 s1) fun v2 =>
     letJ (σ := Unit) (ρ := (Int ⊕ Bool)) (fun s3 =>
      turn (IntKind.wrap .i64 (s1 + (1 : Int)))) fun j3_4 =>
      letJ (σ := D6) (ρ := (Int ⊕ Bool)) (fun s3 =>
       done (j1_2 (s3, v2))) fun j3_5 =>
       whileO (σ := Int) (ρ := (Int ⊕ Bool)) (fun s3 =>
        if (if (decide (s3 < ((List.length a0.2.2.2.1 : Nat) : Int))) = true then (v2.2.1 == (4 : Int)) else false) = true then
        Option.bind (idxO a0.2.2.2.1 s3) fun v4 =>
        Option.bind (F122 a0.2.1 v2.2.2.2.2.2.2.2.2.1.2.2.2.2.2.2.2.2.2.1 v4.1) fun v5 =>
        Option.bind (if ((!v5) && ((if (v4.2.1 == (4 : Int)) = true then (s3 != s1) else false) && true)) = true then (F123 v2.2.2.2.2.2.2.2.2.1.2.2.2.2.2.2.2.2.2.1 v4.2.2.2.2.2.2.2.2.1.2.2.2.2.2.2.2.2.2.1) else some false) fun v6 =>
        if (if v5 = true then true else (if (if (v4.2.1 == (4 : Int)) = true then (s3 != s1) else false) = true then (!v6) else false)) = true then
         done (j3_5 v4)
        else
         turn (IntKind.wrap .i64 (s3 + (1 : Int)))
        else
        done (j3_4 ())) (0 : Int)
    else
     done (j1_1 ())) (0 : Int)
noncomputable def L92 : Lib Go.Proofs.Tryz.prog := L123.add pm 92 [t7] .bool (fun st => F92 st) [] [(1, [3], [], [], [], []), (2, [5], [], [], [], [])] [] spOK_nil (fun st => by kernel_rfl)
noncomputable def F33 (a0 : D7) : Option Bool :=
 Option.bind (F43 a0 a0.2.2.1) fun v1 =>
 Option.bind (F13 a0) fun v2 =>
 if (if (!v2) = true then true else (!v1.2)) = true then
  some false
 else
  letJ (σ := Unit) (ρ := Bool) (fun s3 =>
   Option.bind (F92 a0) fun v3 =>
   some v3) fun j3_1 =>
   letJ (σ := Unit) (ρ := Bool) (fun s3 =>
    some false) fun j3_2 =>
    whileO (σ := Int) (ρ := Bool) (fun s3 =>
     if (decide (s3 < ((List.length a0.2.2.2.1 : Nat) : Int))) = true then
     Option.bind (idxO a0.2.2.2.1 s3) fun v4 =>
     Option.bind (F90 a0 v4) fun v5 =>
     Option.bind (if ((!(!v5)) && true) = true then (idxO a0.2.2.2.1 s3) else some (Ty.zero t6 : D6)) fun v6 =>
     Option.bind (if ((!(!v5)) && true) = true then (F91 a0 v6) else some false) fun v7 =>
     if (if (!v5) = true then true else (!v7)) = true then
      done (j3_2 ())
     else
      turn (IntKind.wrap .i64 (s3 + (1 : Int)))
     else
     done (j3_1 ())) (0 : Int)
noncomputable def L33 : Lib Go.Proofs.Tryz.prog := L92.add pm 33 [t7] .bool (fun st => F33 st) [(33, 7, [.calm [0, 1, 2, 3, 4, 5, 6, 7, 8, 9, 10, 11, 12, 13, 14, 15, 16, 17]])] [(1, [5], [], [], [], [])] [] spOK_nil (fun st => by kernel_rfl)
noncomputable def F145 (a0 : D6) : Option Int :=
 some a0.1
noncomputable def L145 : Lib Go.Proofs.Tryz.prog := L33.add pm 145 [t6] (.int .u64) (fun st => F145 st) [] [] [] spOK_nil (fun st => by kernel_rfl)
abbrev t8 : Ty := .st (.prod (.sl t6) (.prod (.cst (.fnc 145)) .unit))
abbrev D8 : Type := ((List D6) × (Unit × Unit))
abbrev t9 : Ty := .st (.prod (.sl t6) (.prod (.cst .nilf) .unit))
abbrev D9 : Type := ((List D6) × (Unit × Unit))
abbrev sett9_0_1 (x : D9) (y : (List D6)) : D9 := (y, x.2)
abbrev sett9_1_1 (x : D9) (y : Unit) : D8 := (x.1, (y, x.2.2))
noncomputable def F132 (a0 : D7) : Option D8 :=
 some ((sett9_1_1 (sett9_0_1 (Ty.zero t9 : D9) a0.2.2.2.1) ()))
noncomputable def L132 : Lib Go.Proofs.Tryz.prog := L145.add pm 132 [t7] t8 (fun st => F132 st) [] [] [] spOK_nil (fun st => by kernel_rfl)
noncomputable def F204 (a0 : Int) : Option Bool :=
 some ((a0 != a0))
noncomputable def L204 : Lib Go.Proofs.Tryz.prog := L132.add pm 204 [(.int .u64)] .bool (fun st => F204 st) [] [] [] spOK_nil (fun st => by kernel_rfl)
noncomputable def F203 (a0 : Int) (a1 : Int) : Option Int :=
 Option.bind (F204 a0) fun v2 =>
 Option.bind (F204 a1) fun v3 =>
 letJ (σ := Int) (ρ := Int) (fun s4 =>
  some s4) fun j4_1 =>
  if v2 = true then
   if v3 = true then
   j4_1 (0 : Int)
   else
   j4_1 (-1 : Int)
  else
   if v3 = true then
   some ((1 : Int))
   else
   if (decide (a0 < a1)) = true then
    some ((-1 : Int))
   else
    if (decide (a0 > a1)) = true then
    some ((1 : Int))
    else
    some ((0 : Int))
noncomputable def L203 : Lib Go.Proofs.Tryz.prog := L204.add pm 203 [(.int .u64), (.int .u64)] (.int .i64) (fun st => F203 st.1 st.2) [] [] [] spOK_nil (fun st => by kernel_rfl)
noncomputable def F69 (a0 : D7) (a1 : Int) : Option (D6 × Bool) :=
 Option.bind (F132 a0) fun v2 =>
 letJ (σ := (Int × Bool)) (ρ := (D6 × Bool)) (fun s3 =>
  if (!s3.2) = true then
   some (((Ty.zero t6 : D6), false))
  else
   Option.bind (idxO a0.2.2.2.1 s3.1) fun v5 =>
   some ((v5, true))) fun j3_1 =>
  letJ (σ := Int) (ρ := (D6 × Bool)) (fun s3 =>
   Option.bind (if ((decide (s3 < ((List.length v2.1 : Nat) : Int))) && true) = true then (idxO v2.1 s3) else some (Ty.zero t6 : D6)) fun v4 =>
   if (decide (s3 < ((List.length v2.1 : Nat) : Int))) = true then
    Option.bind (F145 v4) fun v5 =>
    Option.bind (F203 v5 a1) fun v6 =>
    j3_1 (s3, (v6 == (0 : Int)))
   else
    j3_1 (s3, false)) fun j3_2 =>
   whileO (σ := (Int × Int)) (ρ := (D6 × Bool)) (fun s3 =>
    if (decide (s3.1 < s3.2)) = true then
     Option.bind (shrO .u64 (IntKind.wrap .u64 (IntKind.wrap .i64 (s3.1 + s3.2))) (1 : Int)) fun v5 =>
     Option.bind (idxO v2.1 (IntKind.wrap .i64 v5)) fun v6 =>
     Option.bind (F145 v6) fun v7 =>
     Option.bind (F203 v7 a1) fun v8 =>
     letJ (σ := (Int × Int)) (ρ := ((Int × Int) ⊕ (D6 × Bool))) (fun s9 =>
      turn (s9.1, s9.2)) fun j9_4 =>
      if (decide (v8 < (0 : Int))) = true then
      j9_4 ((IntKind.wrap .i64 ((IntKind.wrap .i64 v5) + (1 : Int))), s3.2)
      else
      j9_4 (s3.1, (IntKind.wrap .i64 v5))
    else
     done (j3_2 s3.1)) ((0 : Int), ((List.length v2.1 : Nat) : Int))
noncomputable def L69 : Lib Go.Proofs.Tryz.prog := L203.add pm 69 [t7, (.int .u64)] (.prod t6 .bool) (fun st => F69 st.1 st.2) [] [(3, [9, 10], [], [], [], [])] [] spOK_nil (fun st => by kernel_rfl)
noncomputable def F278 (a0 : Int) : Option Bool :=
 some ((if (decide (a0 ≥ (0 : Int))) = true then (decide (a0 ≤ (5 : Int))) else false))
noncomputable def L278 : Lib Go.Proofs.Tryz.prog := L69.add pm 278 [(.int .i64)] .bool (fun st => F278 st) [] [] [] spOK_nil (fun st => by kernel_rfl)
noncomputable def F301 (a0 : Int) : Option Int :=
 Option.bind (F278 a0) fun v1 =>
 if v1 = true then
  some a0
 else
  some ((2 : Int))
noncomputable def L301 : Lib Go.Proofs.Tryz.prog := L278.add pm 301 [(.int .i64)] (.int .i64) (fun st => F301 st) [] [] [] spOK_nil (fun st => by kernel_rfl)
noncomputable def F268 (a0 : Int) : Option Int :=
 Option.bind (F301 a0) fun v1 =>
 if (v1 != (0 : Int)) = true then
  some v1
 else
  some ((5 : Int))
noncomputable def L268 : Lib Go.Proofs.Tryz.prog := L301.add pm 268 [(.int .i64)] (.int .i64) (fun st => F268 st) [] [] [] spOK_nil (fun st => by kernel_rfl)
noncomputable def F267 (a0 : Int) (a1 : Int) : Option Int :=
 Option.bind (F268 a0) fun v2 =>
 some v2
noncomputable def L267 : Lib Go.Proofs.Tryz.prog := L268.add pm 267 [(.int .i64), (.int .i64)] (.int .i64) (fun st => F267 st.1 st.2) [] [] [] spOK_nil (fun st => by kernel_rfl)
abbrev t10 : Ty := .st (.prod (.int .i64) (.prod (.int .i64) .unit))
abbrev D10 : Type := (Int × (Int × Unit))
abbrev sett10_1_1 (x : D10) (y : Int) : D10 := (x.1, (y, x.2.2))
abbrev sett10_0_1 (x : D10) (y : Int) : D10 := (y, x.2)
noncomputable def F210 (a0 : (List D0)) : Option (List D0) :=
 letJ (σ := ((List D0) × ((List D0) × (List D0)))) (ρ := (List D0)) (fun s1 =>
  some s1.2.2) fun j1_1 =>
  whileO (σ := ((List D0) × ((List D0) × (List D0)))) (ρ := (List D0)) (fun s1 =>
   if (decide ((IntKind.wrap .i64 (((List.length s1.2.1 : Nat) : Int) + ((List.length s1.1 : Nat) : Int))) > (0 : Int))) = true then
    Option.bind (if ((!(((List.length s1.1 : Nat) : Int) == (0 : Int))) && ((decide (((List.length s1.2.1 : Nat) : Int) > (0 : Int))) && true)) = true then (idxO s1.2.1 (0 : Int)) else some (Ty.zero t0 : D0)) fun v4 =>
    Option.bind (if ((!(((List.length s1.1 : Nat) : Int) == (0 : Int))) && ((decide (((List.length s1.2.1 : Nat) : Int) > (0 : Int))) && true)) = true then (idxO s1.1 (0 : Int)) else some (Ty.zero t0 : D0)) fun v5 =>
    Option.bind (if ((!(((List.length s1.2.1 : Nat) : Int) == (0 : Int))) && ((decide (((List.length s1.1 : Nat) : Int) > (0 : Int))) && true)) = true then (idxO s1.1 (0 : Int)) else some (Ty.zero t0 : D0)) fun v6 =>
    Option.bind (if ((!(((List.length s1.2.1 : Nat) : Int) == (0 : Int))) && ((decide (((List.length s1.1 : Nat) : Int) > (0 : Int))) && true)) = true then (idxO s1.2.1 (0 : Int)) else some (Ty.zero t0 : D0)) fun v7 =>
    letJ (σ := (Int × (D10 × (List D0)))) (ρ := (((List D0) × ((List D0) × (List D0))) ⊕ (List D0))) (fun s8 =>
     letJ (σ := (Int × (D10 × (List D0)))) (ρ := (((List D0) × ((List D0) × (List D0))) ⊕ (List D0))) (fun s11 =>
      Option.bind (F267 s11.2.1.1 s11.2.1.2.1) fun v14 =>
      letJ (σ := (List D0)) (ρ := (((List D0) × ((List D0) × (List D0))) ⊕ (List D0))) (fun s15 =>
       turn (s11.2.2, s8.2.2, s15)) fun j15_3 =>
       if (v14 != (2 : Int)) = true then
       Option.bind (some ([(sett0_1_1 (sett0_0_1 (Ty.zero t0 : D0) s11.1) v14)] : List D0)) fun v15 =>
       Option.bind (appO 16 s1.2.2 v15) fun v16 =>
       j15_3 v16
       else
       j15_3 s1.2.2) fun j11_3 =>
      if (if (((List.length s1.2.1 : Nat) : Int) == (0 : Int)) = true then true else (if (decide (((List.length s1.1 : Nat) : Int) > (0 : Int))) = true then (decide (v6.1 ≤ v7.1)) else false)) = true then
      Option.bind (idxO s1.1 (0 : Int)) fun v11 =>
      Option.bind (idxO s1.1 (0 : Int)) fun v12 =>
      Option.bind (slcO s1.1 (1 : Int) ((List.length s1.1 : Nat) : Int)) fun v13 =>
      j11_3 (v11.1, (sett10_1_1 s8.2.1 v12.2.1), v13)
      else
      j11_3 (s8.1, s8.2.1, s1.1)) fun j8_3 =>
     if (if (((List.length s1.1 : Nat) : Int) == (0 : Int)) = true then true else (if (decide (((List.length s1.2.1 : Nat) : Int) > (0 : Int))) = true then (decide (v4.1 ≤ v5.1)) else false)) = true then
     Option.bind (idxO s1.2.1 (0 : Int)) fun v8 =>
     Option.bind (idxO s1.2.1 (0 : Int)) fun v9 =>
     Option.bind (slcO s1.2.1 (1 : Int) ((List.length s1.2.1 : Nat) : Int)) fun v10 =>
     j8_3 (v8.1, (sett10_0_1 (sett10_1_1 (sett10_0_1 (Ty.zero t10 : D10) (2 : Int)) (2 : Int)) v9.2.1), v10)
     else
     j8_3 ((0 : Int), (sett10_1_1 (sett10_0_1 (Ty.zero t10 : D10) (2 : Int)) (2 : Int)), s1.2.1)
   else
    done (j1_1 (s1.1, s1.2.1, s1.2.2))) (([] : List D0), a0, ([] : List D0))
noncomputable def L210 : Lib Go.Proofs.Tryz.prog := L267.add pm 210 [(.sl t0)] (.sl t0) (fun st => F210 st) [(304, 3, [.calm [0, 1, 2, 3, 4, 5, 6, 7, 8, 9, 10, 11, 12, 13, 14, 15, 16, 17, 18, 19]]), (304, 4, [.calm [0, 1, 2, 3, 4, 5, 6, 7, 8, 9, 10, 11, 12, 13, 14, 15, 16, 17, 18, 19]]), (304, 6, [.calm [0, 1, 2, 3, 4, 5, 6, 7, 8, 9], .bar 10]), (304, 9, [.calm [0, 1, 2, 3, 4, 5, 6, 7, 8, 9], .bar 10])] [(4, [], [[3, 2], [2, 2], [7, 1]], [], [], [([3, 2], (.sl t0))])] [] spOK_nil (fun st => by kernel_rfl)
noncomputable def F300 (a0 : D0) (a1 : Int) : Option Int :=
 Option.bind (F203 a0.1 a1) fun v2 =>
 some v2
noncomputable def L300 : Lib Go.Proofs.Tryz.prog := L210.add pm 300 [t0, (.int .u64)] (.int .i64) (fun st => F300 st.1 st.2) [] [] [] spOK_nil (fun st => by kernel_rfl)
noncomputable def F265 (a0 : (List D0)) (a1 : Int) : Option (Int × Bool) :=
 letJ (σ := Int) (ρ := (Int × Bool)) (fun s2 =>
  Option.bind (if ((decide (s2 < ((List.length a0 : Nat) : Int))) && true) = true then (idxO a0 s2) else some (Ty.zero t0 : D0)) fun v3 =>
  Option.bind (if ((decide (s2 < ((List.length a0 : Nat) : Int))) && true) = true then (F300 v3 a1) else some (0 : Int)) fun v4 =>
  some ((s2, (if (decide (s2 < ((List.length a0 : Nat) : Int))) = true then (v4 == (0 : Int)) else false)))) fun j2_1 =>
  whileO (σ := (Int × Int)) (ρ := (Int × Bool)) (fun s2 =>
   if (decide (s2.1 < s2.2)) = true then
    Option.bind (shrO .u64 (IntKind.wrap .u64 (IntKind.wrap .i64 (s2.1 + s2.2))) (1 : Int)) fun v4 =>
    Option.bind (idxO a0 (IntKind.wrap .i64 v4)) fun v5 =>
    Option.bind (F300 v5 a1) fun v6 =>
    letJ (σ := (Int × Int)) (ρ := ((Int × Int) ⊕ (Int × Bool))) (fun s7 =>
     turn (s7.1, s7.2)) fun j7_3 =>
     if (decide (v6 < (0 : Int))) = true then
     j7_3 ((IntKind.wrap .i64 ((IntKind.wrap .i64 v4) + (1 : Int))), s2.2)
     else
     j7_3 (s2.1, (IntKind.wrap .i64 v4))
   else
    done (j2_1 s2.1)) ((0 : Int), ((List.length a0 : Nat) : Int))
noncomputable def L265 : Lib Go.Proofs.Tryz.prog := L300.add pm 265 [(.sl t0), (.int .u64)] (.prod (.int .i64) .bool) (fun st => F265 st.1 st.2) [] [(2, [9, 10], [], [], [], [])] [] spOK_nil (fun st => by kernel_rfl)
noncomputable def F209 (a0 : (List D0)) (a1 : Int) : Option Int :=
 Option.bind (F265 a0 a1) fun v2 =>
 if v2.2 = true then
  Option.bind (idxO a0 v2.1) fun v3 =>
  some v3.2.1
 else
  some ((2 : Int))
noncomputable def L209 : Lib Go.Proofs.Tryz.prog := L265.add pm 209 [(.sl t0), (.int .u64)] (.int .i64) (fun st => F209 st.1 st.2) [] [] [] spOK_nil (fun st => by kernel_rfl)
noncomputable def F146 (a0 : (List D0)) (a1 : (List D0)) : Option Bool :=
 letJ (σ := Unit) (ρ := Bool) (fun s2 =>
  some true) fun j2_1 =>
  letJ (σ := D0) (ρ := Bool) (fun s2 =>
   some false) fun j2_2 =>
   whileO (σ := Int) (ρ := Bool) (fun s2 =>
    if (decide (s2 < ((List.length a0 : Nat) : Int))) = true then
     Option.bind (idxO a0 s2) fun v3 =>
     Option.bind (F210 a1) fun v4 =>
     Option.bind (F209 v4 v3.1) fun v5 =>
     if (decide (v3.2.1 > (if (decide ((2 : Int) > v5)) = true then (2 : Int) else v5))) = true then
     done (j2_2 v3)
     else
     turn (IntKind.wrap .i64 (s2 + (1 : Int)))
    else
     done (j2_1 ())) (0 : Int)
noncomputable def L146 : Lib Go.Proofs.Tryz.prog := L209.add pm 146 [(.sl t0), (.sl t0)] .bool (fun st => F146 st.1 st.2) [(146, 4, [.calm [0, 1, 2, 3, 4, 5, 6]])] [(1, [10], [], [], [], [])] [] spOK_nil (fun st => by kernel_rfl)
noncomputable def F68 (a0 : D6) : Option Int :=
 Option.bind (quoO .i64 ((List.length a0.2.2.2.2.2.2.1 : Nat) : Int) (16 : Int)) fun v1 =>
 Option.bind (remO ((List.length a0.2.2.2.2.2.2.1 : Nat) : Int) (16 : Int)) fun v2 =>
 letJ (σ := Int) (ρ := Int) (fun s3 =>
  some ((IntKind.wrap .i64 (s3 + (1 : Int))))) fun j3_1 =>
  if (decide (v2 > (0 : Int))) = true then
   j3_1 (IntKind.wrap .i64 (v1 + (1 : Int)))
  else
   j3_1 v1
noncomputable def L68 : Lib Go.Proofs.Tryz.prog := L146.add pm 68 [t6] (.int .i64) (fun st => F68 st) [] [] [] spOK_nil (fun st => by kernel_rfl)
abbrev t11 : Ty := .st (.prod t7 .unit)
abbrev D11 : Type := (D7 × Unit)
abbrev sett11_0_4 (x : D11) (y : D7) : D11 := (y, x.2)
noncomputable def F35 (a0 : D7) (a1 : D6) : Option Int :=
 Option.bind (F68 a1) fun v2 =>
 letJ (σ := Int) (ρ := Int) (fun s3 =>
  some s3) fun j3_1 =>
  whileO (σ := (Int × Int)) (ρ := Int) (fun s3 =>
   if (decide (s3.1 < ((List.length a1.2.2.2.2.2.1 : Nat) : Int))) = true then
    Option.bind (idxO a1.2.2.2.2.2.1 s3.1) fun v5 =>
    Option.bind (F69 (sett11_0_4 (Ty.zero t11 : D11) a0).1 v5) fun v6 =>
    turn ((IntKind.wrap .i64 (s3.1 + (1 : Int))), (IntKind.wrap .i64 (s3.2 + v6.1.2.2.2.1)))
   else
    done (j3_1 s3.2)) ((0 : Int), v2)
noncomputable def L35 : Lib Go.Proofs.Tryz.prog := L68.add pm 35 [t7, t6] (.int .i64) (fun st => F35 st.1 st.2) [] [(3, [9], [[5, 0]], [], [], [])] [] spOK_nil (fun st => by kernel_rfl)
noncomputable def F37 (a0 : D7) (a1 : D6) : Option Int :=
 Option.bind (F35 a0 a1) fun v2 =>
 some ((IntKind.wrap .i64 (a1.2.2.2.1 - v2)))
noncomputable def L37 : Lib Go.Proofs.Tryz.prog := L35.add pm 37 [t7, t6] (.int .i64) (fun st => F37 st.1 st.2) [(37, 1, [.calm [0, 1, 2, 3, 4, 5, 6]])] [] [] spOK_nil (fun st => by kernel_rfl)
noncomputable def F134 (a0 : Int) (a1 : Int) : Option Bool :=
 Option.bind (F204 a0) fun v2 =>
 Option.bind (if (v2 && true) = true then (F204 a1) else some false) fun v3 =>
 some ((if (if v2 = true then (!v3) else false) = true then true else (decide (a0 < a1))))
noncomputable def L134 : Lib Go.Proofs.Tryz.prog := L37.add pm 134 [(.int .u64), (.int .u64)] .bool (fun st => F134 st.1 st.2) [] [] [] spOK_nil (fun st => by kernel_rfl)
noncomputable def F135 (a0 : Int) : Option Bool :=
 some ((a0 != a0))
noncomputable def L135 : Lib Go.Proofs.Tryz.prog := L134.add pm 135 [(.int .u64)] .bool (fun st => F135 st) [] [] [] spOK_nil (fun st => by kernel_rfl)
noncomputable def F70 (a0 : (List Int)) (a1 : Int) : Option (Int × Bool) :=
 letJ (σ := Int) (ρ := (Int × Bool)) (fun s2 =>
  Option.bind (if ((decide (s2 < ((List.length a0 : Nat) : Int))) && true) = true then (idxO a0 s2) else some (0 : Int)) fun v3 =>
  Option.bind (if ((decide (s2 < ((List.length a0 : Nat) : Int))) && ((!(v3 == a1)) && true)) = true then (idxO a0 s2) else some (0 : Int)) fun v4 =>
  Option.bind (if ((decide (s2 < ((List.length a0 : Nat) : Int))) && ((!(v3 == a1)) && true)) = true then (F135 v4) else some false) fun v5 =>
  Option.bind (if ((decide (s2 < ((List.length a0 : Nat) : Int))) && ((!(v3 == a1)) && (v5 && true))) = true then (F135 a1) else some false) fun v6 =>
  some ((s2, (if (decide (s2 < ((List.length a0 : Nat) : Int))) = true then (if (v3 == a1) = true then true else (if v5 = true then v6 else false)) else false)))) fun j2_1 =>
  whileO (σ := (Int × Int)) (ρ := (Int × Bool)) (fun s2 =>
   if (decide (s2.1 < s2.2)) = true then
    Option.bind (shrO .u64 (IntKind.wrap .u64 (IntKind.wrap .i64 (s2.1 + s2.2))) (1 : Int)) fun v4 =>
    Option.bind (idxO a0 (IntKind.wrap .i64 v4)) fun v5 =>
    Option.bind (F134 v5 a1) fun v6 =>
    letJ (σ := (Int × Int)) (ρ := ((Int × Int) ⊕ (Int × Bool))) (fun s7 =>
     turn (s7.1, s7.2)) fun j7_3 =>
     if v6 = true then
     j7_3 ((IntKind.wrap .i64 ((IntKind.wrap .i64 v4) + (1 : Int))), s2.2)
     else
     j7_3 (s2.1, (IntKind.wrap .i64 v4))
   else
    done (j2_1 s2.1)) ((0 : Int), ((List.length a0 : Nat) : Int))
noncomputable def L70 : Lib Go.Proofs.Tryz.prog := L135.add pm 70 [(.sl (.int .u64)), (.int .u64)] (.prod (.int .i64) .bool) (fun st => F70 st.1 st.2) [] [(1, [7, 8], [], [], [], [])] [] spOK_nil (fun st => by kernel_rfl)
noncomputable def F118 (a0 : D11) (a1 : D6) (a2 : D6) : Option (D6 × Int) :=
 Option.bind (F146 a1.2.2.1 a2.2.2.1) fun v3 =>
 letJ (σ := Int) (ρ := (D6 × Int)) (fun s4 =>
  some ((a1, s4))) fun j4_1 =>
  if (!v3) = true then
   j4_1 (2 : Int)
  else
   letJ (σ := Int) (ρ := (D6 × Int)) (fun s4 =>
    j4_1 s4) fun j4_2 =>
    if (decide (((List.length a1.2.2.2.2.2.1 : Nat) : Int) ≥ (64 : Int))) = true then
    j4_2 (6 : Int)
    else
    Option.bind (F37 a0.1 a1) fun v4 =>
    if (if (decide (a2.2.2.2.1 > v4)) = true then true else (decide (((List.length a2.2.2.2.2.2.1 : Nat) : Int) > (0 : Int)))) = true then
     j4_2 (5 : Int)
    else
     Option.bind (F70 a1.2.2.2.2.2.1 a2.1) fun v5 =>
     Option.bind (some ([a2.1] : List Int)) fun v6 =>
     Option.bind (appO 8 ([] : List Int) a1.2.2.2.2.2.1) fun v7 =>
     Option.bind (insO 8 v7 v5.1 v6) fun v8 =>
     some (((sett6_5_1 a1 v8), (0 : Int)))
noncomputable def L118 : Lib Go.Proofs.Tryz.prog := L70.add pm 118 [t11, t6, t6] (.prod t6 (.int .i64)) (fun st => F118 st.1 st.2.1 st.2.2) [(302, 3, [.calm [0, 1, 2, 3, 4, 5, 6, 7, 8, 9, 10, 11, 12, 13, 14, 15]]), (183, 11, [.calm [0, 1, 2, 3, 4, 5, 6, 7], .bar 8]), (183, 15, [.calm [0, 1, 2, 3, 4, 5, 6, 7], .bar 8]), (118, 5, [.calm [0, 1, 2, 3, 4, 5, 6, 7, 8, 9, 10, 11, 12, 13]]), (118, 8, [.make [0, 1, 3, 4, 5, 6] 2, .bar 7, .calm [8], .bar 9])] [] [(73, .clo 32 22), (183, .ins 32 22 3)] (spOK_cons (Go.InsK.clo73_ok) (spOK_cons (Go.InsK.ins183_ok) spOK_nil)) (fun st => by kernel_rfl)
abbrev sett7_3_1 (x : D7) (y : (List D6)) : D7 := (x.1, (x.2.1, (x.2.2.1, (y, x.2.2.2.2))))
noncomputable def F74 (a0 : D7) (a1 : D6) : Option D7 :=
 Option.bind (F132 a0) fun v2 =>
 letJ (σ := (List D6)) (ρ := D7) (fun s3 =>
  letJ (σ := D7) (ρ := D7) (fun s4 =>
   some s4) fun j4_1 =>
   if (decide (((List.length s3 : Nat) : Int) ≤ (1024 : Int))) = true then
    j4_1 (sett7_3_1 a0 s3)
   else
    j4_1 a0) fun j3_1 =>
  Option.bind (F145 a1) fun v3 =>
  letJ (σ := (Int × Bool)) (ρ := D7) (fun s4 =>
   Option.bind (appO 632 ([] : List D6) v2.1) fun v6 =>
   if s4.2 = true then
    Option.bind (idxO v6 s4.1) fun v7 =>
    Option.bind (lsetO v6 s4.1 a1) fun v8 =>
    j3_1 v8
   else
    Option.bind (some ([a1] : List D6)) fun v7 =>
    Option.bind (insO 632 v6 s4.1 v7) fun v8 =>
    j3_1 v8) fun j4_2 =>
   letJ (σ := Int) (ρ := D7) (fun s4 =>
    Option.bind (if ((decide (s4 < ((List.length v2.1 : Nat) : Int))) && true) = true then (idxO v2.1 s4) else some (Ty.zero t6 : D6)) fun v5 =>
    if (decide (s4 < ((List.length v2.1 : Nat) : Int))) = true then
     Option.bind (F145 v5) fun v6 =>
     Option.bind (F203 v6 v3) fun v7 =>
     j4_2 (s4, (v7 == (0 : Int)))
    else
     j4_2 (s4, false)) fun j4_3 =>
    whileO (σ := (Int × Int)) (ρ := D7) (fun s4 =>
     if (decide (s4.1 < s4.2)) = true then
      Option.bind (shrO .u64 (IntKind.wrap .u64 (IntKind.wrap .i64 (s4.1 + s4.2))) (1 : Int)) fun v6 =>
      Option.bind (idxO v2.1 (IntKind.wrap .i64 v6)) fun v7 =>
      Option.bind (F145 v7) fun v8 =>
      Option.bind (F203 v8 v3) fun v9 =>
      letJ (σ := (Int × Int)) (ρ := ((Int × Int) ⊕ D7)) (fun s10 =>
       turn (s10.1, s10.2)) fun j10_5 =>
       if (decide (v9 < (0 : Int))) = true then
       j10_5 ((IntKind.wrap .i64 ((IntKind.wrap .i64 v6) + (1 : Int))), s4.2)
       else
       j10_5 (s4.1, (IntKind.wrap .i64 v6))
     else
      done (j4_3 s4.1)) ((0 : Int), ((List.length v2.1 : Nat) : Int))
noncomputable def L74 : Lib Go.Proofs.Tryz.prog := L118.add pm 74 [t7, t6] t7 (fun st => F74 st.1 st.2) [(306, 3, [.calm [0, 1, 2, 3, 4, 5, 6, 7, 8, 9, 10, 11, 12, 13, 14, 15]]), (205, 11, [.calm [0, 1, 2, 3, 4, 5, 6, 7], .bar 8]), (205, 15, [.calm [0, 1, 2, 3, 4, 5, 6, 7], .bar 8]), (136, 1, [.calm [0, 1, 2, 3, 4], .bar 5, .calm [6, 7, 8, 9, 10]]), (74, 1, [.calm [0, 1, 2], .bar 3, .calm [4]])] [(4, [9, 10], [], [], [], [])] [(171, .clo 23 58), (205, .ins 23 58 3)] (spOK_cons (Go.InsK.clo171_ok) (spOK_cons (Go.InsK.ins205_ok) spOK_nil)) (fun st => by kernel_rfl)
noncomputable def F51 (a0 : D7) (a1 : Int) (a2 : D6) : Option (D7 × Int) :=
 Option.bind (F69 a0 a1) fun v3 =>
 letJ (σ := Int) (ρ := (D7 × Int)) (fun s4 =>
  some ((a0, s4))) fun j4_1 =>
  if (!v3.2) = true then
   j4_1 (1 : Int)
  else
   if (v3.1.2.1 != (2 : Int)) = true then
   j4_1 (3 : Int)
   else
   Option.bind (F69 a0 a2.1) fun v4 =>
   if v4.2 = true then
    some ((a0, (12 : Int)))
   else
    Option.bind (F118 (sett11_0_4 (Ty.zero t11 : D11) a0) v3.1 a2) fun v5 =>
    if (v5.2 != (0 : Int)) = true then
    some ((a0, v5.2))
    else
    Option.bind (F74 a0 a2) fun v6 =>
    Option.bind (F74 v6 v5.1) fun v7 =>
    some ((v7, (0 : Int)))
noncomputable def L51 : Lib Go.Proofs.Tryz.prog := L74.add pm 51 [t7, (.int .u64), t6] (.prod t7 (.int .i64)) (fun st => F51 st.1 st.2.1 st.2.2) [(51, 12, [.calm [0, 1, 2, 3, 4], .bar 5, .calm [6]])] [] [] spOK_nil (fun st => by kernel_rfl)
noncomputable def F186 (a0 : Int) : Option Bool :=
 some ((if (decide (a0 > (0 : Int))) = true then (decide (a0 ≤ (2305843009213693952 : Int))) else false))
noncomputable def L186 : Lib Go.Proofs.Tryz.prog := L51.add pm 186 [(.int .u64)] .bool (fun st => F186 st) [] [] [] spOK_nil (fun st => by kernel_rfl)
noncomputable def F232 (a0 : D0) : Option Bool :=
 some ((a0.2.1 == (5 : Int)))
noncomputable def L232 : Lib Go.Proofs.Tryz.prog := L186.add pm 232 [t0] .bool (fun st => F232 st) [] [] [] spOK_nil (fun st => by kernel_rfl)
noncomputable def F233 (a0 : (List D0)) : Option Bool :=
 letJ (σ := Unit) (ρ := Bool) (fun s1 =>
  some true) fun j1_1 =>
  letJ (σ := D0) (ρ := Bool) (fun s1 =>
   some false) fun j1_2 =>
   whileO (σ := Int) (ρ := Bool) (fun s1 =>
    if (decide (s1 < ((List.length a0 : Nat) : Int))) = true then
     Option.bind (idxO a0 s1) fun v2 =>
     Option.bind (F278 v2.2.1) fun v3 =>
     Option.bind (if ((!(if (!v3) = true then true else (v2.2.1 == (2 : Int)))) && ((decide (s1 > (0 : Int))) && true)) = true then (idxO a0 (IntKind.wrap .i64 (s1 - (1 : Int)))) else some (Ty.zero t0 : D0)) fun v4 =>
     if (if (if (!v3) = true then true else (v2.2.1 == (2 : Int))) = true then true else (if (decide (s1 > (0 : Int))) = true then (decide (v4.1 ≥ v2.1)) else false)) = true then
     done (j1_2 v2)
     else
     turn (IntKind.wrap .i64 (s1 + (1 : Int)))
    else
     done (j1_1 ())) (0 : Int)
noncomputable def L233 : Lib Go.Proofs.Tryz.prog := L232.add pm 233 [(.sl t0)] .bool (fun st => F233 st) [(233, 4, [.calm [0, 1, 2, 3, 4, 5, 6, 7, 8, 9, 10, 11, 12, 13, 14, 15, 16, 17, 18, 19, 20, 21, 22, 23]])] [(1, [7], [], [], [], [])] [] spOK_nil (fun st => by kernel_rfl)
noncomputable def F187 (a0 : (List D0)) : Option Bool :=
 Option.bind (F233 a0) fun v1 =>
 if (if v1 = true then (decide (((List.length a0 : Nat) : Int) ≤ (16 : Int))) else false) = true then
  letJ (σ := Int) (ρ := Bool) (fun s2 =>
   some ((!(decide (s2 ≥ (0 : Int)))))) fun j2_1 =>
   letJ (σ := Unit) (ρ := Bool) (fun s2 =>
    j2_1 (-1 : Int)) fun j2_2 =>
    letJ (σ := Int) (ρ := Bool) (fun s2 =>
     j2_1 s2) fun j2_3 =>
     whileO (σ := Int) (ρ := Bool) (fun s2 =>
      if (decide (s2 < ((List.length a0 : Nat) : Int))) = true then
      Option.bind (idxO a0 s2) fun v3 =>
      Option.bind (F232 v3) fun v4 =>
      if v4 = true then
       done (j2_3 s2)
      else
       turn (IntKind.wrap .i64 (s2 + (1 : Int)))
      else
      done (j2_2 ())) (0 : Int)
 else
  some false
noncomputable def L187 : Lib Go.Proofs.Tryz.prog := L233.add pm 187 [(.sl t0)] .bool (fun st => F187 st) [] [(3, [8], [], [], [], [])] [] spOK_nil (fun st => by kernel_rfl)
noncomputable def F188 (a0 : (List D0)) : Option (List Int) :=
 letJ (σ := (List Int)) (ρ := (List Int)) (fun s1 =>
  some s1) fun j1_1 =>
  whileO (σ := ((List Int) × Int)) (ρ := (List Int)) (fun s1 =>
   if (decide (s1.2 < ((List.length a0 : Nat) : Int))) = true then
    Option.bind (idxO a0 s1.2) fun v3 =>
    letJ (σ := (List Int)) (ρ := (((List Int) × Int) ⊕ (List Int))) (fun s4 =>
     turn (s4, (IntKind.wrap .i64 (s1.2 + (1 : Int))))) fun j4_3 =>
     if (v3.2.1 == (0 : Int)) = true then
     Option.bind (some ([v3.1] : List Int)) fun v4 =>
     Option.bind (appO 8 s1.1 v4) fun v5 =>
     j4_3 v5
     else
     j4_3 s1.1
   else
    done (j1_1 s1.1)) (([] : List Int), (0 : Int))
noncomputable def L188 : Lib Go.Proofs.Tryz.prog := L187.add pm 188 [(.sl t0)] (.sl (.int .u64)) (fun st => F188 st) [] [(1, [3, 8], [], [], [], [])] [] spOK_nil (fun st => by kernel_rfl)
noncomputable def F189 (a0 : D6) : Option D6 :=
 letJ (σ := D6) (ρ := D6) (fun s1 =>
  some s1) fun j1_1 =>
  if (a0.2.1 == (1 : Int)) = true then
   j1_1 (sett6_6_1 a0 ([] : List Int))
  else
   letJ (σ := D6) (ρ := D6) (fun s1 =>
    j1_1 s1) fun j1_2 =>
    if (a0.2.1 == (2 : Int)) = true then
    j1_2 (sett6_5_1 a0 ([] : List Int))
    else
    letJ (σ := D6) (ρ := D6) (fun s1 =>
     j1_2 s1) fun j1_3 =>
     if (a0.2.1 == (3 : Int)) = true then
      j1_3 (sett6_7_1 a0 ([] : List D1))
     else
      letJ (σ := D6) (ρ := D6) (fun s1 =>
       j1_3 s1) fun j1_4 =>
       if (a0.2.1 == (4 : Int)) = true then
       j1_4 (sett6_8_35 a0 (Ty.zero t4 : D4))
       else
       letJ (σ := D6) (ρ := D6) (fun s1 =>
        j1_4 s1) fun j1_5 =>
        if (a0.2.1 == (5 : Int)) = true then
         j1_5 (sett6_43_6 a0 (Ty.zero t5 : D5))
        else
         letJ (σ := D6) (ρ := D6) (fun s1 =>
          j1_5 s1) fun j1_6 =>
          if (a0.2.1 == (6 : Int)) = true then
          j1_6 (sett6_49_1 (sett6_50_1 a0 ([] : List Int)) ([] : List Int))
          else
          j1_6 a0
noncomputable def L189 : Lib Go.Proofs.Tryz.prog := L188.add pm 189 [t6] t6 (fun st => F189 st) [] [] [] spOK_nil (fun st => by kernel_rfl)
noncomputable def F274 (a0 : (List D0)) (a1 : (List D0)) : Option Bool :=
 if (((List.length a0 : Nat) : Int) != ((List.length a1 : Nat) : Int)) = true then
  some false
 else
  letJ (σ := Unit) (ρ := Bool) (fun s2 =>
   some true) fun j2_1 =>
   letJ (σ := Unit) (ρ := Bool) (fun s2 =>
    some false) fun j2_2 =>
    whileO (σ := Int) (ρ := Bool) (fun s2 =>
     if (decide (s2 < ((List.length a0 : Nat) : Int))) = true then
     Option.bind (idxO a0 s2) fun v3 =>
     Option.bind (idxO a1 s2) fun v4 =>
     if (!(eqK (.prod (.int .u64) (.prod (.int .i64) .unit)) v3 v4)) = true then
      done (j2_2 ())
     else
      turn (IntKind.wrap .i64 (s2 + (1 : Int)))
     else
     done (j2_1 ())) (0 : Int)
noncomputable def L274 : Lib Go.Proofs.Tryz.prog := L189.add pm 274 [(.sl t0), (.sl t0)] .bool (fun st => F274 st.1 st.2) [(274, 6, [.calm [0, 1, 2, 3, 4, 5, 6, 7, 8]])] [(1, [13], [], [], [], [])] [] spOK_nil (fun st => by kernel_rfl)
noncomputable def F224 (a0 : (List D0)) (a1 : (List D0)) : Option Bool :=
 Option.bind (F274 a0 a1) fun v2 =>
 some v2
noncomputable def L224 : Lib Go.Proofs.Tryz.prog := L274.add pm 224 [(.sl t0), (.sl t0)] .bool (fun st => F224 st.1 st.2) [] [] [] spOK_nil (fun st => by kernel_rfl)
noncomputable def F225 (a0 : (List Int)) (a1 : (List Int)) : Option Bool :=
 if (((List.length a0 : Nat) : Int) != ((List.length a1 : Nat) : Int)) = true then
  some false
 else
  letJ (σ := Unit) (ρ := Bool) (fun s2 =>
   some true) fun j2_1 =>
   letJ (σ := Unit) (ρ := Bool) (fun s2 =>
    some false) fun j2_2 =>
    whileO (σ := Int) (ρ := Bool) (fun s2 =>
     if (decide (s2 < ((List.length a0 : Nat) : Int))) = true then
     Option.bind (idxO a0 s2) fun v3 =>
     Option.bind (idxO a1 s2) fun v4 =>
     if (v3 != v4) = true then
      done (j2_2 ())
     else
      turn (IntKind.wrap .i64 (s2 + (1 : Int)))
     else
     done (j2_1 ())) (0 : Int)
noncomputable def L225 : Lib Go.Proofs.Tryz.prog := L224.add pm 225 [(.sl (.int .u64)), (.sl (.int .u64))] .bool (fun st => F225 st.1 st.2) [(225, 6, [.calm [0, 1, 2, 3, 4, 5, 6, 7, 8]])] [(1, [13], [], [], [], [])] [] spOK_nil (fun st => by kernel_rfl)
noncomputable def F275 (a0 : (List D1)) (a1 : (List D1)) : Option Bool :=
 if (((List.length a0 : Nat) : Int) != ((List.length a1 : Nat) : Int)) = true then
  some false
 else
  letJ (σ := Unit) (ρ := Bool) (fun s2 =>
   some true) fun j2_1 =>
   letJ (σ := Unit) (ρ := Bool) (fun s2 =>
    some false) fun j2_2 =>
    whileO (σ := Int) (ρ := Bool) (fun s2 =>
     if (decide (s2 < ((List.length a0 : Nat) : Int))) = true then
     Option.bind (idxO a0 s2) fun v3 =>
     Option.bind (idxO a1 s2) fun v4 =>
     if (!(eqK (.prod (.int .i64) (.prod (.int .i64) (.prod (.int .u64) (.prod (.int .u64) (.prod (.int .i64) (.prod .bool .unit)))))) v3 v4)) = true then
      done (j2_2 ())
     else
      turn (IntKind.wrap .i64 (s2 + (1 : Int)))
     else
     done (j2_1 ())) (0 : Int)
noncomputable def L275 : Lib Go.Proofs.Tryz.prog := L225.add pm 275 [(.sl t1), (.sl t1)] .bool (fun st => F275 st.1 st.2) [(275, 6, [.calm [0, 1, 2, 3, 4, 5, 6, 7, 8]])] [(1, [13], [], [], [], [])] [] spOK_nil (fun st => by kernel_rfl)
noncomputable def F226 (a0 : (List D1)) (a1 : (List D1)) : Option Bool :=
 Option.bind (F275 a0 a1) fun v2 =>
 some v2
noncomputable def L226 : Lib Go.Proofs.Tryz.prog := L275.add pm 226 [(.sl t1), (.sl t1)] .bool (fun st => F226 st.1 st.2) [] [] [] spOK_nil (fun st => by kernel_rfl)
noncomputable def F227 (a0 : D4) (a1 : D4) : Option Bool :=
 letJ (σ := Unit) (ρ := Bool) (fun s2 =>
  letV ((if (if (if (eqK (.arr 16 (.int .u64)) a0.1 a1.1) = true then (a0.2.1 == a1.2.1) else false) = true then (eqK (.prod (.int .u64) (.prod (.int .u64) .unit)) a0.2.2.2.1 a1.2.2.2.1) else false) = true then (a0.2.2.2.2.1 == a1.2.2.2.2.1) else false)) fun v2 =>
  letV ((if (if (if (if v2 = true then (a0.2.2.2.2.2.1 == a1.2.2.2.2.2.1) else false) = true then (a0.2.2.2.2.2.2.1 == a1.2.2.2.2.2.2.1) else false) = true then (eqK (.prod t2 (.prod (.int .u64) (.prod (.int .u64) (.prod .bool .unit)))) a0.2.2.2.2.2.2.2.1 a1.2.2.2.2.2.2.2.1) else false) = true then (eqK (.prod (.int .u64) (.prod (.int .u64) .unit)) a0.2.2.2.2.2.2.2.2.2.1 a1.2.2.2.2.2.2.2.2.2.1) else false)) fun v3 =>
  Option.bind (if (v3 && true) = true then (F224 a0.2.2.1 a1.2.2.1) else some false) fun v4 =>
  Option.bind (if ((if v3 = true then v4 else false) && true) = true then (F225 a0.2.2.2.2.2.2.2.2.1 a1.2.2.2.2.2.2.2.2.1) else some false) fun v5 =>
  some ((if (if v3 = true then v4 else false) = true then v5 else false))) fun j2_1 =>
  letJ (σ := Unit) (ρ := Bool) (fun s2 =>
   some false) fun j2_2 =>
   whileO (σ := Int) (ρ := Bool) (fun s2 =>
    if (decide (s2 < (4 : Int))) = true then
     Option.bind (guardO (if (decide ((0 : Int) ≤ s2)) = true then (decide (s2 < (4 : Int))) else false)) fun v3 =>
     Option.bind (aidxO a0.2.2.2.2.2.2.2.2.2.2.1 s2) fun v4 =>
     Option.bind (guardO (if (decide ((0 : Int) ≤ s2)) = true then (decide (s2 < (4 : Int))) else false)) fun v5 =>
     Option.bind (aidxO a1.2.2.2.2.2.2.2.2.2.2.1 s2) fun v6 =>
     Option.bind (F224 v4 v6) fun v7 =>
     if (!v7) = true then
     done (j2_2 ())
     else
     turn (IntKind.wrap .i64 (s2 + (1 : Int)))
    else
     done (j2_1 ())) (0 : Int)
noncomputable def L227 : Lib Go.Proofs.Tryz.prog := L226.add pm 227 [t4, t4] .bool (fun st => F227 st.1 st.2) [(227, 4, [.calm [0, 1, 2, 3, 4, 5, 6, 7, 8, 9]])] [(1, [7], [], [], [], [])] [] spOK_nil (fun st => by kernel_rfl)
noncomputable def F228 (a0 : D5) (a1 : D5) : Option Bool :=
 Option.bind (F224 a0.1 a1.1) fun v2 =>
 Option.bind (if (v2 && true) = true then (F224 a0.2.1 a1.2.1) else some false) fun v3 =>
 letV ((if (if (if (if v2 = true then v3 else false) = true then (eqK (.prod (.int .u64) (.prod (.int .u64) .unit)) a0.2.2.1 a1.2.2.1) else false) = true then (a0.2.2.2.1 == a1.2.2.2.1) else false) = true then (a0.2.2.2.2.1 == a1.2.2.2.2.1) else false)) fun v4 =>
 some v4
noncomputable def L228 : Lib Go.Proofs.Tryz.prog := L227.add pm 228 [t5, t5] .bool (fun st => F228 st.1 st.2) [] [] [] spOK_nil (fun st => by kernel_rfl)
noncomputable def F181 (a0 : D6) (a1 : D6) : Option Bool :=
 letV ((if (if (if (a0.1 == a1.1) = true then (a0.2.1 == a1.2.1) else false) = true then (a0.2.2.2.1 == a1.2.2.2.1) else false) = true then (a0.2.2.2.2.1 == a1.2.2.2.2.1) else false)) fun v2 =>
 Option.bind (if (v2 && true) = true then (F224 a0.2.2.1 a1.2.2.1) else some false) fun v3 =>
 Option.bind (F225 a0.2.2.2.2.2.1 a1.2.2.2.2.2.1) fun v4 =>
 Option.bind (if (v4 && true) = true then (F225 a0.2.2.2.2.2.2.1 a1.2.2.2.2.2.2.1) else some false) fun v5 =>
 Option.bind (if ((if v4 = true then v5 else false) && true) = true then (F225 a0.2.2.2.2.2.2.2.2.2.2.1 a1.2.2.2.2.2.2.2.2.2.2.1) else some false) fun v6 =>
 Option.bind (if ((if (if v4 = true then v5 else false) = true then v6 else false) && true) = true then (F225 a0.2.2.2.2.2.2.2.2.2.2.2.1 a1.2.2.2.2.2.2.2.2.2.2.2.1) else some false) fun v7 =>
 Option.bind (if ((if (if v2 = true then v3 else false) = true then (if (if (if v4 = true then v5 else false) = true then v6 else false) = true then v7 else false) else false) && true) = true then (F226 a0.2.2.2.2.2.2.2.1 a1.2.2.2.2.2.2.2.1) else some false) fun v8 =>
 Option.bind (if ((if (if (if v2 = true then v3 else false) = true then (if (if (if v4 = true then v5 else false) = true then v6 else false) = true then v7 else false) else false) = true then v8 else false) && true) = true then (F227 a0.2.2.2.2.2.2.2.2.1 a1.2.2.2.2.2.2.2.2.1) else some false) fun v9 =>
 Option.bind (if ((if (if (if (if v2 = true then v3 else false) = true then (if (if (if v4 = true then v5 else false) = true then v6 else false) = true then v7 else false) else false) = true then v8 else false) = true then v9 else false) && true) = true then (F228 a0.2.2.2.2.2.2.2.2.2.1 a1.2.2.2.2.2.2.2.2.2.1) else some false) fun v10 =>
 letV ((if (if (if (if (if v2 = true then v3 else false) = true then (if (if (if v4 = true then v5 else false) = true then v6 else false) = true then v7 else false) else false) = true then v8 else false) = true then v9 else false) = true then v10 else false)) fun v11 =>
 some v11
noncomputable def L181 : Lib Go.Proofs.Tryz.prog := L228.add pm 181 [t6, t6] .bool (fun st => F181 st.1 st.2) [] [] [] spOK_nil (fun st => by kernel_rfl)
noncomputable def F236 (a0 : Int) : Option Int :=
 some a0
noncomputable def L236 : Lib Go.Proofs.Tryz.prog := L181.add pm 236 [(.int .u64)] (.int .u64) (fun st => F236 st) [] [] [] spOK_nil (fun st => by kernel_rfl)
noncomputable def F238 (a0 : Int) : Option Bool :=
 Option.bind (F186 a0) fun v1 =>
 some (!v1)
noncomputable def L238 : Lib Go.Proofs.Tryz.prog := L236.add pm 238 [(.int .u64)] .bool (fun st => F238 st) [] [] [] spOK_nil (fun st => by kernel_rfl)
noncomputable def F303 (a0 : Int) (a1 : Int) : Option Bool :=
 some ((if (if (if (decide (a0 ≥ (0 : Int))) = true then (decide (a0 < (1048576 : Int))) else false) = true then (decide (a1 ≥ (1 : Int))) else false) = true then (decide (a1 ≤ (IntKind.wrap .i64 ((1048576 : Int) - a0)))) else false))
noncomputable def L303 : Lib Go.Proofs.Tryz.prog := L238.add pm 303 [(.int .i64), (.int .i64)] .bool (fun st => F303 st.1 st.2) [] [] [] spOK_nil (fun st => by kernel_rfl)
noncomputable def F281 (a0 : D1) : Option Bool :=
 Option.bind (F303 a0.1 a0.2.1) fun v1 =>
 Option.bind (if (v1 && true) = true then (F303 a0.2.2.2.2.1 a0.2.1) else some false) fun v2 =>
 some ((if v1 = true then v2 else false))
noncomputable def L281 : Lib Go.Proofs.Tryz.prog := L303.add pm 281 [t1] .bool (fun st => F281 st) [] [] [] spOK_nil (fun st => by kernel_rfl)
noncomputable def F282 (a0 : D1) : Option Int :=
 some ((IntKind.wrap .i64 (a0.1 + a0.2.1)))
noncomputable def L282 : Lib Go.Proofs.Tryz.prog := L281.add pm 282 [t1] (.int .i64) (fun st => F282 st) [] [] [] spOK_nil (fun st => by kernel_rfl)
noncomputable def F239 (a0 : (List D1)) : Option Bool :=
 letJ (σ := Unit) (ρ := Bool) (fun s1 =>
  some ((decide (((List.length a0 : Nat) : Int) ≤ (16 : Int))))) fun j1_1 =>
  letJ (σ := D1) (ρ := Bool) (fun s1 =>
   some false) fun j1_2 =>
   whileO (σ := Int) (ρ := Bool) (fun s1 =>
    if (decide (s1 < ((List.length a0 : Nat) : Int))) = true then
     Option.bind (idxO a0 s1) fun v2 =>
     Option.bind (F281 v2) fun v3 =>
     Option.bind (if ((!(!v3)) && ((decide (s1 > (0 : Int))) && true)) = true then (idxO a0 (IntKind.wrap .i64 (s1 - (1 : Int)))) else some (Ty.zero t1 : D1)) fun v4 =>
     Option.bind (if ((!(!v3)) && ((decide (s1 > (0 : Int))) && true)) = true then (F282 v4) else some (0 : Int)) fun v5 =>
     if (if (!v3) = true then true else (if (decide (s1 > (0 : Int))) = true then (decide (v5 > v2.1)) else false)) = true then
     done (j1_2 v2)
     else
     turn (IntKind.wrap .i64 (s1 + (1 : Int)))
    else
     done (j1_1 ())) (0 : Int)
noncomputable def L239 : Lib Go.Proofs.Tryz.prog := L282.add pm 239 [(.sl t1)] .bool (fun st => F239 st) [(239, 4, [.calm [0, 1, 2, 3, 4, 5, 6, 7, 8, 9, 10, 11, 12, 13, 14, 15, 16, 17]])] [(1, [7], [], [], [], [])] [] spOK_nil (fun st => by kernel_rfl)
noncomputable def F285 (a0 : Int) (a1 : Int) : Option Bool :=
 Option.bind (F301 a0) fun v2 =>
 Option.bind (F301 a1) fun v3 =>
 some ((decide (v2 ≤ v3)))
noncomputable def L285 : Lib Go.Proofs.Tryz.prog := L239.add pm 285 [(.int .i64), (.int .i64)] .bool (fun st => F285 st.1 st.2) [] [] [] spOK_nil (fun st => by kernel_rfl)
noncomputable def F241 (a0 : (List D0)) (a1 : (List D0)) : Option Bool :=
 letJ (σ := ((List D0) × (List D0))) (ρ := Bool) (fun s2 =>
  some true) fun j2_1 =>
  letJ (σ := (D10 × (D10 × ((List D0) × (List D0))))) (ρ := Bool) (fun s2 =>
   some false) fun j2_2 =>
   whileO (σ := ((List D0) × (List D0))) (ρ := Bool) (fun s2 =>
    if (decide ((IntKind.wrap .i64 (((List.length s2.2 : Nat) : Int) + ((List.length s2.1 : Nat) : Int))) > (0 : Int))) = true then
     Option.bind (if ((!(((List.length s2.1 : Nat) : Int) == (0 : Int))) && ((decide (((List.length s2.2 : Nat) : Int) > (0 : Int))) && true)) = true then (idxO s2.2 (0 : Int)) else some (Ty.zero t0 : D0)) fun v4 =>
     Option.bind (if ((!(((List.length s2.1 : Nat) : Int) == (0 : Int))) && ((decide (((List.length s2.2 : Nat) : Int) > (0 : Int))) && true)) = true then (idxO s2.1 (0 : Int)) else some (Ty.zero t0 : D0)) fun v5 =>
     Option.bind (if ((!(((List.length s2.2 : Nat) : Int) == (0 : Int))) && ((decide (((List.length s2.1 : Nat) : Int) > (0 : Int))) && true)) = true then (idxO s2.1 (0 : Int)) else some (Ty.zero t0 : D0)) fun v6 =>
     Option.bind (if ((!(((List.length s2.2 : Nat) : Int) == (0 : Int))) && ((decide (((List.length s2.1 : Nat) : Int) > (0 : Int))) && true)) = true then (idxO s2.2 (0 : Int)) else some (Ty.zero t0 : D0)) fun v7 =>
     letJ (σ := (Int × (D10 × (List D0)))) (ρ := (((List D0) × (List D0)) ⊕ Bool)) (fun s8 =>
      letJ (σ := (Int × (D10 × (List D0)))) (ρ := (((List D0) × (List D0)) ⊕ Bool)) (fun s11 =>
       Option.bind (F285 s11.2.1.1 s11.2.1.2.1) fun v14 =>
       if (!v14) = true then
       done (j2_2 (s11.2.1, s11.2.1, s11.2.2, s8.2.2))
       else
       turn (s11.2.2, s8.2.2)) fun j11_4 =>
       if (if (((List.length s2.2 : Nat) : Int) == (0 : Int)) = true then true else (if (decide (((List.length s2.1 : Nat) : Int) > (0 : Int))) = true then (decide (v6.1 ≤ v7.1)) else false)) = true then
       Option.bind (idxO s2.1 (0 : Int)) fun v11 =>
       Option.bind (idxO s2.1 (0 : Int)) fun v12 =>
       Option.bind (slcO s2.1 (1 : Int) ((List.length s2.1 : Nat) : Int)) fun v13 =>
       j11_4 (v11.1, (sett10_1_1 s8.2.1 v12.2.1), v13)
       else
       j11_4 (s8.1, s8.2.1, s2.1)) fun j8_4 =>
      if (if (((List.length s2.1 : Nat) : Int) == (0 : Int)) = true then true else (if (decide (((List.length s2.2 : Nat) : Int) > (0 : Int))) = true then (decide (v4.1 ≤ v5.1)) else false)) = true then
      Option.bind (idxO s2.2 (0 : Int)) fun v8 =>
      Option.bind (idxO s2.2 (0 : Int)) fun v9 =>
      Option.bind (slcO s2.2 (1 : Int) ((List.length s2.2 : Nat) : Int)) fun v10 =>
      j8_4 (v8.1, (sett10_0_1 (sett10_1_1 (sett10_0_1 (Ty.zero t10 : D10) (2 : Int)) (2 : Int)) v9.2.1), v10)
      else
      j8_4 ((0 : Int), (sett10_1_1 (sett10_0_1 (Ty.zero t10 : D10) (2 : Int)) (2 : Int)), s2.2)
    else
     done (j2_1 (s2.1, s2.2))) (a1, a0)
noncomputable def L241 : Lib Go.Proofs.Tryz.prog := L285.add pm 241 [(.sl t0), (.sl t0)] .bool (fun st => F241 st.1 st.2) [(304, 3, [.calm [0, 1, 2, 3, 4, 5, 6, 7, 8, 9, 10, 11, 12, 13, 14, 15, 16, 17, 18, 19]]), (304, 4, [.calm [0, 1, 2, 3, 4, 5, 6, 7, 8, 9, 10, 11, 12, 13, 14, 15, 16, 17, 18, 19]]), (304, 6, [.calm [0, 1, 2, 3, 4, 5, 6, 7, 8, 9], .bar 10]), (304, 9, [.calm [0, 1, 2, 3, 4, 5, 6, 7, 8, 9], .bar 10])] [(3, [], [[3, 1], [2, 1]], [], [], [])] [] spOK_nil (fun st => by kernel_rfl)
noncomputable def F283 (a0 : D2) : Option Bool :=
 some ((if (decide (a0.1 ≤ a0.2.1)) = true then (decide (a0.2.1 ≤ (2305843009213693952 : Int))) else false))
noncomputable def L283 : Lib Go.Proofs.Tryz.prog := L241.add pm 283 [t2] .bool (fun st => F283 st) [] [] [] spOK_nil (fun st => by kernel_rfl)
noncomputable def F240 (a0 : D6) : Option Bool :=
 letJ (σ := Unit) (ρ := Bool) (fun s1 =>
  letV ((if (if (a0.2.2.2.2.2.2.2.2.1.2.2.2.2.2.2.1 == (1 : Int)) = true then true else (eqK (.prod t2 (.prod (.int .u64) (.prod (.int .u64) (.prod .bool .unit)))) a0.2.2.2.2.2.2.2.2.1.2.2.2.2.2.2.2.1 (Ty.zero t3 : D3))) = true then (if (if (a0.2.2.2.2.2.2.2.2.1.2.2.2.2.2.2.1 == (0 : Int)) = true then true else (a0.2.2.2.2.2.2.2.2.1.2.2.2.2.2.2.1 == (1 : Int))) = true then true else (a0.2.2.2.2.2.2.2.2.1.2.2.2.2.2.2.1 == (2 : Int))) else false)) fun v1 =>
  Option.bind (if ((if v1 = true then (!a0.2.2.2.2.1) else false) && true) = true then (F187 a0.2.2.2.2.2.2.2.2.1.2.2.1) else some false) fun v2 =>
  Option.bind (if ((if (if v1 = true then (!a0.2.2.2.2.1) else false) = true then v2 else false) && true) = true then (F241 a0.2.2.1 a0.2.2.2.2.2.2.2.2.1.2.2.1) else some false) fun v3 =>
  Option.bind (if ((if (if (if (if v1 = true then (!a0.2.2.2.2.1) else false) = true then v2 else false) = true then v3 else false) = true then (decide (((List.length a0.2.2.2.2.2.2.2.2.1.2.2.2.2.2.2.2.2.1 : Nat) : Int) ≤ (8 : Int))) else false) && true) = true then (F283 a0.2.2.2.2.2.2.2.2.1.2.2.2.2.2.2.2.2.2.1) else some false) fun v4 =>
  some ((if (if (if (if (if v1 = true then (!a0.2.2.2.2.1) else false) = true then v2 else false) = true then v3 else false) = true then (decide (((List.length a0.2.2.2.2.2.2.2.2.1.2.2.2.2.2.2.2.2.1 : Nat) : Int) ≤ (8 : Int))) else false) = true then v4 else false))) fun j1_1 =>
  letJ (σ := Unit) (ρ := Bool) (fun s1 =>
   some false) fun j1_2 =>
   whileO (σ := Int) (ρ := Bool) (fun s1 =>
    if (decide (s1 < (4 : Int))) = true then
     Option.bind (aidxO a0.2.2.2.2.2.2.2.2.1.2.2.2.2.2.2.2.2.2.2.1 s1) fun v2 =>
     Option.bind (F187 v2) fun v3 =>
     if (!v3) = true then
     done (j1_2 ())
     else
     turn (IntKind.wrap .i64 (s1 + (1 : Int)))
    else
     done (j1_1 ())) (0 : Int)
noncomputable def L240 : Lib Go.Proofs.Tryz.prog := L283.add pm 240 [t6] .bool (fun st => F240 st) [] [(1, [12], [], [], [], [])] [] spOK_nil (fun st => by kernel_rfl)
noncomputable def F190 (a0 : D6) : Option Bool :=
 letJ (σ := Bool) (ρ := Bool) (fun s1 =>
  some s1) fun j1_1 =>
  if (a0.2.1 == (1 : Int)) = true then
   j1_1 (decide (((List.length a0.2.2.2.2.2.2.1 : Nat) : Int) ≤ (IntKind.wrap .i64 ((IntKind.wrap .i64 (a0.2.2.2.1 - (1 : Int))) * (16 : Int)))))
  else
   letJ (σ := Bool) (ρ := Bool) (fun s1 =>
    j1_1 s1) fun j1_2 =>
    if (a0.2.1 == (2 : Int)) = true then
    if (decide (((List.length a0.2.2.2.2.2.1 : Nat) : Int) ≤ (64 : Int))) = true then
     letJ (σ := Bool) (ρ := Bool) (fun s1 =>
      if s1 = true then
      letJ (σ := Int) (ρ := Bool) (fun s2 =>
       j1_2 (!(decide (s2 ≥ (0 : Int))))) fun j2_3 =>
       letJ (σ := Unit) (ρ := Bool) (fun s2 =>
        j2_3 (-1 : Int)) fun j2_4 =>
        letJ (σ := Int) (ρ := Bool) (fun s2 =>
         j2_3 s2) fun j2_5 =>
         whileO (σ := Int) (ρ := Bool) (fun s2 =>
          if (decide (s2 < ((List.length a0.2.2.2.2.2.1 : Nat) : Int))) = true then
           Option.bind (idxO a0.2.2.2.2.2.1 s2) fun v3 =>
           Option.bind (F238 v3) fun v4 =>
           if v4 = true then
           done (j2_5 s2)
           else
           turn (IntKind.wrap .i64 (s2 + (1 : Int)))
          else
           done (j2_4 ())) (0 : Int)
      else
      j1_2 false) fun j1_3 =>
      letJ (σ := Unit) (ρ := Bool) (fun s1 =>
       j1_3 true) fun j1_4 =>
       letJ (σ := Unit) (ρ := Bool) (fun s1 =>
        j1_3 false) fun j1_5 =>
        whileO (σ := Int) (ρ := Bool) (fun s1 =>
         if (decide (s1 < ((List.length a0.2.2.2.2.2.1 : Nat) : Int))) = true then
         Option.bind (idxO a0.2.2.2.2.2.1 (IntKind.wrap .i64 (s1 - (1 : Int)))) fun v2 =>
         Option.bind (F236 v2) fun v3 =>
         Option.bind (idxO a0.2.2.2.2.2.1 s1) fun v4 =>
         Option.bind (F236 v4) fun v5 =>
         if (decide (v3 ≥ v5)) = true then
          done (j1_5 ())
         else
          turn (IntKind.wrap .i64 (s1 + (1 : Int)))
         else
         done (j1_4 ())) (1 : Int)
    else
     j1_2 false
    else
    letJ (σ := Bool) (ρ := Bool) (fun s1 =>
     j1_2 s1) fun j1_3 =>
     if (a0.2.1 == (3 : Int)) = true then
      Option.bind (F239 a0.2.2.2.2.2.2.2.1) fun v1 =>
      j1_3 v1
     else
      letJ (σ := Bool) (ρ := Bool) (fun s1 =>
       j1_3 s1) fun j1_4 =>
       if (a0.2.1 == (4 : Int)) = true then
       Option.bind (F240 a0) fun v1 =>
       j1_4 v1
       else
       if (a0.2.1 == (5 : Int)) = true then
        Option.bind (F187 a0.2.2.2.2.2.2.2.2.2.1.1) fun v1 =>
        Option.bind (if (v1 && true) = true then (F187 a0.2.2.2.2.2.2.2.2.2.1.2.1) else some false) fun v2 =>
        Option.bind (if ((if v1 = true then v2 else false) && true) = true then (F241 a0.2.2.2.2.2.2.2.2.2.1.1 a0.2.2.2.2.2.2.2.2.2.1.2.1) else some false) fun v3 =>
        j1_4 (if (if v1 = true then v2 else false) = true then v3 else false)
       else
        some ((if (decide (((List.length a0.2.2.2.2.2.2.2.2.2.2.1 : Nat) : Int) ≤ (64 : Int))) = true then (decide (((List.length a0.2.2.2.2.2.2.2.2.2.2.2.1 : Nat) : Int) ≤ (1024 : Int))) else false))
noncomputable def L190 : Lib Go.Proofs.Tryz.prog := L240.add pm 190 [t6] .bool (fun st => F190 st) [(235, 4, [.calm [0, 1, 2, 3, 4, 5, 6, 7, 8, 9, 10, 11, 12, 13]])] [(2, [5], [], [], [], []), (5, [8], [], [], [], [])] [] spOK_nil (fun st => by kernel_rfl)
noncomputable def F124 (a0 : D6) : Option Bool :=
 Option.bind (F186 a0.1) fun v1 =>
 letJ (σ := Unit) (ρ := Bool) (fun s2 =>
  some false) fun j2_1 =>
  if (if (if (!v1) = true then true else (decide (a0.2.1 < (1 : Int)))) = true then true else (decide (a0.2.1 > (6 : Int)))) = true then
   j2_1 ()
  else
   Option.bind (F187 a0.2.2.1) fun v2 =>
   letJ (σ := Unit) (ρ := Bool) (fun s3 =>
    j2_1 ()) fun j3_2 =>
    if (if (if (!v2) = true then true else (decide (a0.2.2.2.1 < (1 : Int)))) = true then true else (decide (a0.2.2.2.1 > (4096 : Int)))) = true then
    j3_2 ()
    else
    Option.bind (if ((a0.2.1 != (4 : Int)) && true) = true then (F188 a0.2.2.1) else some ([] : List Int)) fun v3 =>
    if (if (a0.2.1 != (4 : Int)) = true then (decide (((List.length v3 : Nat) : Int) > (0 : Int))) else false) = true then
     j3_2 ()
    else
     Option.bind (F189 a0) fun v4 =>
     Option.bind (F181 v4 (sett6_4_1 (sett6_3_1 (sett6_2_1 (sett6_1_1 (sett6_0_1 (Ty.zero t6 : D6) a0.1) a0.2.1) a0.2.2.1) a0.2.2.2.1) a0.2.2.2.2.1)) fun v5 =>
     Option.bind (if (v5 && true) = true then (F190 a0) else some false) fun v6 =>
     some ((if v5 = true then v6 else false))
noncomputable def L124 : Lib Go.Proofs.Tryz.prog := L190.add pm 124 [t6] .bool (fun st => F124 st) [(124, 8, [.calm [0, 1, 2, 3, 4, 5, 6, 7, 8]])] [] [] spOK_nil (fun st => by kernel_rfl)
noncomputable def F143 (a0 : D6) : Option Bool :=
 Option.bind (F124 a0) fun v1 =>
 some (!v1)
noncomputable def L143 : Lib Go.Proofs.Tryz.prog := L124.add pm 143 [t6] .bool (fun st => F143 st) [] [] [] spOK_nil (fun st => by kernel_rfl)
noncomputable def F84 (a0 : D7) : Option Bool :=
 if (if (if (decide (a0.1 ≥ (0 : Int))) = true then (decide (a0.1 ≤ (1099511627776 : Int))) else false) = true then (decide (((List.length a0.2.2.2.1 : Nat) : Int) ≤ (1024 : Int))) else false) = true then
  letJ (σ := Bool) (ρ := Bool) (fun s1 =>
   if s1 = true then
   letJ (σ := Int) (ρ := Bool) (fun s2 =>
    some ((!(decide (s2 ≥ (0 : Int)))))) fun j2_1 =>
    letJ (σ := Unit) (ρ := Bool) (fun s2 =>
     j2_1 (-1 : Int)) fun j2_2 =>
     letJ (σ := Int) (ρ := Bool) (fun s2 =>
      j2_1 s2) fun j2_3 =>
      whileO (σ := Int) (ρ := Bool) (fun s2 =>
       if (decide (s2 < ((List.length a0.2.2.2.1 : Nat) : Int))) = true then
        Option.bind (idxO a0.2.2.2.1 s2) fun v3 =>
        Option.bind (F143 v3) fun v4 =>
        if v4 = true then
        done (j2_3 s2)
        else
        turn (IntKind.wrap .i64 (s2 + (1 : Int)))
       else
        done (j2_2 ())) (0 : Int)
   else
   some false) fun j1_1 =>
   letJ (σ := Unit) (ρ := Bool) (fun s1 =>
    j1_1 true) fun j1_2 =>
    letJ (σ := Unit) (ρ := Bool) (fun s1 =>
     j1_1 false) fun j1_3 =>
     whileO (σ := Int) (ρ := Bool) (fun s1 =>
      if (decide (s1 < ((List.length a0.2.2.2.1 : Nat) : Int))) = true then
      Option.bind (idxO a0.2.2.2.1 (IntKind.wrap .i64 (s1 - (1 : Int)))) fun v2 =>
      Option.bind (F145 v2) fun v3 =>
      Option.bind (idxO a0.2.2.2.1 s1) fun v4 =>
      Option.bind (F145 v4) fun v5 =>
      if (decide (v3 ≥ v5)) = true then
       done (j1_3 ())
      else
       turn (IntKind.wrap .i64 (s1 + (1 : Int)))
      else
      done (j1_2 ())) (1 : Int)
 else
  some false
noncomputable def L84 : Lib Go.Proofs.Tryz.prog := L143.add pm 84 [t7] .bool (fun st => F84 st) [(144, 4, [.calm [0, 1, 2, 3, 4, 5, 6, 7, 8, 9, 10, 11, 12, 13]])] [(2, [5], [], [], [], []), (5, [8], [], [], [], [])] [] spOK_nil (fun st => by kernel_rfl)
noncomputable def F86 (a0 : D11) (a1 : D6) : Option Bool :=
 letJ (σ := Unit) (ρ := Bool) (fun s2 =>
  Option.bind (if ((!(a1.2.1 != (2 : Int))) && true) = true then (F35 a0.1 a1) else some (0 : Int)) fun v2 =>
  some ((if (a1.2.1 != (2 : Int)) = true then true else (decide (v2 ≤ a1.2.2.2.1))))) fun j2_1 =>
  letJ (σ := D6) (ρ := Bool) (fun s2 =>
   some false) fun j2_2 =>
   whileO (σ := Int) (ρ := Bool) (fun s2 =>
    if (decide (s2 < ((List.length a1.2.2.2.2.2.1 : Nat) : Int))) = true then
     Option.bind (idxO a1.2.2.2.2.2.1 s2) fun v3 =>
     Option.bind (F69 a0.1 v3) fun v4 =>
     Option.bind (if ((!(!v4.2)) && true) = true then (F146 a1.2.2.1 v4.1.2.2.1) else some false) fun v5 =>
     if (if (!v4.2) = true then true else (!v5)) = true then
     done (j2_2 v4.1)
     else
     turn (IntKind.wrap .i64 (s2 + (1 : Int)))
    else
     done (j2_1 ())) (0 : Int)
noncomputable def L86 : Lib Go.Proofs.Tryz.prog := L84.add pm 86 [t11, t6] .bool (fun st => F86 st.1 st.2) [(86, 6, [.calm [0, 1, 2, 3, 4, 5, 6, 7, 8, 9, 10, 11], .bar 12])] [(3, [9], [], [], [], [])] [] spOK_nil (fun st => by kernel_rfl)
noncomputable def F39 (a0 : D7) (a1 : Int) : Option (List Int) :=
 letJ (σ := (List Int)) (ρ := (List Int)) (fun s2 =>
  some s2) fun j2_1 =>
  whileO (σ := (Int × (List Int))) (ρ := (List Int)) (fun s2 =>
   if (decide (s2.1 < ((List.length (sett11_0_4 (Ty.zero t11 : D11) a0).1.2.2.2.1 : Nat) : Int))) = true then
    letJ (σ := (D6 × (List Int))) (ρ := ((Int × (List Int)) ⊕ (List Int))) (fun s4 =>
     turn ((IntKind.wrap .i64 (s2.1 + (1 : Int))), s4.2)) fun j4_3 =>
     Option.bind (idxO (sett11_0_4 (Ty.zero t11 : D11) a0).1.2.2.2.1 s2.1) fun v4 =>
     Option.bind (F70 v4.2.2.2.2.2.1 a1) fun v5 =>
     if v5.2 = true then
     Option.bind (some ([v4.1] : List Int)) fun v6 =>
     Option.bind (appO 8 s2.2 v6) fun v7 =>
     j4_3 (v4, v7)
     else
     j4_3 (v4, s2.2)
   else
    done (j2_1 s2.2)) ((0 : Int), ([] : List Int))
noncomputable def L39 : Lib Go.Proofs.Tryz.prog := L86.add pm 39 [t7, (.int .u64)] (.sl (.int .u64)) (fun st => F39 st.1 st.2) [] [(3, [12], [[5, 0]], [], [], [])] [] spOK_nil (fun st => by kernel_rfl)
noncomputable def F119 (a0 : Int) : Option Bool :=
 some ((if (a0 == (2 : Int)) = true then true else (a0 == (4 : Int))))
noncomputable def L119 : Lib Go.Proofs.Tryz.prog := L39.add pm 119 [(.int .i64)] .bool (fun st => F119 st) [] [] [] spOK_nil (fun st => by kernel_rfl)
noncomputable def F104 (a0 : D11) (a1 : Int) : Option (Int × Bool) :=
 letJ (σ := Unit) (ρ := (Int × Bool)) (fun s2 =>
  some (((0 : Int), false))) fun j2_1 =>
  letJ (σ := (D6 × Int)) (ρ := (Int × Bool)) (fun s2 =>
   some ((s2.2, true))) fun j2_2 =>
   whileO (σ := Int) (ρ := (Int × Bool)) (fun s2 =>
    if (decide (s2 < ((List.length a0.1.2.2.2.1 : Nat) : Int))) = true then
     Option.bind (idxO a0.1.2.2.2.1 s2) fun v3 =>
     Option.bind (F70 v3.2.2.2.2.2.1 a1) fun v4 =>
     if v4.2 = true then
     done (j2_2 (v3, v3.1))
     else
     turn (IntKind.wrap .i64 (s2 + (1 : Int)))
    else
     done (j2_1 ())) (0 : Int)
noncomputable def L104 : Lib Go.Proofs.Tryz.prog := L119.add pm 104 [t11, (.int .u64)] (.prod (.int .u64) .bool) (fun st => F104 st.1 st.2) [] [(3, [12], [], [], [], [])] [] spOK_nil (fun st => by kernel_rfl)
noncomputable def F41 (a0 : D7) (a1 : Int) : Option (List Int) :=
 Option.bind (F104 (sett11_0_4 (Ty.zero t11 : D11) a0) a1) fun v2 =>
 letJ (σ := (List Int)) (ρ := (List Int)) (fun s3 =>
  some s3) fun j3_1 =>
  letJ (σ := Unit) (ρ := (List Int)) (fun s3 =>
   some (([] : List Int))) fun j3_2 =>
   whileO (σ := ((List Int) × (Int × Bool))) (ρ := (List Int)) (fun s3 =>
    if s3.2.2 = true then
     if (decide (((List.length s3.1 : Nat) : Int) > ((List.length a0.2.2.2.1 : Nat) : Int))) = true then
     done (j3_2 ())
     else
     Option.bind (some ([s3.2.1] : List Int)) fun v6 =>
     Option.bind (appO 8 s3.1 v6) fun v7 =>
     Option.bind (F104 (sett11_0_4 (Ty.zero t11 : D11) a0) s3.2.1) fun v8 =>
     turn (v7, v8.1, v8.2)
    else
     done (j3_1 s3.1)) (([] : List Int), v2.1, v2.2)
noncomputable def L41 : Lib Go.Proofs.Tryz.prog := L104.add pm 41 [t7, (.int .u64)] (.sl (.int .u64)) (fun st => F41 st.1 st.2) [] [(1, [6, 7, 8], [], [], [], [])] [] spOK_nil (fun st => by kernel_rfl)
noncomputable def F147 (a0 : D11) (a1 : Int) : Option Bool :=
 Option.bind (F41 a0.1 a1) fun v2 =>
 Option.bind (if ((decide (((List.length v2 : Nat) : Int) > (0 : Int))) && true) = true then (idxO v2 (IntKind.wrap .i64 (((List.length v2 : Nat) : Int) - (1 : Int)))) else some (0 : Int)) fun v3 =>
 some ((if (decide (((List.length v2 : Nat) : Int) > (0 : Int))) = true then (v3 == a0.1.2.2.1) else false))
noncomputable def L147 : Lib Go.Proofs.Tryz.prog := L41.add pm 147 [t11, (.int .u64)] .bool (fun st => F147 st.1 st.2) [(147, 2, [.calm [0, 1, 2, 3, 4, 5, 6, 7, 8, 9, 10, 11, 12, 13, 14, 15]])] [] [] spOK_nil (fun st => by kernel_rfl)
noncomputable def F87 (a0 : D11) (a1 : D6) : Option Bool :=
 Option.bind (F39 a0.1 a1.1) fun v2 =>
 if (a1.1 == a0.1.2.2.1) = true then
  some ((if (if (((List.length v2 : Nat) : Int) == (0 : Int)) = true then (a1.2.1 == (2 : Int)) else false) = true then (decide (a1.2.2.2.1 ≤ (1024 : Int))) else false))
 else
  Option.bind (if ((!(((List.length v2 : Nat) : Int) == (1 : Int))) && ((if (decide (((List.length v2 : Nat) : Int) > (1 : Int))) = true then a1.2.2.2.2.1 else false) && true)) = true then (F119 a1.2.1) else some false) fun v3 =>
  Option.bind (if ((if (((List.length v2 : Nat) : Int) == (1 : Int)) = true then true else (if (if (decide (((List.length v2 : Nat) : Int) > (1 : Int))) = true then a1.2.2.2.2.1 else false) = true then (!v3) else false)) && ((!(a1.2.1 != (2 : Int))) && true)) = true then (F147 a0 a1.1) else some false) fun v4 =>
  letV ((if (if (((List.length v2 : Nat) : Int) == (1 : Int)) = true then true else (if (if (decide (((List.length v2 : Nat) : Int) > (1 : Int))) = true then a1.2.2.2.2.1 else false) = true then (!v3) else false)) = true then (if (a1.2.1 != (2 : Int)) = true then true else v4) else false)) fun v5 =>
  some v5
noncomputable def L87 : Lib Go.Proofs.Tryz.prog := L147.add pm 87 [t11, t6] .bool (fun st => F87 st.1 st.2) [] [] [] spOK_nil (fun st => by kernel_rfl)
abbrev t12 : Ty := .st (.prod t2 .unit)
abbrev D12 : Type := (D2 × Unit)
noncomputable def F213 (a0 : D12) : Option Int :=
 some ((IntKind.wrap .u64 (a0.1.2.1 - a0.1.1)))
noncomputable def L213 : Lib Go.Proofs.Tryz.prog := L87.add pm 213 [t12] (.int .u64) (fun st => F213 st) [] [] [] spOK_nil (fun st => by kernel_rfl)
noncomputable def F214 (a0 : D12) (a1 : Int) : Option Bool :=
 Option.bind (F213 a0) fun v2 =>
 some ((if (decide ((IntKind.wrap .u64 (a1 - a0.1.1)) < v2)) = true then (decide (a1 ≥ a0.1.1)) else false))
noncomputable def L214 : Lib Go.Proofs.Tryz.prog := L213.add pm 214 [t12, (.int .u64)] .bool (fun st => F214 st.1 st.2) [(214, 1, [.calm [0, 1, 2, 3, 4, 5, 6, 7, 8, 9, 10, 11, 12, 13, 14, 15]])] [] [] spOK_nil (fun st => by kernel_rfl)
abbrev sett12_0_2 (x : D12) (y : D2) : D12 := (y, x.2)
noncomputable def F150 (a0 : D2) (a1 : D2) : Option Bool :=
 Option.bind (F213 (sett12_0_2 (Ty.zero t12 : D12) a0)) fun v2 =>
 if (v2 == (0 : Int)) = true then
  some true
 else
  Option.bind (F213 (sett12_0_2 (Ty.zero t12 : D12) a1)) fun v3 =>
  Option.bind (if ((!(v3 == (0 : Int))) && true) = true then (F214 (sett12_0_2 (Ty.zero t12 : D12) a0) (sett12_0_2 (Ty.zero t12 : D12) a1).1.1) else some false) fun v4 =>
  Option.bind (if ((!(v3 == (0 : Int))) && ((!v4) && true)) = true then (F214 (sett12_0_2 (Ty.zero t12 : D12) a1) (sett12_0_2 (Ty.zero t12 : D12) a0).1.1) else some false) fun v5 =>
  some ((if (v3 == (0 : Int)) = true then true else (if (!v4) = true then (!v5) else false)))
noncomputable def L150 : Lib Go.Proofs.Tryz.prog := L214.add pm 150 [t2, t2] .bool (fun st => F150 st.1 st.2) [(150, 1, [.calm [0, 1, 2, 3, 4, 5, 6, 7]])] [] [] spOK_nil (fun st => by kernel_rfl)
abbrev setarr_2_int_u64_0_1 (x : (Fin 2 → Int)) (y : Int) : (Fin 2 → Int) := (fun j => if j = Fin.mk 0 (by decide) then y else x j)
abbrev setarr_2_int_u64_1_1 (x : (Fin 2 → Int)) (y : Int) : (Fin 2 → Int) := (fun j => if j = Fin.mk 1 (by decide) then y else x j)
noncomputable def F245 (a0 : Int) : Option (Fin 2 → Int) :=
 Option.bind (shrO .u64 (Go.Ab.andI .u64 a0 (2305843009213693951 : Int)) (30 : Int)) fun v1 =>
 some ((setarr_2_int_u64_1_1 (setarr_2_int_u64_0_1 (Ty.zero (.arr 2 (.int .u64)) : (Fin 2 → Int)) v1) (Go.Ab.andI .u64 (Go.Ab.andI .u64 a0 (2305843009213693951 : Int)) (1073741823 : Int))))
noncomputable def L245 : Lib Go.Proofs.Tryz.prog := L150.add pm 245 [(.int .u64)] (.arr 2 (.int .u64)) (fun st => F245 st) [] [] [] spOK_nil (fun st => by kernel_rfl)
noncomputable def F290 (a0 : Int) : Option Int :=
 Option.bind (shrO .u64 a0 (30 : Int)) fun v1 =>
 Option.bind (shrO .u64 (IntKind.wrap .u64 ((Go.Ab.xorI .u64 a0 v1) * (13787848793156543929 : Int))) (27 : Int)) fun v2 =>
 Option.bind (shrO .u64 (IntKind.wrap .u64 ((Go.Ab.xorI .u64 (IntKind.wrap .u64 ((Go.Ab.xorI .u64 a0 v1) * (13787848793156543929 : Int))) v2) * (10723151780598845931 : Int))) (31 : Int)) fun v3 =>
 some ((Go.Ab.xorI .u64 (IntKind.wrap .u64 ((Go.Ab.xorI .u64 (IntKind.wrap .u64 ((Go.Ab.xorI .u64 a0 v1) * (13787848793156543929 : Int))) v2) * (10723151780598845931 : Int))) v3))
noncomputable def L290 : Lib Go.Proofs.Tryz.prog := L245.add pm 290 [(.int .u64)] (.int .u64) (fun st => F290 st) [] [] [] spOK_nil (fun st => by kernel_rfl)
noncomputable def F247 (a0 : (Fin 2 → Int)) (a1 : Int) (a2 : Int) : Option (Fin 2 → Int) :=
 Option.bind (remO a2 (2 : Int)) fun v3 =>
 Option.bind (guardO (if (decide ((0 : Int) ≤ (IntKind.wrap .i64 ((1 : Int) - v3)))) = true then (decide ((IntKind.wrap .i64 ((1 : Int) - v3)) < (2 : Int))) else false)) fun v4 =>
 Option.bind (aidxO a0 (IntKind.wrap .i64 ((1 : Int) - v3))) fun v5 =>
 Option.bind (F290 (IntKind.wrap .u64 ((IntKind.wrap .u64 (a1 + (IntKind.wrap .u64 (v5 * (11400714819323198485 : Int))))) + (IntKind.wrap .u64 ((IntKind.wrap .u64 a2) * (15111065706836454659 : Int)))))) fun v6 =>
 Option.bind (shrO .u64 v6 (20 : Int)) fun v7 =>
 Option.bind (guardO (if (decide ((0 : Int) ≤ v3)) = true then (decide (v3 < (2 : Int))) else false)) fun v8 =>
 Option.bind (aidxO a0 v3) fun v9 =>
 Option.bind (shlO .u64 (1 : Int) (IntKind.wrap .i64 ((31 : Int) - v3))) fun v10 =>
 Option.bind (guardO (if (decide ((0 : Int) ≤ v3)) = true then (decide (v3 < (2 : Int))) else false)) fun v11 =>
 Option.bind (asetO a0 v3 (Go.Ab.xorI .u64 v9 (Go.Ab.andI .u64 v7 (IntKind.wrap .u64 (v10 - (1 : Int)))))) fun v12 =>
 some v12
noncomputable def L247 : Lib Go.Proofs.Tryz.prog := L290.add pm 247 [(.arr 2 (.int .u64)), (.int .u64), (.int .i64)] (.arr 2 (.int .u64)) (fun st => F247 st.1 st.2.1 st.2.2) [(247, 3, [.calm [0, 1, 2, 3, 4, 5, 6, 7, 8, 9, 10], .bar 11])] [] [] spOK_nil (fun st => by kernel_rfl)
noncomputable def F248 (a0 : (Fin 2 → Int)) : Option Int :=
 Option.bind (shlO .u64 (a0 (Fin.mk 0 (by decide))) (30 : Int)) fun v1 =>
 some ((Go.Ab.orI .u64 v1 (a0 (Fin.mk 1 (by decide)))))
noncomputable def L248 : Lib Go.Proofs.Tryz.prog := L247.add pm 248 [(.arr 2 (.int .u64))] (.int .u64) (fun st => F248 st) [] [] [] spOK_nil (fun st => by kernel_rfl)
noncomputable def F195 (a0 : Int) (a1 : Int) (a2 : Bool) : Option Int :=
 Option.bind (F245 a1) fun v3 =>
 letJ (σ := (Fin 2 → Int)) (ρ := Int) (fun s4 =>
  Option.bind (F248 s4) fun v5 =>
  some v5) fun j4_1 =>
  whileO (σ := (Int × (Fin 2 → Int))) (ρ := Int) (fun s4 =>
   if (decide (s4.1 < (8 : Int))) = true then
    letJ (σ := Int) (ρ := ((Int × (Fin 2 → Int)) ⊕ Int)) (fun s6 =>
     Option.bind (F247 s4.2 a0 s6) fun v7 =>
     turn ((IntKind.wrap .i64 (s4.1 + (1 : Int))), v7)) fun j6_3 =>
     if a2 = true then
     j6_3 (IntKind.wrap .i64 ((7 : Int) - s4.1))
     else
     j6_3 s4.1
   else
    done (j4_1 s4.2)) ((0 : Int), v3)
noncomputable def L195 : Lib Go.Proofs.Tryz.prog := L248.add pm 195 [(.int .u64), (.int .u64), .bool] (.int .u64) (fun st => F195 st.1 st.2.1 st.2.2) [] [(3, [4], [[7, 0]], [], [], [])] [] spOK_nil (fun st => by kernel_rfl)
noncomputable def F215 (a0 : Int) (a1 : Int) : Option Int :=
 Option.bind (F195 a0 (IntKind.wrap .u64 (a1 - (1 : Int))) true) fun v2 =>
 some v2
noncomputable def L215 : Lib Go.Proofs.Tryz.prog := L195.add pm 215 [(.int .u64), (.int .u64)] (.int .u64) (fun st => F215 st.1 st.2) [] [] [] spOK_nil (fun st => by kernel_rfl)
noncomputable def F152 (a0 : Int) (a1 : D2) (a2 : Int) : Option Bool :=
 Option.bind (if ((if (decide (a2 > (0 : Int))) = true then (decide (a2 ≤ (2305843009213693952 : Int))) else false) && true) = true then (F215 a0 a2) else some (0 : Int)) fun v3 =>
 Option.bind (if ((if (decide (a2 > (0 : Int))) = true then (decide (a2 ≤ (2305843009213693952 : Int))) else false) && true) = true then (F214 (sett12_0_2 (Ty.zero t12 : D12) a1) v3) else some false) fun v4 =>
 some ((if (if (decide (a2 > (0 : Int))) = true then (decide (a2 ≤ (2305843009213693952 : Int))) else false) = true then v4 else false))
noncomputable def L152 : Lib Go.Proofs.Tryz.prog := L215.add pm 152 [(.int .u64), t2, (.int .u64)] .bool (fun st => F152 st.1 st.2.1 st.2.2) [(152, 1, [.calm [0, 1, 2, 3, 4, 5, 6, 7, 8, 9, 10, 11, 12, 13, 14]])] [] [] spOK_nil (fun st => by kernel_rfl)
noncomputable def F89 (a0 : D11) : Option Bool :=
 letJ (σ := Unit) (ρ := Bool) (fun s1 =>
  some true) fun j1_1 =>
  letJ (σ := (D2 × (Int × D6))) (ρ := Bool) (fun s1 =>
   some false) fun j1_2 =>
   whileO (σ := Int) (ρ := Bool) (fun s1 =>
    if (decide (s1 < ((List.length a0.1.2.2.2.1 : Nat) : Int))) = true then
     letJ (σ := D6) (ρ := (Int ⊕ Bool)) (fun s2 =>
      turn (IntKind.wrap .i64 (s1 + (1 : Int)))) fun j2_4 =>
      Option.bind (idxO a0.1.2.2.2.1 s1) fun v2 =>
      if (v2.2.1 == (4 : Int)) = true then
      letJ (σ := Unit) (ρ := (Int ⊕ Bool)) (fun s3 =>
       done (j1_2 (v2.2.2.2.2.2.2.2.2.1.2.2.2.2.2.2.2.2.2.1, v2.1, v2))) fun j3_5 =>
       letJ (σ := Unit) (ρ := (Int ⊕ Bool)) (fun s3 =>
        letJ (σ := Int) (ρ := (Int ⊕ Bool)) (fun s3 =>
         if (decide (s3 ≥ (0 : Int))) = true then
          j3_5 ()
         else
          j2_4 v2) fun j3_6 =>
         letJ (σ := Unit) (ρ := (Int ⊕ Bool)) (fun s3 =>
          j3_6 (-1 : Int)) fun j3_7 =>
          letJ (σ := (Int × D6)) (ρ := (Int ⊕ Bool)) (fun s3 =>
           j3_6 s3.1) fun j3_8 =>
           whileO (σ := Int) (ρ := (Int ⊕ Bool)) (fun s3 =>
            if (decide (s3 < ((List.length a0.1.2.2.2.1 : Nat) : Int))) = true then
             Option.bind (idxO a0.1.2.2.2.1 s3) fun v4 =>
             Option.bind (F152 a0.1.2.1 v2.2.2.2.2.2.2.2.2.1.2.2.2.2.2.2.2.2.2.1 v4.1) fun v5 =>
             if v5 = true then
             done (j3_8 (s3, v4))
             else
             turn (IntKind.wrap .i64 (s3 + (1 : Int)))
            else
             done (j3_7 ())) (0 : Int)) fun j3_6 =>
        letJ (σ := (D2 × D6)) (ρ := (Int ⊕ Bool)) (fun s3 =>
         j3_5 ()) fun j3_7 =>
         whileO (σ := Int) (ρ := (Int ⊕ Bool)) (fun s3 =>
          if (decide (s3 < ((List.length a0.1.2.2.2.1 : Nat) : Int))) = true then
           letJ (σ := D6) (ρ := (Int ⊕ (Int ⊕ Bool))) (fun s4 =>
            turn (IntKind.wrap .i64 (s3 + (1 : Int)))) fun j4_9 =>
            Option.bind (idxO a0.1.2.2.2.1 s3) fun v4 =>
            if (v4.2.1 == (4 : Int)) = true then
            Option.bind (if ((v4.1 != v2.1) && true) = true then (F150 v2.2.2.2.2.2.2.2.2.1.2.2.2.2.2.2.2.2.2.1 v4.2.2.2.2.2.2.2.2.1.2.2.2.2.2.2.2.2.2.1) else some false) fun v5 =>
            if (if (v4.1 != v2.1) = true then (!v5) else false) = true then
             done (j3_7 (v4.2.2.2.2.2.2.2.2.1.2.2.2.2.2.2.2.2.2.1, v4))
            else
             j4_9 v4
            else
            j4_9 v4
          else
           done (j3_6 ())) (0 : Int)
      else
      j2_4 v2
    else
     done (j1_1 ())) (0 : Int)
noncomputable def L89 : Lib Go.Proofs.Tryz.prog := L152.add pm 89 [t11] .bool (fun st => F89 st) [] [(3, [9], [], [], [], []), (8, [9], [], [], [], []), (13, [8], [], [], [], [])] [] spOK_nil (fun st => by kernel_rfl)
noncomputable def F32 (a0 : D7) : Option Bool :=
 Option.bind (F69 a0 a0.2.2.1) fun v1 =>
 Option.bind (if ((!(!v1.2)) && true) = true then (F84 a0) else some false) fun v2 =>
 if (if (!v1.2) = true then true else (!v2)) = true then
  some false
 else
  letJ (σ := Int) (ρ := Bool) (fun s3 =>
   Option.bind (if ((!(decide (s3 ≥ (0 : Int)))) && true) = true then (F89 (sett11_0_4 (Ty.zero t11 : D11) a0)) else some false) fun v4 =>
   some ((if (!(decide (s3 ≥ (0 : Int)))) = true then v4 else false))) fun j3_1 =>
   letJ (σ := Unit) (ρ := Bool) (fun s3 =>
    j3_1 (-1 : Int)) fun j3_2 =>
    letJ (σ := (Int × D6)) (ρ := Bool) (fun s3 =>
     j3_1 s3.1) fun j3_3 =>
     whileO (σ := Int) (ρ := Bool) (fun s3 =>
      if (decide (s3 < ((List.length a0.2.2.2.1 : Nat) : Int))) = true then
      Option.bind (idxO a0.2.2.2.1 s3) fun v4 =>
      Option.bind (F86 (sett11_0_4 (Ty.zero t11 : D11) a0) v4) fun v5 =>
      Option.bind (if ((!(!v5)) && true) = true then (F87 (sett11_0_4 (Ty.zero t11 : D11) a0) v4) else some false) fun v6 =>
      if (if (!v5) = true then true else (!v6)) = true then
       done (j3_3 (s3, v4))
      else
       turn (IntKind.wrap .i64 (s3 + (1 : Int)))
      else
      done (j3_2 ())) (0 : Int)
noncomputable def L32 : Lib Go.Proofs.Tryz.prog := L89.add pm 32 [t7] .bool (fun st => F32 st) [] [(3, [8], [], [], [], [])] [] spOK_nil (fun st => by kernel_rfl)
abbrev sett7_2_1 (x : D7) (y : Int) : D7 := (x.1, (x.2.1, (y, x.2.2.2)))
noncomputable def F31 : Option Bool :=
 Option.bind (some ([(sett6_3_1 (sett6_1_1 (sett6_0_1 (Ty.zero t6 : D6) (1 : Int)) (2 : Int)) (3 : Int))] : List D6)) fun v0 =>
 Option.bind (F51 (sett7_3_1 (sett7_2_1 (Ty.zero t7 : D7) (1 : Int)) v0) (1 : Int) (sett6_3_1 (sett6_1_1 (sett6_0_1 (Ty.zero t6 : D6) (2 : Int)) (1 : Int)) (3 : Int))) fun v1 =>
 Option.bind (F51 (sett7_3_1 (sett7_2_1 (Ty.zero t7 : D7) (1 : Int)) v0) (1 : Int) (sett6_3_1 (sett6_3_1 (sett6_1_1 (sett6_0_1 (Ty.zero t6 : D6) (2 : Int)) (1 : Int)) (3 : Int)) (2 : Int))) fun v2 =>
 Option.bind (F32 (sett7_3_1 (sett7_2_1 (Ty.zero t7 : D7) (1 : Int)) v0)) fun v3 =>
 Option.bind (if ((if (if (if v3 = true then (v1.2 == (5 : Int)) else false) = true then (v2.2 == (0 : Int)) else false) = true then (((List.length v2.1.2.2.2.1 : Nat) : Int) == (2 : Int)) else false) && true) = true then (idxO v2.1.2.2.2.1 (0 : Int)) else some (Ty.zero t6 : D6)) fun v4 =>
 Option.bind (if ((if (if (if v3 = true then (v1.2 == (5 : Int)) else false) = true then (v2.2 == (0 : Int)) else false) = true then (((List.length v2.1.2.2.2.1 : Nat) : Int) == (2 : Int)) else false) && true) = true then (F37 v2.1 v4) else some (0 : Int)) fun v5 =>
 letV ((if (if (if (if v3 = true then (v1.2 == (5 : Int)) else false) = true then (v2.2 == (0 : Int)) else false) = true then (((List.length v2.1.2.2.2.1 : Nat) : Int) == (2 : Int)) else false) = true then (v5 == (0 : Int)) else false)) fun v6 =>
 some v6
noncomputable def L31 : Lib Go.Proofs.Tryz.prog := L32.add pm 31 [] .bool (fun st => F31) [(31, 6, [.calm [0, 1, 2, 3, 4, 5, 6, 7, 8, 9, 10, 11, 12, 13, 14, 15, 16, 17, 18, 19, 20, 21, 22, 23, 24, 25]])] [] [] spOK_nil (fun st => by kernel_rfl)
noncomputable def F6 (a0 : D7) : Option Bool :=
 Option.bind (F30 a0) fun v1 =>
 Option.bind (if ((!(!v1)) && true) = true then (F33 a0) else some false) fun v2 =>
 if (if (!v1) = true then true else (!v2)) = true then
  Option.bind (F31) fun v3 =>
  some v3
 else
  Option.bind (F43 a0 a0.2.2.1) fun v3 =>
  Option.bind (if ((!(if (!v3.2) = true then true else (decide (((List.length a0.2.2.2.1 : Nat) : Int) > v3.1.2.2.2.1)))) && true) = true then (F37 a0 v3.1) else some (0 : Int)) fun v4 =>
  if (if (if (!v3.2) = true then true else (decide (((List.length a0.2.2.2.1 : Nat) : Int) > v3.1.2.2.2.1))) = true then true else (decide (v4 < (0 : Int)))) = true then
  some false
  else
  letJ (σ := Int) (ρ := Bool) (fun s5 =>
   Option.bind (if ((decide (s5 ≤ v3.1.2.2.2.1)) && true) = true then (F31) else some false) fun v6 =>
   some ((if (decide (s5 ≤ v3.1.2.2.2.1)) = true then v6 else false))) fun j5_1 =>
   letJ (σ := D6) (ρ := Bool) (fun s5 =>
    some false) fun j5_2 =>
    whileO (σ := (Int × Int)) (ρ := Bool) (fun s5 =>
     if (decide (s5.2 < ((List.length a0.2.2.2.1 : Nat) : Int))) = true then
      letJ (σ := D6) (ρ := ((Int × Int) ⊕ Bool)) (fun s7 =>
       done (j5_2 s7)) fun j7_4 =>
       Option.bind (idxO a0.2.2.2.1 s5.2) fun v7 =>
       Option.bind (F35 a0 v7) fun v8 =>
       if (decide (v8 > v7.2.2.2.1)) = true then
       j7_4 v7
       else
       Option.bind (F41 a0 v7.1) fun v9 =>
       Option.bind (if ((!(!((((List.length v9 : Nat) : Int) == (0 : Int)) == (v7.1 == a0.2.2.1)))) && ((decide (((List.length v9 : Nat) : Int) > (0 : Int))) && true)) = true then (idxO v9 (IntKind.wrap .i64 (((List.length v9 : Nat) : Int) - (1 : Int)))) else some (0 : Int)) fun v10 =>
       letV ((if (if (!((((List.length v9 : Nat) : Int) == (0 : Int)) == (v7.1 == a0.2.2.1))) = true then true else (if (decide (((List.length v9 : Nat) : Int) > (0 : Int))) = true then (v10 != a0.2.2.1) else false)) = true then true else (decide (((List.length v9 : Nat) : Int) > ((List.length a0.2.2.2.1 : Nat) : Int))))) fun v11 =>
       if v11 = true then
        j7_4 v7
       else
        Option.bind (F44 v7) fun v12 =>
        turn ((IntKind.wrap .i64 (s5.1 + v12)), (IntKind.wrap .i64 (s5.2 + (1 : Int))))
     else
      done (j5_1 s5.1)) ((0 : Int), (0 : Int))
end Go.Fn
namespace Go.Fn
open Go Go.Ab Go.Tx
theorem run31 : callL 100 L31.tr 31 (toVs [] ()) .bool = some true := by kernel_rfl
theorem awake14 : F31 = some true := eval_fun (n := 100) (g := 31) («as» := []) (rty := .bool) (l := L31.tr) (F := L32.cf) (f := fun _ => F31) L31.le () run31
end Go.Fn
