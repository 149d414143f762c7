/- What functions come to. -/
import Derived.Test.YtjeeofakogoboaaTo4
import Derived.KernelRfl
import Derived.Test.YtjeeofakogoboaaRows
namespace Go.Proofs.Ytjeeofakogoboaa.T
open Go.Vm Go.Tm
set_option linter.unusedVariables false
/- withy/vow.Check -/
noncomputable def vow_Check_r (a1 : (Int × (Bool × (Bool × Int)))) : Bool × (Int) :=
  let c5 := (decide (a1.2.2.2 < (0 : Int)))
  let c6 := (!c5)
  let c8 := (cond c6 c6 true)
  let c14 := (cond c5 true (decide (a1.2.2.2 > (2147483647 : Int))))
  let c15 := (!c14)
  let c16 := (cond c15 c15 true)
  let c23 := (cond c14 true (decide (a1.1 < (0 : Int))))
  let c24 := (!c23)
  let c25 := (cond c24 c24 true)
  let c32 := (cond c23 true (decide (a1.1 > (2 : Int))))
  let c33 := (!c32)
  let c36 := (c33 && c33)
  let c38 := (c36 && a1.2.2.1)
  let c39 := (cond c38 c38 true)
  let c42 := (c38 && c38)
  let c43 := (a1.1 != (0 : Int))
  let c45 := (c42 && (!c43))
  let c62 := (cond c32 true (cond a1.2.2.1 (cond c43 true a1.2.1) false))
  let c63 := (!c62)
  let c64 := (cond c63 c63 true)
  let c67 := (c63 && c63)
  let c68 := (c67 && c43)
  (((((((((((((((((((((c8 && c8) && (cond c5 true c6)) && c16) && c16) && (cond c14 true c15)) && c25) && c25) && (cond c23 true c24)) && (cond c33 c33 true)) && c39) && c39) && (cond c45 c45 true)) && (cond c38 (c42 && (cond c43 true c45)) true)) && (cond c33 (c36 && (cond a1.2.2.1 c38 true)) true)) && (cond c32 true c33)) && c64) && c64) && (cond c68 c68 true)) && (cond c63 (c67 && (cond c43 c68 true)) true)) && (cond c62 true c63)), ((cond (!(cond c62 true (cond c43 a1.2.1 false))) (0 : Int) (1 : Int))))
def vow_Check_e : Ent := ⟨37, [], [(.pure (.row (.prod (.int .i64) (.prod .bool (.prod .bool (.int .i64))))) (Ty.dflt _))], [], [(.pure (.int .i64) (Ty.dflt _))], []⟩
noncomputable def vow_Check : Fun := ⟨vow_Check_e, fun x => let r := vow_Check_r x.1; (r.1, (r.2, ()))⟩
theorem vow_Check_ev : evFun Try.prog [] [] Try.f37 (codeOf Try.f37) vow_Check_e = vow_Check.fn := by kernel_rfl
theorem vow_Check_ok : FunOk Try.prog vow_Check := fun_ok (opers_ok oks_nil) Try.call37 Try.func37 (by kernel_rfl) fun x _ => (congrFun vow_Check_ev x).symm

/- withy/vow.bind -/
noncomputable def vow_bind_r (a1 : (Int × (Bool × (Bool × Int)))) : Bool × ((Int × (Bool × (Bool × Int)))) :=
  (true, (((0 : Int), (false, (true, (cond (a1.1 == (2 : Int)) (a1.1, (a1.2.1, (a1.2.2.1, (if (IntKind.i64.wrap (a1.2.2.2 + (1 : Int))) < (2147483647 : Int) then (IntKind.i64.wrap (a1.2.2.2 + (1 : Int))) else (2147483647 : Int))))) a1).2.2.2)))))
def vow_bind_e : Ent := ⟨60, [], [(.pure (.row (.prod (.int .i64) (.prod .bool (.prod .bool (.int .i64))))) (Ty.dflt _))], [], [(.pure (.row (.prod (.int .i64) (.prod .bool (.prod .bool (.int .i64))))) (Ty.dflt _))], []⟩
noncomputable def vow_bind : Fun := ⟨vow_bind_e, fun x => let r := vow_bind_r x.1; (r.1, (r.2, ()))⟩
theorem vow_bind_ev : evFun Try.prog [] [] Try.f60 (codeOf Try.f60) vow_bind_e = vow_bind.fn := by kernel_rfl
theorem vow_bind_ok : FunOk Try.prog vow_bind := fun_ok (opers_ok oks_nil) Try.call60 Try.func60 (by kernel_rfl) fun x _ => (congrFun vow_bind_ev x).symm

/- withy/vow.Grant -/
noncomputable def vow_Grant_r (a1 : (Int × (Bool × (Bool × Int)))) : Bool × ((Int × (Bool × (Bool × Int))) × (Bool × (Bool × Bool)) × Int × (List Int)) :=
  let c1 := (vow_Check_r a1)
  let c5 := (c1.2 != (0 : Int))
  let c10 := (!a1.2.2.1)
  let c11 := (cond c10 c10 true)
  let c22 := ((!(cond a1.2.2.1 true (a1.1 != (0 : Int)))) && (!c5))
  let c24 := (vow_bind_r a1)
  let c29 := (!a1.2.1)
  let c40 := (false, false)
  let c41 := (a1.2.1, c40)
  let c43 := (false, c40)
  let c44 := (cond c5 c43 c43)
  let c46 := c44.2
  (((c1.1 && (cond c5 true ((c11 && c11) && (cond a1.2.2.1 true c10)))) && (cond c22 (cond a1.2.1 c24.1 true) true)), ((cond c22 (cond c29 ((1 : Int), a1.2) c24.2) (cond c5 ((0 : Int), (false, (false, (0 : Int)))) a1)), (cond c22 (cond c29 c41 c41) (c44.1, (c46.1, c46.2))), (cond c22 (cond c29 (0 : Int) (0 : Int)) (cond c5 (1 : Int) (0 : Int))), (cond c22 ((4 : Int) :: ([] : List Int)) ([] : List Int))))
def vow_Grant_e : Ent := ⟨31, [], [(.pure (.row (.prod (.int .i64) (.prod .bool (.prod .bool (.int .i64))))) (Ty.dflt _))], [(0, (.arr (.int .i64) [] false))], [(.pure (.row (.prod (.int .i64) (.prod .bool (.prod .bool (.int .i64))))) (Ty.dflt _)), (.row (.pair (.own 0 1) (.pure (.prod .bool (.prod .bool .bool)) (Ty.dflt _)))), (.pure (.int .i64) (Ty.dflt _))], []⟩
noncomputable def vow_Grant : Fun := ⟨vow_Grant_e, fun x => let r := vow_Grant_r x.1; (r.1, (r.2.1, r.2.2.1, r.2.2.2.1, r.2.2.2.2, ()))⟩
theorem vow_Grant_ev : evFun Try.prog [vow_Check, vow_bind] [] Try.f31 (codeOf Try.f31) vow_Grant_e = vow_Grant.fn := by kernel_rfl
theorem vow_Grant_ok : FunOk Try.prog vow_Grant := fun_ok (opers_ok (oks_cons vow_Check_ok (oks_cons vow_bind_ok oks_nil))) Try.call31 Try.func31 (by kernel_rfl) fun x _ => (congrFun vow_Grant_ev x).symm

/- withy/vow.Recant -/
noncomputable def vow_Recant_r (a1 : (Int × (Bool × (Bool × Int)))) : Bool × ((Int × (Bool × (Bool × Int))) × (Bool × (Bool × Bool)) × Int × (List Int)) :=
  let c1 := (vow_Check_r a1)
  let c9 := (c1.2 != (0 : Int))
  let c11 := ((!(a1.1 != (1 : Int))) && (!c9))
  let c22 := (false, (false, false))
  let c23 := (cond c9 c22 c22)
  let c25 := c23.2
  (c1.1, ((cond c11 ((2 : Int), a1.2) (cond c9 ((0 : Int), (false, (false, (0 : Int)))) a1)), (cond c11 c22 (c23.1, (c25.1, c25.2))), (cond c11 (0 : Int) (cond c9 (1 : Int) (0 : Int))), (cond c11 ((5 : Int) :: ([] : List Int)) ([] : List Int))))
def vow_Recant_e : Ent := ⟨32, [], [(.pure (.row (.prod (.int .i64) (.prod .bool (.prod .bool (.int .i64))))) (Ty.dflt _))], [(0, (.arr (.int .i64) [] false))], [(.pure (.row (.prod (.int .i64) (.prod .bool (.prod .bool (.int .i64))))) (Ty.dflt _)), (.row (.pair (.own 0 1) (.pure (.prod .bool (.prod .bool .bool)) (Ty.dflt _)))), (.pure (.int .i64) (Ty.dflt _))], []⟩
noncomputable def vow_Recant : Fun := ⟨vow_Recant_e, fun x => let r := vow_Recant_r x.1; (r.1, (r.2.1, r.2.2.1, r.2.2.2.1, r.2.2.2.2, ()))⟩
theorem vow_Recant_ev : evFun Try.prog [vow_Check] [] Try.f32 (codeOf Try.f32) vow_Recant_e = vow_Recant.fn := by kernel_rfl
theorem vow_Recant_ok : FunOk Try.prog vow_Recant := fun_ok (opers_ok (oks_cons vow_Check_ok oks_nil)) Try.call32 Try.func32 (by kernel_rfl) fun x _ => (congrFun vow_Recant_ev x).symm

/- withy/vow.Part -/
noncomputable def vow_Part_r (a1 : (Int × (Bool × (Bool × Int)))) : Bool × ((Int × (Bool × (Bool × Int))) × (Bool × (Bool × Bool)) × Int × (List Int)) :=
  let c1 := (vow_Check_r a1)
  let c10 := (c1.2 != (0 : Int))
  let c12 := ((!(!a1.2.2.1)) && (!c10))
  let c29 := (false, (false, false))
  let c30 := (cond c10 c29 c29)
  let c32 := c30.2
  (c1.1, ((cond c12 (a1.1, (a1.2.1, (false, a1.2.2.2))) (cond c10 ((0 : Int), (false, (false, (0 : Int)))) a1)), (cond c12 (false, (true, false)) (c30.1, (c32.1, c32.2))), (cond c12 (0 : Int) (cond c10 (1 : Int) (0 : Int))), (cond c12 ((7 : Int) :: ([] : List Int)) ([] : List Int))))
def vow_Part_e : Ent := ⟨33, [], [(.pure (.row (.prod (.int .i64) (.prod .bool (.prod .bool (.int .i64))))) (Ty.dflt _))], [(0, (.arr (.int .i64) [] false))], [(.pure (.row (.prod (.int .i64) (.prod .bool (.prod .bool (.int .i64))))) (Ty.dflt _)), (.row (.pair (.own 0 1) (.pure (.prod .bool (.prod .bool .bool)) (Ty.dflt _)))), (.pure (.int .i64) (Ty.dflt _))], []⟩
noncomputable def vow_Part : Fun := ⟨vow_Part_e, fun x => let r := vow_Part_r x.1; (r.1, (r.2.1, r.2.2.1, r.2.2.2.1, r.2.2.2.2, ()))⟩
theorem vow_Part_ev : evFun Try.prog [vow_Check] [] Try.f33 (codeOf Try.f33) vow_Part_e = vow_Part.fn := by kernel_rfl
theorem vow_Part_ok : FunOk Try.prog vow_Part := fun_ok (opers_ok (oks_cons vow_Check_ok oks_nil)) Try.call33 Try.func33 (by kernel_rfl) fun x _ => (congrFun vow_Part_ev x).symm

/- withy/vow.Hear -/
noncomputable def vow_Hear_r (a1 : (Int × (Bool × (Bool × Int)))) (a2 : Int) : Bool × ((Int × (Bool × (Bool × Int))) × (Bool × (Bool × Bool)) × Int × (List Int)) :=
  let c1 := (vow_Check_r a1)
  let c3 := c1.2
  let c6 := (!(c3 != (0 : Int)))
  let c9 := (a2 == (4 : Int))
  let c11 := (cond c9 c9 true)
  let c17 := (cond c9 (a1.1 != (0 : Int)) false)
  let c18 := (vow_bind_r a1)
  let c21 := (a2 == (5 : Int))
  let c23 := (a2 == (6 : Int))
  let c24 := (cond c23 c23 true)
  let c26 := ((c24 && c24) && c24)
  let c31 := (cond c23 (decide (a1.2.2.2 > (0 : Int))) false)
  let c34 := (cond c23 (a1.1 == (2 : Int)) false)
  let c36 := (a2 == (7 : Int))
  let c37 := (cond c36 c36 true)
  let c59 := ((cond c9 true ((cond c31 true ((!(cond c36 a1.2.2.1 false)) && (!c34))) && (!c21))) && (!c17))
  let c86 := (false, false)
  let c87 := (false, c86)
  let c93 := (cond c34 (false, (false, true)) (false, (true, false)))
  let c95 := c93.2
  ((c1.1 && (cond c6 (((c11 && c11) && c11) && (cond c17 c18.1 (cond c9 true (cond c21 true (c26 && (cond c31 true (c26 && (cond c34 true (c37 && c37))))))))) true)), ((cond c6 (cond c59 (cond c9 (a1.1, ((!a1.2.2.1), a1.2.2)) (cond c31 (a1.1, (a1.2.1, (a1.2.2.1, (IntKind.i64.wrap (a1.2.2.2 - (1 : Int)))))) a1)) (cond c17 c18.2 (cond c21 (a1.1, (false, a1.2.2)) (cond c34 ((0 : Int), a1.2) (a1.1, (a1.2.1, (false, a1.2.2.2))))))) ((0 : Int), (false, (false, (0 : Int))))), (cond c6 (cond c59 c87 (cond c17 (true, c86) (cond c21 c87 (c93.1, (c95.1, c95.2))))) c87), (cond c6 (cond c59 (0 : Int) (cond c17 (0 : Int) (cond c21 (0 : Int) (cond c34 (0 : Int) (0 : Int))))) c3), (cond c6 (cond c59 ([] : List Int) (cond c17 ([] : List Int) (cond c21 ((6 : Int) :: ([] : List Int)) ([] : List Int)))) ([] : List Int))))
def vow_Hear_e : Ent := ⟨34, [], [(.pure (.row (.prod (.int .i64) (.prod .bool (.prod .bool (.int .i64))))) (Ty.dflt _)), (.pure (.int .i64) (Ty.dflt _))], [(0, (.arr (.int .i64) [] false))], [(.pure (.row (.prod (.int .i64) (.prod .bool (.prod .bool (.int .i64))))) (Ty.dflt _)), (.row (.pair (.own 0 1) (.pure (.prod .bool (.prod .bool .bool)) (Ty.dflt _)))), (.pure (.int .i64) (Ty.dflt _))], []⟩
noncomputable def vow_Hear : Fun := ⟨vow_Hear_e, fun x => let r := vow_Hear_r x.1 x.2.1; (r.1, (r.2.1, r.2.2.1, r.2.2.2.1, r.2.2.2.2, ()))⟩
theorem vow_Hear_ev : evFun Try.prog [vow_Check, vow_bind] [] Try.f34 (codeOf Try.f34) vow_Hear_e = vow_Hear.fn := by kernel_rfl
theorem vow_Hear_ok : FunOk Try.prog vow_Hear := fun_ok (opers_ok (oks_cons vow_Check_ok (oks_cons vow_bind_ok oks_nil))) Try.call34 Try.func34 (by kernel_rfl) fun x _ => (congrFun vow_Hear_ev x).symm

/- withy/withyref21.May -/
noncomputable def withyref21_May_r (a1 : (Int × (Bool × (Bool × Int)))) : Bool × (Bool) :=
  let c3 := (decide (a1.1 < (0 : Int)))
  let c4 := (!c3)
  let c6 := (cond c4 c4 true)
  let c12 := (cond c3 true (decide (a1.1 > (2 : Int))))
  let c13 := (!c12)
  let c14 := (cond c13 c13 true)
  let c23 := (cond c12 true (decide (a1.2.2.2 < (0 : Int))))
  let c24 := (!c23)
  let c25 := (cond c24 c24 true)
  let c33 := (!(cond c23 true (decide (a1.2.2.2 > (2147483647 : Int)))))
  let c35 := (a1.1 == (0 : Int))
  let c36 := (cond c35 c35 true)
  let c40 := (!a1.2.2.1)
  let c41 := (!c35)
  let c42 := (cond c41 c41 true)
  let c51 := (!a1.2.1)
  ((((((((((c6 && c6) && (cond c3 true c4)) && c14) && c14) && (cond c12 true c13)) && c25) && c25) && (cond c23 true c24)) && (cond c33 ((cond a1.2.2.1 ((c36 && c36) && c36) true) && (cond c40 ((c42 && c42) && (cond c35 true c41)) true)) true)), ((cond c33 (cond c40 (cond c35 true c51) (cond c35 c51 false)) false)))
def withyref21_May_e : Ent := ⟨35, [], [(.pure (.row (.prod (.int .i64) (.prod .bool (.prod .bool (.int .i64))))) (Ty.dflt _))], [], [(.pure .bool (Ty.dflt _))], []⟩
noncomputable def withyref21_May : Fun := ⟨withyref21_May_e, fun x => let r := withyref21_May_r x.1; (r.1, (r.2, ()))⟩
theorem withyref21_May_ev : evFun Try.prog [] [] Try.f35 (codeOf Try.f35) withyref21_May_e = withyref21_May.fn := by kernel_rfl
theorem withyref21_May_ok : FunOk Try.prog withyref21_May := fun_ok (opers_ok oks_nil) Try.call35 Try.func35 (by kernel_rfl) fun x _ => (congrFun withyref21_May_ev x).symm

/- withy/withyref21.Same -/
noncomputable def withyref21_Same_l0 (a1 : ((List Int) × (Bool × (Bool × Bool)))) (a2 : ((List Int) × (Bool × (Bool × Bool)))) (s0 : HL [.int .i64]) : Bool × Bool × HL [.int .i64] × HL [.bool, .bool, .bool] :=
  let c59 := (decide (s0.1 < (a1.1.length : Int)))
  let c60 := (decide ((0 : Int) ≤ s0.1))
  let c61 := (Int.toNat s0.1)
  let c62 := (decide (c61 < a1.1.length))
  let c65 := (decide (c61 < a2.1.length))
  let c72 := (((a1.1[c61]?).getD (0 : Int)) != ((a2.1[c61]?).getD (0 : Int)))
  ((cond c59 ((((c60 && c62) && c62) && (c60 && c65)) && c65) true), (c59 && (!c72)), ((IntKind.i64.wrap (s0.1 + (1 : Int))), ()), ((c59 && c72), false, (!c59), ()))
noncomputable def withyref21_Same_r (a1 : ((List Int) × (Bool × (Bool × Bool)))) (a2 : ((List Int) × (Bool × (Bool × Bool)))) : Bool × (Bool) :=
  let c7 := (!(a1.2.1 == a2.2.1))
  let c8 := (!c7)
  let c10 := (cond c8 c8 true)
  let c23 := (cond c7 true (!(a1.2.2.1 == a2.2.2.1)))
  let c24 := (!c23)
  let c25 := (cond c24 c24 true)
  let c37 := (cond c23 true (!(a1.2.2.2 == a2.2.2.2)))
  let c38 := (!c37)
  let c39 := (cond c38 c38 true)
  let c57 := (!(cond c37 true ((a1.1.length : Int) != (a2.1.length : Int))))
  let c81 := (loopD 0 [.int .i64] [.bool, .bool, .bool] (withyref21_Same_l0 a1 a2) ((0 : Int), ()))
  (((((((((((((((c10 && c10) && (cond c8 (c8 && c8) true)) && (cond c7 true c8)) && c25) && c25) && (cond c24 (c24 && c24) true)) && (cond c23 true c24)) && c39) && c39) && c39) && c39) && (cond c38 (c38 && c38) true)) && (cond c37 true c38)) && (cond c57 c81.1 true)), ((cond c57 (cond c81.2.2.2.1 true c81.2.2.1) false)))
def withyref21_Same_e : Ent := ⟨36, [], [(.pure (.row (.prod (.fl (.int .i64)) (.prod .bool (.prod .bool .bool)))) (Ty.dflt _)), (.pure (.row (.prod (.fl (.int .i64)) (.prod .bool (.prod .bool .bool)))) (Ty.dflt _))], [], [(.pure .bool (Ty.dflt _))], []⟩
noncomputable def withyref21_Same : Fun := ⟨withyref21_Same_e, fun x => let r := withyref21_Same_r x.1 x.2.1; (r.1, (r.2, ()))⟩
theorem withyref21_Same_ev : evFun Try.prog [] [⟨[5], [], ⟨[], [], 0⟩, [], [], [(1, [4]), (2, [])], []⟩] Try.f36 (codeOf Try.f36) withyref21_Same_e = withyref21_Same.fn := by kernel_rfl
theorem withyref21_Same_ok : FunOk Try.prog withyref21_Same := fun_ok (opers_ok oks_nil) Try.call36 Try.func36 (by kernel_rfl) fun x _ => (congrFun withyref21_Same_ev x).symm

/- withy/vow.Dance -/
noncomputable def vow_Dance_l0 (a1 : (List (Int × (Int × (Int × (Int × Int)))))) (s0 : HL [.int .i64, (.arr 2 (.row (.prod (.int .i64) (.prod .bool (.prod .bool (.int .i64)))))), .nat, .nat, .nat, .nat, .unit, (.fl (.int .i64)), (.fl (.int .i64))]) : Bool × Bool × HL [.int .i64, (.arr 2 (.row (.prod (.int .i64) (.prod .bool (.prod .bool (.int .i64)))))), .nat, .nat, .nat, .nat, .unit, (.fl (.int .i64)), (.fl (.int .i64))] × HL [.bool, (.arr 2 (.row (.prod (.int .i64) (.prod .bool (.prod .bool (.int .i64)))))), .nat, .nat, .nat, .nat, .unit, (.fl (.int .i64)), (.fl (.int .i64))] :=
  let c7 := (decide (s0.1 < (a1.length : Int)))
  let c9 := (Int.toNat s0.1)
  let c10 := (decide (c9 < a1.length))
  let c13 := ((a1[c9]?).getD ((0 : Int), ((0 : Int), ((0 : Int), ((0 : Int), (0 : Int))))))
  let c17 := (IntKind.i64.wrap (c13.2.1 - (1 : Int)))
  let c19 := (decide (c17 < (0 : Int)))
  let c20 := (!c19)
  let c27 := (!(cond c19 true (decide (c17 > (1 : Int)))))
  let c28 := c13.1
  let c30 := (c28 == (8 : Int))
  let c32 := (Int.toNat c17)
  let c34 := (decide (c32 < 2))
  let c35 := ((decide ((0 : Int) ≤ c17)) && c34)
  let c36 := (c35 && c34)
  let c38 := (s0.2.1 c32)
  let c39 := (vow_Grant_r c38)
  let c45 := (c28 == (5 : Int))
  let c46 := (vow_Recant_r c38)
  let c52 := (c28 == (9 : Int))
  let c53 := (vow_Part_r c38)
  let c59 := (c28 == (2 : Int))
  let c60 := (c17 == (0 : Int))
  let c69 := (cond c60 (decide ((s0.2.2.2.1 : Int) > (0 : Int))) (decide ((s0.2.2.2.2.2.1 : Int) > (0 : Int))))
  let c70 := (cond c60 c17 c17)
  let c71 := (c70 == (0 : Int))
  let c72 := (IntKind.i64.wrap ((1 : Int) - c70))
  let c74 := (Int.toNat c72)
  let c75 := (decide (c74 < 2))
  let c76 := ((decide ((0 : Int) ≤ c72)) && c75)
  let c77 := (c76 && c75)
  let c78 := (decide ((0 : Int) ≤ (0 : Int)))
  let c79 := (Int.toNat (0 : Int))
  let c84 := (c79 + s0.2.2.1)
  let c89 := (s0.2.1 c74)
  let c91 := (vow_Hear_r c89 ((s0.2.2.2.2.2.2.2.1[c84]?).getD (0 : Int)))
  let c101 := (c79 + s0.2.2.2.2.1)
  let c107 := (vow_Hear_r c89 ((s0.2.2.2.2.2.2.2.2.1[c101]?).getD (0 : Int)))
  let c114 := (cond c71 c70 c70)
  let c115 := (c114 == (0 : Int))
  let c116 := (decide ((0 : Int) ≤ (1 : Int)))
  let c117 := (Int.toNat (1 : Int))
  let c136 := (cond c30 c17 (cond c45 c17 (cond c52 c17 (cond c59 (cond c69 c72 c17) c17))))
  let c137 := (c136 == (0 : Int))
  let c144 := (cond c30 s0.2.2.2.1 (cond c45 s0.2.2.2.1 (cond c52 s0.2.2.2.1 (cond c59 (cond c69 (cond c115 (s0.2.2.2.1 - c117) s0.2.2.2.1) s0.2.2.2.1) s0.2.2.2.1))))
  let c151 := (cond c30 s0.2.2.1 (cond c45 s0.2.2.1 (cond c52 s0.2.2.1 (cond c59 (cond c69 (cond c115 (c117 + s0.2.2.1) s0.2.2.1) s0.2.2.1) s0.2.2.1))))
  let c165 := (cond c30 c39.2.2.2.2 (cond c45 c46.2.2.2.2 (cond c52 c53.2.2.2.2 (cond c59 (cond c69 (cond c71 c91.2.2.2.2 c107.2.2.2.2) ([] : List Int)) ([] : List Int)))))
  let c166 := c165.length
  let c177 := (cond c30 s0.2.2.2.2.2.1 (cond c45 s0.2.2.2.2.2.1 (cond c52 s0.2.2.2.2.2.1 (cond c59 (cond c69 (cond c115 s0.2.2.2.2.2.1 (s0.2.2.2.2.2.1 - c117)) s0.2.2.2.2.2.1) s0.2.2.2.2.2.1))))
  let c184 := (cond c30 s0.2.2.2.2.1 (cond c45 s0.2.2.2.2.1 (cond c52 s0.2.2.2.2.1 (cond c59 (cond c69 (cond c115 s0.2.2.2.2.1 (c117 + s0.2.2.2.2.1)) s0.2.2.2.2.1) s0.2.2.2.2.1))))
  let c219 := ((s0.2.2.2.2.2.2.2.1.drop c151) ++ c165)
  let c226 := ((s0.2.2.2.2.2.2.2.2.1.drop c184) ++ c165)
  let c236 := (cond c30 s0.2.2.2.2.2.2.1 (cond c45 s0.2.2.2.2.2.2.1 (cond c52 s0.2.2.2.2.2.2.1 (cond c59 (cond c69 (cond c115 s0.2.2.2.2.2.2.1 s0.2.2.2.2.2.2.1) s0.2.2.2.2.2.2.1) s0.2.2.2.2.2.2.1))))
  ((cond c7 ((((decide ((0 : Int) ≤ s0.1)) && c10) && c10) && (((cond c20 c20 true) && (cond c19 true c20)) && (cond c27 ((cond c30 (((c36 && c39.1) && c35) && c34) (cond c45 (((c36 && c46.1) && c35) && c34) (cond c52 (((c36 && c53.1) && c35) && c34) (cond c59 ((cond c60 true (c17 == (1 : Int))) && (cond c69 ((cond c71 (((((c77 && (c78 && (decide (c79 < s0.2.2.2.1)))) && (decide (c84 < s0.2.2.2.2.2.2.2.1.length))) && c91.1) && c76) && c75) ((c70 == (1 : Int)) && (((((c77 && (c78 && (decide (c79 < s0.2.2.2.2.2.1)))) && (decide (c101 < s0.2.2.2.2.2.2.2.2.1.length))) && c107.1) && c76) && c75))) && (cond c115 (c116 && (decide (c117 ≤ s0.2.2.2.1))) ((c114 == (1 : Int)) && (c116 && (decide (c117 ≤ s0.2.2.2.2.2.1)))))) true)) true)))) && (cond c137 ((decide ((c144 + c151) = s0.2.2.2.2.2.2.2.1.length)) && (decide ((c144 + c166) * 8 ≤ 140737488355328))) ((c136 == (1 : Int)) && ((decide ((c177 + c184) = s0.2.2.2.2.2.2.2.2.1.length)) && (decide ((c177 + c166) * 8 ≤ 140737488355328)))))) true))) true), c7, ((IntKind.i64.wrap (s0.1 + (1 : Int))), (cond c27 (cond c30 (fun j => bif Nat.beq j c32 then c39.2.1 else s0.2.1 j) (cond c45 (fun j => bif Nat.beq j c32 then c46.2.1 else s0.2.1 j) (cond c52 (fun j => bif Nat.beq j c32 then c53.2.1 else s0.2.1 j) (cond c59 (cond c69 (cond c71 (fun j => bif Nat.beq j c74 then c91.2.1 else s0.2.1 j) (fun j => bif Nat.beq j c74 then c107.2.1 else s0.2.1 j)) s0.2.1) s0.2.1)))) s0.2.1), (cond c27 (cond c137 0 c151) s0.2.2.1), (cond c27 (cond c137 c219.length c144) s0.2.2.2.1), (cond c27 (cond c137 c184 0) s0.2.2.2.2.1), (cond c27 (cond c137 c177 c226.length) s0.2.2.2.2.2.1), (cond c27 (cond c137 c236 c236) s0.2.2.2.2.2.2.1), (cond c27 (cond c137 c219 s0.2.2.2.2.2.2.2.1) s0.2.2.2.2.2.2.2.1), (cond c27 (cond c137 s0.2.2.2.2.2.2.2.2.1 c226) s0.2.2.2.2.2.2.2.2.1), ()), ((!c7), s0.2.1, s0.2.2.1, s0.2.2.2.1, s0.2.2.2.2.1, s0.2.2.2.2.2.1, s0.2.2.2.2.2.2.1, s0.2.2.2.2.2.2.2.1, s0.2.2.2.2.2.2.2.2.1, ()))
noncomputable def vow_Dance_r (a1 : (List (Int × (Int × (Int × (Int × Int)))))) : Bool × ((Int × (Bool × (Bool × Int))) × (Int × (Bool × (Bool × Int))) × Int × Int) :=
  let c5 := (!(decide ((a1.length : Int) > (1000 : Int))))
  let c78 := (decide ((0 : Int) ≤ (0 : Int)))
  let c79 := (Int.toNat (0 : Int))
  let c116 := (decide ((0 : Int) ≤ (1 : Int)))
  let c117 := (Int.toNat (1 : Int))
  let c247 := ((0 : Int), (false, (false, (0 : Int))))
  let c250 := (loopD 0 [.int .i64, (.arr 2 (.row (.prod (.int .i64) (.prod .bool (.prod .bool (.int .i64)))))), .nat, .nat, .nat, .nat, .unit, (.fl (.int .i64)), (.fl (.int .i64))] [.bool, (.arr 2 (.row (.prod (.int .i64) (.prod .bool (.prod .bool (.int .i64)))))), .nat, .nat, .nat, .nat, .unit, (.fl (.int .i64)), (.fl (.int .i64))] (vow_Dance_l0 a1) ((0 : Int), (fun i => ((([c247, c247] : List (Int × (Bool × (Bool × Int))))[i]?).getD ((0 : Int), (false, (false, (0 : Int)))))), 0, 0, 0, 0, (), ([] : List Int), ([] : List Int), ()))
  let c252 := (decide (c79 < 2))
  let c255 := (decide (c117 < 2))
  let c261 := c250.2.2.1
  ((cond c5 (c250.1 && ((((c78 && c252) && c252) && (c116 && c255)) && c255)) true), ((cond c5 (c261 c79) c247), (cond c5 (c261 c117) c247), (cond c5 (IntKind.i64.wrap ((c250.2.2.2.2.1 : Int) + (c250.2.2.2.2.2.2.1 : Int))) (0 : Int)), (cond c5 (0 : Int) (3 : Int))))
def vow_Dance_e : Ent := ⟨43, [], [(.pure (.fl (.row (.prod (.int .i64) (.prod (.int .i64) (.prod (.int .i64) (.prod (.int .i64) (.int .i64))))))) (Ty.dflt _))], [], [(.pure (.row (.prod (.int .i64) (.prod .bool (.prod .bool (.int .i64))))) (Ty.dflt _)), (.pure (.row (.prod (.int .i64) (.prod .bool (.prod .bool (.int .i64))))) (Ty.dflt _)), (.pure (.int .i64) (Ty.dflt _)), (.pure (.int .i64) (Ty.dflt _))], []⟩
noncomputable def vow_Dance : Fun := ⟨vow_Dance_e, fun x => let r := vow_Dance_r x.1; (r.1, (r.2.1, r.2.2.1, r.2.2.2.1, r.2.2.2.2, ()))⟩
theorem vow_Dance_ev : evFun Try.prog [vow_Grant, vow_Recant, vow_Part, vow_Hear] [⟨[20], [448, 512], ⟨[], [(512, ⟨.tt, (.var 72 (.row (.pair (.sref 5340 1 0 0) (.pair (.sref 5341 1 0 0) (.pure .unit (Ty.dflt _))))))⟩), (5340, ⟨.tt, (.arr (.int .i64) [] false)⟩), (5341, ⟨.tt, (.arr (.int .i64) [] false)⟩), (512, ⟨.tt, (.var 72 (.row (.pair (.own 5332 1) (.pair (.own 5333 1) (.pure .unit (Ty.dflt _))))))⟩), (5332, ⟨.tt, (.arr (.int .i64) [] false)⟩), (5333, ⟨.tt, (.arr (.int .i64) [] false)⟩)], 0⟩, [], [512], [(1, []), (2, [])], []⟩, ⟨[], [], ⟨[], [], 0⟩, [], [], [], [(19, ([75, 76, 77, 78], [(10, 2)])), (21, ([83, 84, 85, 86, 87, 88, 89, 90, 91, 92, 82, 93, 94, 95, 96], [(10, 2)])), (22, ([97, 98, 99, 100, 101, 102], [(10, 2)])), (23, ([103, 104, 105, 106, 107, 108, 109, 110], [(11, 2)]))]⟩] Try.f43 (codeOf Try.f43) vow_Dance_e = vow_Dance.fn := by kernel_rfl
theorem vow_Dance_ok : FunOk Try.prog vow_Dance := fun_ok (opers_ok (oks_cons vow_Grant_ok (oks_cons vow_Recant_ok (oks_cons vow_Part_ok (oks_cons vow_Hear_ok oks_nil))))) Try.call43 Try.func43 (by kernel_rfl) fun x _ => (congrFun vow_Dance_ev x).symm

/- withy/withylaw21.awake -/
noncomputable def withylaw21_awake_r : Bool × (Bool) :=
  let c4 := ((0 : Int), ((0 : Int), (0 : Int)))
  let c5 := ((1 : Int), c4)
  let c8 := ((2 : Int), c4)
  let c17 := (vow_Dance_r (((8 : Int), c5) :: (((8 : Int), c8) :: (((2 : Int), c5) :: (((2 : Int), c8) :: ([] : List (Int × (Int × (Int × (Int × Int))))))))))
  let c20 := (c17.2.2.2.2 == (0 : Int))
  let c22 := (cond c20 c20 true)
  let c29 := (cond c20 c17.2.1.2.2.1 false)
  let c30 := (cond c29 c29 true)
  let c37 := (cond c29 c17.2.2.1.2.2.1 false)
  let c38 := (cond c37 c37 true)
  ((c17.1 && (((((c22 && c22) && c30) && c30) && c38) && c38)), ((cond c37 (c17.2.2.2.1 == (0 : Int)) false)))
def withylaw21_awake_e : Ent := ⟨38, [], [], [], [(.pure .bool (Ty.dflt _))], []⟩
noncomputable def withylaw21_awake : Fun := ⟨withylaw21_awake_e, fun x => let r := withylaw21_awake_r; (r.1, (r.2, ()))⟩
theorem withylaw21_awake_ev : evFun Try.prog [vow_Dance] [] Try.f38 (codeOf Try.f38) withylaw21_awake_e = withylaw21_awake.fn := by kernel_rfl
theorem withylaw21_awake_ok : FunOk Try.prog withylaw21_awake := fun_ok (opers_ok (oks_cons vow_Dance_ok oks_nil)) Try.call38 Try.func38 (by kernel_rfl) fun x _ => (congrFun withylaw21_awake_ev x).symm

/- withy/withyref21.bind -/
noncomputable def withyref21_bind_r (a1 : (Int × (Bool × (Bool × Int)))) : Bool × ((Int × (Bool × (Bool × Int)))) :=
  let c3 := (a1.1 == (2 : Int))
  let c5 := (cond c3 c3 true)
  (((c5 && c5) && c5), (((0 : Int), (false, (true, (cond (cond c3 (decide (a1.2.2.2 < (2147483647 : Int))) false) (a1.1, (a1.2.1, (a1.2.2.1, (IntKind.i64.wrap (a1.2.2.2 + (1 : Int)))))) a1).2.2.2)))))
def withyref21_bind_e : Ent := ⟨61, [], [(.pure (.row (.prod (.int .i64) (.prod .bool (.prod .bool (.int .i64))))) (Ty.dflt _))], [], [(.pure (.row (.prod (.int .i64) (.prod .bool (.prod .bool (.int .i64))))) (Ty.dflt _))], []⟩
noncomputable def withyref21_bind : Fun := ⟨withyref21_bind_e, fun x => let r := withyref21_bind_r x.1; (r.1, (r.2, ()))⟩
theorem withyref21_bind_ev : evFun Try.prog [] [] Try.f61 (codeOf Try.f61) withyref21_bind_e = withyref21_bind.fn := by kernel_rfl
theorem withyref21_bind_ok : FunOk Try.prog withyref21_bind := fun_ok (opers_ok oks_nil) Try.call61 Try.func61 (by kernel_rfl) fun x _ => (congrFun withyref21_bind_ev x).symm

/- withy/withyref21.Grant -/
noncomputable def withyref21_Grant_r (a1 : (Int × (Bool × (Bool × Int)))) : Bool × ((Int × (Bool × (Bool × Int))) × (Bool × (Bool × Bool)) × (List Int)) :=
  let c3 := (a1.1 == (0 : Int))
  let c5 := (cond c3 c3 true)
  let c13 := (cond c3 (!a1.2.2.1) false)
  let c16 := ((4 : Int) :: ([] : List Int))
  let c20 := (withyref21_bind_r a1)
  let c31 := (false, false)
  let c33 := (false, c31)
  ((((c5 && c5) && c5) && (cond c13 ((decide (c16.length * 8 ≤ 140737488355328)) && (cond a1.2.1 c20.1 true)) true)), ((cond c13 (cond a1.2.1 c20.2 ((1 : Int), a1.2)) a1), (cond c13 (cond a1.2.1 (true, c31) c33) c33), (cond c13 c16 ([] : List Int))))
def withyref21_Grant_e : Ent := ⟨39, [], [(.pure (.row (.prod (.int .i64) (.prod .bool (.prod .bool (.int .i64))))) (Ty.dflt _))], [(0, (.arr (.int .i64) [] false))], [(.pure (.row (.prod (.int .i64) (.prod .bool (.prod .bool (.int .i64))))) (Ty.dflt _)), (.row (.pair (.own 0 1) (.pure (.prod .bool (.prod .bool .bool)) (Ty.dflt _))))], []⟩
noncomputable def withyref21_Grant : Fun := ⟨withyref21_Grant_e, fun x => let r := withyref21_Grant_r x.1; (r.1, (r.2.1, r.2.2.1, r.2.2.2, ()))⟩
theorem withyref21_Grant_ev : evFun Try.prog [withyref21_bind] [] Try.f39 (codeOf Try.f39) withyref21_Grant_e = withyref21_Grant.fn := by kernel_rfl
theorem withyref21_Grant_ok : FunOk Try.prog withyref21_Grant := fun_ok (opers_ok (oks_cons withyref21_bind_ok oks_nil)) Try.call39 Try.func39 (by kernel_rfl) fun x _ => (congrFun withyref21_Grant_ev x).symm

/- withy/withyref21.Recant -/
noncomputable def withyref21_Recant_r (a1 : (Int × (Bool × (Bool × Int)))) : Bool × ((Int × (Bool × (Bool × Int))) × (Bool × (Bool × Bool)) × (List Int)) :=
  let c3 := (a1.1 == (1 : Int))
  let c6 := ((5 : Int) :: ([] : List Int))
  let c17 := (false, (false, false))
  ((cond c3 (decide (c6.length * 8 ≤ 140737488355328)) true), ((cond c3 ((2 : Int), a1.2) a1), (cond c3 c17 c17), (cond c3 c6 ([] : List Int))))
def withyref21_Recant_e : Ent := ⟨40, [], [(.pure (.row (.prod (.int .i64) (.prod .bool (.prod .bool (.int .i64))))) (Ty.dflt _))], [(0, (.arr (.int .i64) [] false))], [(.pure (.row (.prod (.int .i64) (.prod .bool (.prod .bool (.int .i64))))) (Ty.dflt _)), (.row (.pair (.own 0 1) (.pure (.prod .bool (.prod .bool .bool)) (Ty.dflt _))))], []⟩
noncomputable def withyref21_Recant : Fun := ⟨withyref21_Recant_e, fun x => let r := withyref21_Recant_r x.1; (r.1, (r.2.1, r.2.2.1, r.2.2.2, ()))⟩
theorem withyref21_Recant_ev : evFun Try.prog [] [] Try.f40 (codeOf Try.f40) withyref21_Recant_e = withyref21_Recant.fn := by kernel_rfl
theorem withyref21_Recant_ok : FunOk Try.prog withyref21_Recant := fun_ok (opers_ok oks_nil) Try.call40 Try.func40 (by kernel_rfl) fun x _ => (congrFun withyref21_Recant_ev x).symm

/- withy/withyref21.Part -/
noncomputable def withyref21_Part_r (a1 : (Int × (Bool × (Bool × Int)))) : Bool × ((Int × (Bool × (Bool × Int))) × (Bool × (Bool × Bool)) × (List Int)) :=
  let c6 := ((7 : Int) :: ([] : List Int))
  ((cond a1.2.2.1 (decide (c6.length * 8 ≤ 140737488355328)) true), ((cond a1.2.2.1 (a1.1, (a1.2.1, (false, a1.2.2.2))) a1), (cond a1.2.2.1 (false, (true, false)) (false, (false, false))), (cond a1.2.2.1 c6 ([] : List Int))))
def withyref21_Part_e : Ent := ⟨41, [], [(.pure (.row (.prod (.int .i64) (.prod .bool (.prod .bool (.int .i64))))) (Ty.dflt _))], [(0, (.arr (.int .i64) [] false))], [(.pure (.row (.prod (.int .i64) (.prod .bool (.prod .bool (.int .i64))))) (Ty.dflt _)), (.row (.pair (.own 0 1) (.pure (.prod .bool (.prod .bool .bool)) (Ty.dflt _))))], []⟩
noncomputable def withyref21_Part : Fun := ⟨withyref21_Part_e, fun x => let r := withyref21_Part_r x.1; (r.1, (r.2.1, r.2.2.1, r.2.2.2, ()))⟩
theorem withyref21_Part_ev : evFun Try.prog [] [] Try.f41 (codeOf Try.f41) withyref21_Part_e = withyref21_Part.fn := by kernel_rfl
theorem withyref21_Part_ok : FunOk Try.prog withyref21_Part := fun_ok (opers_ok oks_nil) Try.call41 Try.func41 (by kernel_rfl) fun x _ => (congrFun withyref21_Part_ev x).symm

/- withy/withyref21.Hear -/
noncomputable def withyref21_Hear_r (a1 : (Int × (Bool × (Bool × Int)))) (a2 : Int) : Bool × ((Int × (Bool × (Bool × Int))) × (Bool × (Bool × Bool)) × (List Int)) :=
  let c2 := (a2 == (4 : Int))
  let c6 := (decide (a1.1 > (0 : Int)))
  let c7 := (withyref21_bind_r a1)
  let c12 := (a2 == (5 : Int))
  let c15 := ((6 : Int) :: ([] : List Int))
  let c21 := (cond c2 (!c6) true)
  let c32 := (a2 == (6 : Int))
  let c34 := (decide (a1.2.2.2 > (0 : Int)))
  let c42 := (a1.1 == (2 : Int))
  let c47 := (a2 == (7 : Int))
  let c58 := (false, false)
  let c59 := (false, c58)
  let c68 := (cond c32 (cond c34 c59 (cond c42 (false, (false, true)) c59)) (cond c47 (cond a1.2.2.1 (false, (true, false)) c59) c59))
  let c70 := c68.2
  ((cond c2 (cond c6 c7.1 true) (cond c12 (decide (c15.length * 8 ≤ 140737488355328)) true)), ((cond c21 (cond c2 (cond (!a1.2.2.1) (a1.1, (true, a1.2.2)) a1) (cond c12 (a1.1, (false, a1.2.2)) (cond c32 (cond c34 (a1.1, (a1.2.1, (a1.2.2.1, (IntKind.i64.wrap (a1.2.2.2 - (1 : Int)))))) (cond c42 ((0 : Int), a1.2) a1)) (cond c47 (cond a1.2.2.1 (a1.1, (a1.2.1, (false, a1.2.2.2))) a1) a1)))) c7.2), (cond c21 (cond c2 c59 (cond c12 c59 (c68.1, (c70.1, c70.2)))) (true, c58)), (cond c21 (cond c2 ([] : List Int) (cond c12 c15 ([] : List Int))) ([] : List Int))))
def withyref21_Hear_e : Ent := ⟨42, [], [(.pure (.row (.prod (.int .i64) (.prod .bool (.prod .bool (.int .i64))))) (Ty.dflt _)), (.pure (.int .i64) (Ty.dflt _))], [(0, (.arr (.int .i64) [] false))], [(.pure (.row (.prod (.int .i64) (.prod .bool (.prod .bool (.int .i64))))) (Ty.dflt _)), (.row (.pair (.own 0 1) (.pure (.prod .bool (.prod .bool .bool)) (Ty.dflt _))))], []⟩
noncomputable def withyref21_Hear : Fun := ⟨withyref21_Hear_e, fun x => let r := withyref21_Hear_r x.1 x.2.1; (r.1, (r.2.1, r.2.2.1, r.2.2.2, ()))⟩
theorem withyref21_Hear_ev : evFun Try.prog [withyref21_bind] [] Try.f42 (codeOf Try.f42) withyref21_Hear_e = withyref21_Hear.fn := by kernel_rfl
theorem withyref21_Hear_ok : FunOk Try.prog withyref21_Hear := fun_ok (opers_ok (oks_cons withyref21_bind_ok oks_nil)) Try.call42 Try.func42 (by kernel_rfl) fun x _ => (congrFun withyref21_Hear_ev x).symm

/- withy/withylaw21.VowSteps -/
noncomputable def withylaw21_VowSteps_r (a1 : (Int × (Bool × (Bool × Int)))) (a2 : Int) : Bool × (Bool) :=
  let c1 := (vow_Grant_r a1)
  let c3 := (vow_Recant_r a1)
  let c5 := (vow_Part_r a1)
  let c8 := (vow_Hear_r a1 a2)
  let c10 := (withyref21_May_r a1)
  let c13 := (!c10.2)
  let c15 := c1.2.2.1
  let c17 := c15.2
  let c22 := (c1.2.2.2.2, (c15.1, (c17.1, c17.2)))
  let c27 := (([] : List Int), (false, (false, false)))
  let c28 := (withyref21_Same_r c22 c27)
  let c30 := c28.2
  let c33 := c3.2.2.1
  let c35 := c33.2
  let c40 := (c3.2.2.2.2, (c33.1, (c35.1, c35.2)))
  let c41 := (withyref21_Same_r c40 c27)
  let c50 := (cond c30 c41.2 false)
  let c53 := c5.2.2.1
  let c55 := c53.2
  let c60 := (c5.2.2.2.2, (c53.1, (c55.1, c55.2)))
  let c61 := (withyref21_Same_r c60 c27)
  let c69 := (cond c50 c61.2 false)
  let c72 := c8.2.2.1
  let c74 := c72.2
  let c79 := (c8.2.2.2.2, (c72.1, (c74.1, c74.2)))
  let c80 := (withyref21_Same_r c79 c27)
  let c87 := c1.2.1
  let c88 := c87.1
  let c91 := c87.2
  let c92 := c91.1
  let c94 := c91.2
  let c95 := c94.1
  let c97 := c94.2
  let c101 := ((c88 == (0 : Int)) && ((c92 == false) && ((c95 == false) && (c97 == (0 : Int)))))
  let c106 := c3.2.1
  let c107 := c106.1
  let c109 := c106.2
  let c110 := c109.1
  let c112 := c109.2
  let c113 := c112.1
  let c115 := c112.2
  let c120 := (cond c101 ((c107 == c88) && ((c110 == c92) && ((c113 == c95) && (c115 == c97)))) false)
  let c126 := c5.2.1
  let c127 := c126.1
  let c129 := c126.2
  let c130 := c129.1
  let c132 := c129.2
  let c133 := c132.1
  let c135 := c132.2
  let c140 := (cond c120 ((c127 == c88) && ((c130 == c92) && ((c133 == c95) && (c135 == c97)))) false)
  let c146 := (vow_Check_r a1)
  let c147 := c146.1
  let c148 := c146.2
  let c150 := (c148 == (1 : Int))
  let c151 := (cond c150 c150 true)
  let c154 := c1.2.2.2.1
  let c156 := (cond c150 (c154 == (1 : Int)) false)
  let c157 := (cond c156 c156 true)
  let c160 := c3.2.2.2.1
  let c162 := (cond c156 (c160 == (1 : Int)) false)
  let c163 := (cond c162 c162 true)
  let c166 := c5.2.2.2.1
  let c168 := (cond c162 (c166 == (1 : Int)) false)
  let c169 := (cond c168 c168 true)
  let c172 := c8.2.2.2.1
  let c174 := (cond c168 (c172 == (1 : Int)) false)
  let c179 := (cond c174 (cond c69 c80.2 false) false)
  let c182 := c8.2.1
  let c183 := c182.1
  let c185 := c182.2
  let c186 := c185.1
  let c188 := c185.2
  let c189 := c188.1
  let c191 := c188.2
  let c197 := (cond c179 (cond c140 ((c183 == c88) && ((c186 == c92) && ((c189 == c95) && (c191 == c97)))) false) false)
  let c198 := (withylaw21_awake_r)
  let c199 := c198.1
  let c208 := (!c13)
  let c209 := (c148 != (0 : Int))
  let c210 := (!c209)
  let c216 := (cond c209 true (c154 != (0 : Int)))
  let c217 := (!c216)
  let c223 := (cond c216 true (c160 != (0 : Int)))
  let c224 := (!c223)
  let c230 := (cond c223 true (c166 != (0 : Int)))
  let c231 := (!c230)
  let c238 := (!(cond c230 true (c172 != (0 : Int))))
  let c239 := (withyref21_Grant_r a1)
  let c241 := c239.2.1
  let c244 := c241.2
  let c247 := c244.2
  let c255 := (!((c88 == c241.1) && ((c92 == c244.1) && ((c95 == c247.1) && (c97 == c247.2)))))
  let c256 := (!c255)
  let c259 := c239.2.2.1
  let c261 := c259.2
  let c267 := (withyref21_Same_r c22 (c239.2.2.2, (c259.1, (c261.1, c261.2))))
  let c278 := (!(cond c255 true (!c267.2)))
  let c279 := (withyref21_Recant_r a1)
  let c281 := c279.2.1
  let c284 := c281.2
  let c287 := c284.2
  let c295 := (!((c107 == c281.1) && ((c110 == c284.1) && ((c113 == c287.1) && (c115 == c287.2)))))
  let c296 := (!c295)
  let c299 := c279.2.2.1
  let c301 := c299.2
  let c307 := (withyref21_Same_r c40 (c279.2.2.2, (c299.1, (c301.1, c301.2))))
  let c318 := (!(cond c295 true (!c307.2)))
  let c319 := (withyref21_Part_r a1)
  let c321 := c319.2.1
  let c324 := c321.2
  let c327 := c324.2
  let c335 := (!((c127 == c321.1) && ((c130 == c324.1) && ((c133 == c327.1) && (c135 == c327.2)))))
  let c336 := (!c335)
  let c339 := c319.2.2.1
  let c341 := c339.2
  let c347 := (withyref21_Same_r c60 (c319.2.2.2, (c339.1, (c341.1, c341.2))))
  let c358 := (!(cond c335 true (!c347.2)))
  let c359 := (withyref21_Hear_r a1 a2)
  let c361 := c359.2.1
  let c364 := c361.2
  let c367 := c364.2
  let c374 := ((c183 == c361.1) && ((c186 == c364.1) && ((c189 == c367.1) && (c191 == c367.2))))
  let c377 := c359.2.2.1
  let c379 := c377.2
  let c385 := (withyref21_Same_r c79 (c359.2.2.2, (c377.1, (c379.1, c379.2))))
  let c392 := (cond c374 c385.2 false)
  let c393 := (withyref21_May_r c182)
  let c401 := (cond c392 c393.2 false)
  let c424 := c198.2
  ((c1.1 && (c3.1 && (c5.1 && (c8.1 && ((c10.1 && (cond c13 (((((((c28.1 && (cond c30 ((c30 && c30) && c41.1) true)) && (cond c30 c30 true)) && (cond c50 ((c50 && c50) && c61.1) true)) && (cond c50 c50 true)) && (cond c69 ((c69 && c69) && c80.1) true)) && (cond c69 c69 true)) && (((((((cond c101 (c101 && c101) true) && (cond c101 c101 true)) && (cond c120 (c120 && c120) true)) && (cond c120 c120 true)) && (cond c140 (c140 && c140) true)) && (cond c140 c140 true)) && ((((((((((((c147 && c151) && c151) && c157) && c157) && c163) && c163) && c169) && c169) && (cond c174 c174 true)) && (cond c179 c179 true)) && (cond c197 c199 true)) && (cond c197 c197 true)))) true)) && (cond c208 (((((((((c147 && (cond c210 c210 true)) && (cond c209 true c210)) && (cond c217 c217 true)) && (cond c216 true c217)) && (cond c224 c224 true)) && (cond c223 true c224)) && (cond c231 c231 true)) && (cond c230 true c231)) && (cond c238 (c239.1 && ((((cond c256 ((c256 && c256) && c267.1) true) && (cond c256 c256 true)) && (cond c255 true c256)) && (cond c278 (c279.1 && ((((cond c296 ((c296 && c296) && c307.1) true) && (cond c296 c296 true)) && (cond c295 true c296)) && (cond c318 (c319.1 && ((((cond c336 ((c336 && c336) && c347.1) true) && (cond c336 c336 true)) && (cond c335 true c336)) && (cond c358 (c359.1 && ((((((cond c374 ((c374 && c374) && c385.1) true) && (cond c374 c374 true)) && (cond c392 (c392 && c393.1) true)) && (cond c392 c392 true)) && (cond c401 c199 true)) && (cond c401 c401 true))) true))) true))) true))) true)) true)))))), ((cond c208 (cond c238 (cond c278 (cond c318 (cond c358 (cond c401 c424 false) false) false) false) false) (cond c197 c424 false))))
def withylaw21_VowSteps_e : Ent := ⟨9, [], [(.pure (.row (.prod (.int .i64) (.prod .bool (.prod .bool (.int .i64))))) (Ty.dflt _)), (.pure (.int .i64) (Ty.dflt _))], [], [(.pure .bool (Ty.dflt _))], []⟩
noncomputable def withylaw21_VowSteps : Fun := ⟨withylaw21_VowSteps_e, fun x => let r := withylaw21_VowSteps_r x.1 x.2.1; (r.1, (r.2, ()))⟩
theorem withylaw21_VowSteps_ev : evFun Try.prog [vow_Grant, vow_Recant, vow_Part, vow_Hear, withyref21_May, withyref21_Same, vow_Check, withylaw21_awake, withyref21_Grant, withyref21_Recant, withyref21_Part, withyref21_Hear] [] Try.f9 (codeOf Try.f9) withylaw21_VowSteps_e = withylaw21_VowSteps.fn := by kernel_rfl
theorem withylaw21_VowSteps_ok : FunOk Try.prog withylaw21_VowSteps := fun_ok (opers_ok (oks_cons vow_Grant_ok (oks_cons vow_Recant_ok (oks_cons vow_Part_ok (oks_cons vow_Hear_ok (oks_cons withyref21_May_ok (oks_cons withyref21_Same_ok (oks_cons vow_Check_ok (oks_cons withylaw21_awake_ok (oks_cons withyref21_Grant_ok (oks_cons withyref21_Recant_ok (oks_cons withyref21_Part_ok (oks_cons withyref21_Hear_ok oks_nil))))))))))))) Try.call9 Try.func9 (by kernel_rfl) fun x _ => (congrFun withylaw21_VowSteps_ev x).symm

/- withy/withyref21.Do -/
noncomputable def withyref21_Do_r (a1 : ((Nat → (Int × (Bool × (Bool × Int)))) × (Nat → (List Int)))) (a2 : (Int × (Int × (Int × (Int × Int))))) : Bool × (((Nat → (Int × (Bool × (Bool × Int)))) × (Nat → (List Int)))) :=
  let c4 := (a2.2.1 != (1 : Int))
  let c6 := (cond c4 c4 true)
  let c13 := (!(cond c4 (a2.2.1 != (2 : Int)) false))
  let c16 := (a2.1 == (8 : Int))
  let c17 := (IntKind.i64.wrap (a2.2.1 - (1 : Int)))
  let c19 := (Int.toNat c17)
  let c21 := (decide (c19 < 2))
  let c22 := ((decide ((0 : Int) ≤ c17)) && c21)
  let c23 := (c22 && c21)
  let c26 := (a1.1 c19)
  let c27 := (withyref21_Grant_r c26)
  let c33 := (a2.1 == (5 : Int))
  let c34 := (withyref21_Recant_r c26)
  let c40 := (a2.1 == (9 : Int))
  let c41 := (withyref21_Part_r c26)
  let c46 := (a2.1 == (2 : Int))
  let c48 := (c17 == (0 : Int))
  let c53 := (a1.2 0)
  let c54 := c53.length
  let c58 := (a1.2 1)
  let c59 := c58.length
  let c63 := (!(cond c48 ((c54 : Int) == (0 : Int)) ((c59 : Int) == (0 : Int))))
  let c64 := (cond c48 c17 c17)
  let c65 := (c64 == (0 : Int))
  let c66 := (decide ((0 : Int) ≤ (0 : Int)))
  let c67 := (Int.toNat (0 : Int))
  let c68 := (decide (c67 < c54))
  let c72 := (decide (c67 < c59))
  let c77 := (cond c65 c64 c64)
  let c78 := (c77 == (0 : Int))
  let c79 := (decide ((0 : Int) ≤ (1 : Int)))
  let c80 := (Int.toNat (1 : Int))
  let c89 := (IntKind.i64.wrap ((1 : Int) - (cond c78 c77 c77)))
  let c91 := (Int.toNat c89)
  let c92 := (decide (c91 < 2))
  let c93 := ((decide ((0 : Int) ≤ c89)) && c92)
  let c105 := (cond c78 (a1.1, (fun i => ((([((c53.drop c80).take (c54 - c80)), c58] : List (List Int))[i]?).getD ([] : List Int)))) (a1.1, (fun i => ((([c53, ((c58.drop c80).take (c59 - c80))] : List (List Int))[i]?).getD ([] : List Int)))))
  let c106 := c105.1
  let c111 := (withyref21_Hear_r (c106 c91) (cond c65 ((c53[c67]?).getD (0 : Int)) ((c58[c67]?).getD (0 : Int))))
  let c127 := (cond c16 true (cond c33 true (cond c40 true (cond c46 c63 true))))
  let c131 := (cond c16 c17 (cond c33 c17 (cond c40 c17 (cond c46 c89 c17))))
  let c132 := (c131 == (0 : Int))
  let c151 := (cond c16 ((fun j => bif Nat.beq j c19 then c27.2.1 else a1.1 j), a1.2) (cond c33 ((fun j => bif Nat.beq j c19 then c34.2.1 else a1.1 j), a1.2) (cond c40 ((fun j => bif Nat.beq j c19 then c41.2.1 else a1.1 j), a1.2) (cond c46 ((fun j => bif Nat.beq j c91 then c111.2.1 else c106 j), c105.2) a1))))
  let c152 := c151.2
  let c153 := (c152 0)
  let c157 := (([] : List Int) ++ c153)
  let c166 := (cond c16 c27.2.2.2 (cond c33 c34.2.2.2 (cond c40 c41.2.2.2 (cond c46 c111.2.2.2 ([] : List Int)))))
  let c167 := c166.length
  let c172 := (c152 1)
  let c176 := (([] : List Int) ++ c172)
  let c187 := c151.1
  ((((c6 && c6) && c6) && (cond c13 ((cond c16 (((c23 && c27.1) && c22) && c21) (cond c33 (((c23 && c34.1) && c22) && c21) (cond c40 (((c23 && c41.1) && c22) && c21) (cond c46 ((cond c48 true (c17 == (1 : Int))) && (cond c63 ((cond c65 ((c66 && c68) && c68) ((c64 == (1 : Int)) && ((c66 && c72) && c72))) && ((cond c78 (c79 && (decide (c80 ≤ c54))) ((c77 == (1 : Int)) && (c79 && (decide (c80 ≤ c59))))) && ((((c93 && c92) && c111.1) && c93) && c92))) true)) true)))) && (cond c127 (cond c132 ((decide ((([] : List Int).length + c153.length) * 8 ≤ 140737488355328)) && (decide ((c157.length + c167) * 8 ≤ 140737488355328))) ((c131 == (1 : Int)) && ((decide ((([] : List Int).length + c172.length) * 8 ≤ 140737488355328)) && (decide ((c176.length + c167) * 8 ≤ 140737488355328))))) true)) true)), ((cond c13 (cond c127 (cond c132 (c187, (fun i => ((([(c157 ++ c166), c172] : List (List Int))[i]?).getD ([] : List Int)))) (c187, (fun i => ((([c153, (c176 ++ c166)] : List (List Int))[i]?).getD ([] : List Int))))) a1) a1)))
def withyref21_Do_e : Ent := ⟨44, [], [(.pure (.row (.prod (.arr 2 (.row (.prod (.int .i64) (.prod .bool (.prod .bool (.int .i64)))))) (.arr 2 (.fl (.int .i64))))) (Ty.dflt _)), (.pure (.row (.prod (.int .i64) (.prod (.int .i64) (.prod (.int .i64) (.prod (.int .i64) (.int .i64)))))) (Ty.dflt _))], [], [(.pure (.row (.prod (.arr 2 (.row (.prod (.int .i64) (.prod .bool (.prod .bool (.int .i64)))))) (.arr 2 (.fl (.int .i64))))) (Ty.dflt _))], []⟩
noncomputable def withyref21_Do : Fun := ⟨withyref21_Do_e, fun x => let r := withyref21_Do_r x.1 x.2.1; (r.1, (r.2, ()))⟩
theorem withyref21_Do_ev : evFun Try.prog [withyref21_Grant, withyref21_Recant, withyref21_Part, withyref21_Hear] [⟨[], [], ⟨[], [], 0⟩, [], [], [], [(13, ([64, 65, 66, 67, 68], [(5, 2)])), (15, ([71, 72, 73, 74, 75, 76], [(5, 2)])), (16, ([77, 78, 79, 80, 81, 82, 83, 84], [(5, 2)])), (19, ([99, 100, 101, 102, 103, 104, 105, 106, 107, 108, 109, 110], [(5, 2)]))]⟩] Try.f44 (codeOf Try.f44) withyref21_Do_e = withyref21_Do.fn := by kernel_rfl
theorem withyref21_Do_ok : FunOk Try.prog withyref21_Do := fun_ok (opers_ok (oks_cons withyref21_Grant_ok (oks_cons withyref21_Recant_ok (oks_cons withyref21_Part_ok (oks_cons withyref21_Hear_ok oks_nil))))) Try.call44 Try.func44 (by kernel_rfl) fun x _ => (congrFun withyref21_Do_ev x).symm

/- withy/withylaw21.VowDances -/
noncomputable def withylaw21_VowDances_l0 (a1 : (List (Int × (Int × (Int × (Int × Int)))))) (s0 : HL [.int .i64, (.row (.prod (.arr 2 (.row (.prod (.int .i64) (.prod .bool (.prod .bool (.int .i64)))))) (.arr 2 (.fl (.int .i64)))))]) : Bool × Bool × HL [.int .i64, (.row (.prod (.arr 2 (.row (.prod (.int .i64) (.prod .bool (.prod .bool (.int .i64)))))) (.arr 2 (.fl (.int .i64)))))] × HL [.bool, (.row (.prod (.arr 2 (.row (.prod (.int .i64) (.prod .bool (.prod .bool (.int .i64)))))) (.arr 2 (.fl (.int .i64)))))] :=
  let c67 := (decide (s0.1 < (a1.length : Int)))
  let c69 := (Int.toNat s0.1)
  let c70 := (decide (c69 < a1.length))
  let c75 := (withyref21_Do_r s0.2.1 ((a1[c69]?).getD ((0 : Int), ((0 : Int), ((0 : Int), ((0 : Int), (0 : Int)))))))
  ((cond c67 ((((decide ((0 : Int) ≤ s0.1)) && c70) && c70) && c75.1) true), c67, ((IntKind.i64.wrap (s0.1 + (1 : Int))), c75.2, ()), ((!c67), s0.2.1, ()))
noncomputable def withylaw21_VowDances_r (a1 : (List (Int × (Int × (Int × (Int × Int)))))) : Bool × (Bool) :=
  let c1 := (vow_Dance_r a1)
  let c6 := (decide ((a1.length : Int) > (1000 : Int)))
  let c7 := c1.2.2.2.2
  let c9 := (c7 == (3 : Int))
  let c15 := c1.2.1
  let c16 := c15.1
  let c19 := c15.2
  let c20 := c19.1
  let c23 := c19.2
  let c24 := c23.1
  let c26 := c23.2
  let c31 := (cond c9 ((c16 == (0 : Int)) && ((c20 == false) && ((c24 == false) && (c26 == (0 : Int))))) false)
  let c37 := c1.2.2.1
  let c38 := c37.1
  let c40 := c37.2
  let c41 := c40.1
  let c43 := c40.2
  let c44 := c43.1
  let c46 := c43.2
  let c51 := (cond c31 ((c38 == (0 : Int)) && ((c41 == false) && ((c44 == false) && (c46 == (0 : Int))))) false)
  let c52 := (cond c51 c51 true)
  let c55 := c1.2.2.2.1
  let c57 := (cond c51 (c55 == (0 : Int)) false)
  let c58 := (withylaw21_awake_r)
  let c59 := c58.1
  let c65 := (!c6)
  let c85 := ((0 : Int), (false, (false, (0 : Int))))
  let c90 := (loopD 0 [.int .i64, (.row (.prod (.arr 2 (.row (.prod (.int .i64) (.prod .bool (.prod .bool (.int .i64)))))) (.arr 2 (.fl (.int .i64)))))] [.bool, (.row (.prod (.arr 2 (.row (.prod (.int .i64) (.prod .bool (.prod .bool (.int .i64)))))) (.arr 2 (.fl (.int .i64)))))] (withylaw21_VowDances_l0 a1) ((0 : Int), ((fun i => ((([c85, c85] : List (Int × (Bool × (Bool × Int))))[i]?).getD ((0 : Int), (false, (false, (0 : Int)))))), (fun i => ((([([] : List Int), ([] : List Int)] : List (List Int))[i]?).getD ([] : List Int)))), ()))
  let c92 := (c7 == (0 : Int))
  let c94 := (Int.toNat (0 : Int))
  let c96 := (decide (c94 < 2))
  let c108 := c90.2.2.1
  let c109 := c108.1
  let c110 := (c109 c94)
  let c113 := c110.2
  let c116 := c113.2
  let c124 := (cond c92 ((c16 == c110.1) && ((c20 == c113.1) && ((c24 == c116.1) && (c26 == c116.2)))) false)
  let c126 := (Int.toNat (1 : Int))
  let c127 := (decide (c126 < 2))
  let c140 := (c109 c126)
  let c143 := c140.2
  let c146 := c143.2
  let c154 := (cond c124 ((c38 == c140.1) && ((c41 == c143.1) && ((c44 == c146.1) && (c46 == c146.2)))) false)
  let c155 := (cond c154 c154 true)
  let c163 := (cond c154 (c154 && c154) true)
  let c167 := c108.2
  let c178 := (cond c154 (c55 == (IntKind.i64.wrap (((c167 0).length : Int) + ((c167 1).length : Int)))) false)
  let c187 := c58.2
  ((c1.1 && ((cond c6 ((((((((cond c9 (c9 && c9) true) && (cond c9 c9 true)) && (cond c31 (c31 && c31) true)) && (cond c31 c31 true)) && c52) && c52) && (cond c57 c59 true)) && (cond c57 c57 true)) true) && (cond c65 (c90.1 && (((((((((((((((((((cond c92 (c92 && ((decide ((0 : Int) ≤ (0 : Int))) && c96)) true) && (cond c92 (c92 && c96) true)) && (cond c92 (c92 && c92) true)) && (cond c92 c92 true)) && (cond c124 (c124 && ((decide ((0 : Int) ≤ (1 : Int))) && c127)) true)) && (cond c124 (c124 && c127) true)) && (cond c124 (c124 && c124) true)) && (cond c124 c124 true)) && c155) && c155) && c155) && c155) && c155) && c155) && c163) && c163) && c155) && (cond c178 c59 true)) && (cond c178 c178 true))) true))), ((cond c65 (cond c178 c187 false) (cond c57 c187 false))))
def withylaw21_VowDances_e : Ent := ⟨10, [], [(.pure (.fl (.row (.prod (.int .i64) (.prod (.int .i64) (.prod (.int .i64) (.prod (.int .i64) (.int .i64))))))) (Ty.dflt _))], [], [(.pure .bool (Ty.dflt _))], []⟩
noncomputable def withylaw21_VowDances : Fun := ⟨withylaw21_VowDances_e, fun x => let r := withylaw21_VowDances_r x.1; (r.1, (r.2, ()))⟩
theorem withylaw21_VowDances_ev : evFun Try.prog [vow_Dance, withylaw21_awake, withyref21_Do] [⟨[8], [1152], ⟨[], [(1152, ⟨.tt, (.var 74 (.pure (.row (.prod (.arr 2 (.row (.prod (.int .i64) (.prod .bool (.prod .bool (.int .i64)))))) (.arr 2 (.fl (.int .i64))))) (Ty.dflt _)))⟩)], 0⟩, [], [1152], [(1, []), (2, [])], []⟩] Try.f10 (codeOf Try.f10) withylaw21_VowDances_e = withylaw21_VowDances.fn := by kernel_rfl
theorem withylaw21_VowDances_ok : FunOk Try.prog withylaw21_VowDances := fun_ok (opers_ok (oks_cons vow_Dance_ok (oks_cons withylaw21_awake_ok (oks_cons withyref21_Do_ok oks_nil)))) Try.call10 Try.func10 (by kernel_rfl) fun x _ => (congrFun withylaw21_VowDances_ev x).symm

/- withy/withylaw21.VowTogether -/
noncomputable def withylaw21_VowTogether_l0 (a1 : (List (Int × (Int × (Int × (Int × Int)))))) (a2 : (List Bool)) (s0 : HL [.int .i64, (.row (.prod (.arr 2 (.row (.prod (.int .i64) (.prod .bool (.prod .bool (.int .i64)))))) (.arr 2 (.fl (.int .i64)))))]) : Bool × Bool × HL [.int .i64, (.row (.prod (.arr 2 (.row (.prod (.int .i64) (.prod .bool (.prod .bool (.int .i64)))))) (.arr 2 (.fl (.int .i64)))))] × HL [.bool, (.row (.prod (.arr 2 (.row (.prod (.int .i64) (.prod .bool (.prod .bool (.int .i64)))))) (.arr 2 (.fl (.int .i64)))))] :=
  let c15 := (decide (s0.1 < (a1.length : Int)))
  let c17 := (Int.toNat s0.1)
  let c18 := (decide (c17 < a1.length))
  let c23 := (withyref21_Do_r s0.2.1 ((a1[c17]?).getD ((0 : Int), ((0 : Int), ((0 : Int), ((0 : Int), (0 : Int)))))))
  ((cond c15 ((((decide ((0 : Int) ≤ s0.1)) && c18) && c18) && c23.1) true), c15, ((IntKind.i64.wrap (s0.1 + (1 : Int))), c23.2, ()), ((!c15), s0.2.1, ()))
noncomputable def withylaw21_VowTogether_l1 (a1 : (List (Int × (Int × (Int × (Int × Int)))))) (a2 : (List Bool)) (s1 : HL [.int .i64, (.row (.prod (.arr 2 (.row (.prod (.int .i64) (.prod .bool (.prod .bool (.int .i64)))))) (.arr 2 (.fl (.int .i64))))), (.fl (.row (.prod (.int .i64) (.prod (.int .i64) (.prod (.int .i64) (.prod (.int .i64) (.int .i64)))))))]) : Bool × Bool × HL [.int .i64, (.row (.prod (.arr 2 (.row (.prod (.int .i64) (.prod .bool (.prod .bool (.int .i64)))))) (.arr 2 (.fl (.int .i64))))), (.fl (.row (.prod (.int .i64) (.prod (.int .i64) (.prod (.int .i64) (.prod (.int .i64) (.int .i64)))))))] × HL [.bool, (.row (.prod (.arr 2 (.row (.prod (.int .i64) (.prod .bool (.prod .bool (.int .i64)))))) (.arr 2 (.fl (.int .i64))))), (.fl (.row (.prod (.int .i64) (.prod (.int .i64) (.prod (.int .i64) (.prod (.int .i64) (.int .i64)))))))] :=
  let c44 := (decide (s1.1 < (700 : Int)))
  let c45 := (cond c44 c44 true)
  let c61 := ((s1.2.1.2 0).length : Int)
  let c65 := ((s1.2.1.2 1).length : Int)
  let c68 := (cond c44 (decide ((IntKind.i64.wrap (c61 + c65)) > (0 : Int))) false)
  let c69 := (c61 == (0 : Int))
  let c70 := (!c69)
  let c71 := (cond c70 c70 true)
  let c75 := (c70 && c70)
  let c76 := (decide (c65 > (0 : Int)))
  let c77 := (c75 && c76)
  let c91 := (cond c76 (decide (s1.1 < (a2.length : Int))) false)
  let c92 := (c75 && c91)
  let c94 := (Int.toNat s1.1)
  let c95 := (decide (c94 < a2.length))
  let c117 := ((0 : Int), ((0 : Int), (0 : Int)))
  let c122 := (cond (cond c69 true (cond c91 ((a2[c94]?).getD false) false)) ((2 : Int), ((2 : Int), c117)) ((2 : Int), ((1 : Int), c117)))
  let c123 := (c122 :: ([] : List (Int × (Int × (Int × (Int × Int))))))
  let c127 := (withyref21_Do_r s1.2.1 c122)
  ((((((((((c45 && c45) && c45) && c45) && c45) && c45) && (cond c44 (c44 && c44) true)) && c45) && c45) && (cond c68 (((((((((((c71 && c71) && c71) && c71) && (cond c77 c77 true)) && (cond c77 (c77 && c77) true)) && (cond c70 (c75 && (cond c76 c77 true)) true)) && (cond c92 (c92 && (c92 && ((decide ((0 : Int) ≤ s1.1)) && c95))) true)) && (cond c92 (c92 && c95) true)) && (cond c70 (c75 && (cond c91 c92 true)) true)) && (cond c69 true c70)) && ((decide ((s1.2.2.1.length + c123.length) * 40 ≤ 140737488355328)) && c127.1)) true)), c68, ((IntKind.i64.wrap (s1.1 + (1 : Int))), c127.2, (s1.2.2.1 ++ c123), ()), ((!c68), s1.2.1, s1.2.2.1, ()))
noncomputable def withylaw21_VowTogether_r (a1 : (List (Int × (Int × (Int × (Int × Int)))))) (a2 : (List Bool)) : Bool × (Bool) :=
  let c4 := (decide ((a1.length : Int) > (300 : Int)))
  let c5 := (withylaw21_awake_r)
  let c6 := c5.1
  let c9 := (!c4)
  let c35 := ((0 : Int), (false, (false, (0 : Int))))
  let c40 := (loopD 0 [.int .i64, (.row (.prod (.arr 2 (.row (.prod (.int .i64) (.prod .bool (.prod .bool (.int .i64)))))) (.arr 2 (.fl (.int .i64)))))] [.bool, (.row (.prod (.arr 2 (.row (.prod (.int .i64) (.prod .bool (.prod .bool (.int .i64)))))) (.arr 2 (.fl (.int .i64)))))] (withylaw21_VowTogether_l0 a1 a2) ((0 : Int), ((fun i => ((([c35, c35] : List (Int × (Bool × (Bool × Int))))[i]?).getD ((0 : Int), (false, (false, (0 : Int)))))), (fun i => ((([([] : List Int), ([] : List Int)] : List (List Int))[i]?).getD ([] : List Int)))), ()))
  let c139 := (loopD 1 [.int .i64, (.row (.prod (.arr 2 (.row (.prod (.int .i64) (.prod .bool (.prod .bool (.int .i64)))))) (.arr 2 (.fl (.int .i64))))), (.fl (.row (.prod (.int .i64) (.prod (.int .i64) (.prod (.int .i64) (.prod (.int .i64) (.int .i64)))))))] [.bool, (.row (.prod (.arr 2 (.row (.prod (.int .i64) (.prod .bool (.prod .bool (.int .i64)))))) (.arr 2 (.fl (.int .i64))))), (.fl (.row (.prod (.int .i64) (.prod (.int .i64) (.prod (.int .i64) (.prod (.int .i64) (.int .i64)))))))] (withylaw21_VowTogether_l1 a1 a2) ((0 : Int), c40.2.2.1, (([] : List (Int × (Int × (Int × (Int × Int))))) ++ a1), ()))
  let c142 := (vow_Dance_r c139.2.2.2.1)
  let c145 := (c142.2.2.2.2 != (0 : Int))
  let c146 := (!c145)
  let c152 := (cond c145 true (c142.2.2.2.1 != (0 : Int)))
  let c153 := (!c152)
  let c154 := (cond c153 c153 true)
  let c162 := c142.2.1
  let c163 := c162.2
  let c164 := c163.2
  let c166 := c142.2.2.1
  let c167 := c166.2
  let c168 := c167.2
  let c173 := (!(cond c152 true (!(c164.1 == c168.1))))
  let c174 := c162.1
  let c175 := (c174 != (1 : Int))
  let c176 := (!c175)
  let c177 := (cond c176 c176 true)
  let c181 := c166.1
  let c183 := (cond c175 true (c181 != (1 : Int)))
  let c184 := (cond c183 c183 true)
  let c189 := (cond c183 (c174 != (2 : Int)) false)
  let c190 := (cond c189 c189 true)
  let c195 := (cond c189 (c181 != (2 : Int)) false)
  let c196 := (cond c195 c195 true)
  let c207 := (cond c195 (c163.1 == (c181 == (1 : Int))) false)
  let c208 := (cond c207 c207 true)
  let c219 := (cond c207 (c167.1 == (c174 == (1 : Int))) false)
  let c220 := (cond c219 c219 true)
  let c226 := (cond c219 (c164.2 == (0 : Int)) false)
  let c227 := (cond c226 c226 true)
  let c233 := (cond c226 (c168.2 == (0 : Int)) false)
  let c246 := c5.2
  (((cond c4 c6 true) && (cond c9 ((decide ((([] : List (Int × (Int × (Int × (Int × Int))))).length + a1.length) * 40 ≤ 140737488355328)) && (c40.1 && (c139.1 && (c142.1 && (((((((cond c146 c146 true) && (cond c145 true c146)) && c154) && c154) && (cond c153 (c153 && c153) true)) && (cond c152 true c153)) && (cond c173 ((((((((((((((((((((((((((c177 && c177) && (cond c175 true c176)) && c184) && c184) && c184) && c190) && c190) && c190) && c196) && c196) && c196) && (cond c195 (c195 && c195) true)) && c196) && c208) && c208) && c208) && (cond c207 (c207 && c207) true)) && c208) && c220) && c220) && c220) && c227) && c227) && c227) && (cond c233 c6 true)) && (cond c233 c233 true)) true)))))) true)), ((cond c9 (cond c173 (cond c233 c246 false) false) c246)))
def withylaw21_VowTogether_e : Ent := ⟨11, [], [(.pure (.fl (.row (.prod (.int .i64) (.prod (.int .i64) (.prod (.int .i64) (.prod (.int .i64) (.int .i64))))))) (Ty.dflt _)), (.pure (.fl .bool) (Ty.dflt _))], [], [(.pure .bool (Ty.dflt _))], []⟩
noncomputable def withylaw21_VowTogether : Fun := ⟨withylaw21_VowTogether_e, fun x => let r := withylaw21_VowTogether_r x.1 x.2.1; (r.1, (r.2, ()))⟩
theorem withylaw21_VowTogether_ev : evFun Try.prog [withylaw21_awake, withyref21_Do, vow_Dance] [⟨[7], [576], ⟨[], [(576, ⟨.tt, (.var 74 (.pure (.row (.prod (.arr 2 (.row (.prod (.int .i64) (.prod .bool (.prod .bool (.int .i64)))))) (.arr 2 (.fl (.int .i64))))) (Ty.dflt _)))⟩)], 0⟩, [], [576], [(1, []), (2, [])], []⟩, ⟨[8, 5], [576], ⟨[], [], 0⟩, [], [], [(1, []), (4, [5])], []⟩] Try.f11 (codeOf Try.f11) withylaw21_VowTogether_e = withylaw21_VowTogether.fn := by kernel_rfl
theorem withylaw21_VowTogether_ok : FunOk Try.prog withylaw21_VowTogether := fun_ok (opers_ok (oks_cons withylaw21_awake_ok (oks_cons withyref21_Do_ok (oks_cons vow_Dance_ok oks_nil)))) Try.call11 Try.func11 (by kernel_rfl) fun x _ => (congrFun withylaw21_VowTogether_ev x).symm

/- withy/withylaw21.VowAlone -/
noncomputable def withylaw21_VowAlone_l0 (a1 : (List Bool)) (s0 : HL [.int .i64, (.fl (.row (.prod (.int .i64) (.prod (.int .i64) (.prod (.int .i64) (.prod (.int .i64) (.int .i64)))))))]) : Bool × Bool × HL [.int .i64, (.fl (.row (.prod (.int .i64) (.prod (.int .i64) (.prod (.int .i64) (.prod (.int .i64) (.int .i64)))))))] × HL [.bool, (.fl (.row (.prod (.int .i64) (.prod (.int .i64) (.prod (.int .i64) (.prod (.int .i64) (.int .i64)))))))] :=
  let c4 := (decide (s0.1 < (a1.length : Int)))
  let c6 := (cond c4 c4 true)
  let c11 := (cond c4 (decide (s0.1 < (100 : Int))) false)
  let c18 := ((0 : Int), ((0 : Int), (0 : Int)))
  let c19 := ((1 : Int), c18)
  let c22 := (((8 : Int), c19) :: ([] : List (Int × (Int × (Int × (Int × Int))))))
  let c27 := (Int.toNat s0.1)
  let c28 := (decide (c27 < a1.length))
  let c31 := ((a1[c27]?).getD false)
  let c32 := (s0.2.1 ++ c22)
  let c35 := ((2 : Int), c19)
  let c36 := (c35 :: ([] : List (Int × (Int × (Int × (Int × Int))))))
  let c43 := (cond c31 (c32 ++ c36) c32)
  let c47 := (((5 : Int), c19) :: ([] : List (Int × (Int × (Int × (Int × Int))))))
  (((c6 && c6) && (cond c11 ((decide ((s0.2.1.length + c22.length) * 40 ≤ 140737488355328)) && (((((decide ((0 : Int) ≤ s0.1)) && c28) && c28) && (cond c31 (decide ((c32.length + c36.length) * 40 ≤ 140737488355328)) true)) && (decide ((c43.length + c47.length) * 40 ≤ 140737488355328)))) true)), c11, ((IntKind.i64.wrap (s0.1 + (1 : Int))), (c43 ++ c47), ()), ((!c11), s0.2.1, ()))
noncomputable def withylaw21_VowAlone_l1 (a1 : (List Bool)) (s1 : HL [.int .i64, (.fl (.row (.prod (.int .i64) (.prod (.int .i64) (.prod (.int .i64) (.prod (.int .i64) (.int .i64)))))))]) : Bool × Bool × HL [.int .i64, (.fl (.row (.prod (.int .i64) (.prod (.int .i64) (.prod (.int .i64) (.prod (.int .i64) (.int .i64)))))))] × HL [.bool, (.fl (.row (.prod (.int .i64) (.prod (.int .i64) (.prod (.int .i64) (.prod (.int .i64) (.int .i64)))))))] :=
  let c18 := ((0 : Int), ((0 : Int), (0 : Int)))
  let c19 := ((1 : Int), c18)
  let c35 := ((2 : Int), c19)
  let c62 := (decide (s1.1 < (400 : Int)))
  let c68 := (c35 :: (((2 : Int), ((2 : Int), c18)) :: ([] : List (Int × (Int × (Int × (Int × Int)))))))
  ((cond c62 (decide ((s1.2.1.length + c68.length) * 40 ≤ 140737488355328)) true), c62, ((IntKind.i64.wrap (s1.1 + (1 : Int))), (s1.2.1 ++ c68), ()), ((!c62), s1.2.1, ()))
noncomputable def withylaw21_VowAlone_r (a1 : (List Bool)) : Bool × (Bool) :=
  let c58 := (loopD 0 [.int .i64, (.fl (.row (.prod (.int .i64) (.prod (.int .i64) (.prod (.int .i64) (.prod (.int .i64) (.int .i64)))))))] [.bool, (.fl (.row (.prod (.int .i64) (.prod (.int .i64) (.prod (.int .i64) (.prod (.int .i64) (.int .i64)))))))] (withylaw21_VowAlone_l0 a1) ((0 : Int), ([] : List (Int × (Int × (Int × (Int × Int))))), ()))
  let c77 := (loopD 1 [.int .i64, (.fl (.row (.prod (.int .i64) (.prod (.int .i64) (.prod (.int .i64) (.prod (.int .i64) (.int .i64)))))))] [.bool, (.fl (.row (.prod (.int .i64) (.prod (.int .i64) (.prod (.int .i64) (.prod (.int .i64) (.int .i64)))))))] (withylaw21_VowAlone_l1 a1) ((0 : Int), c58.2.2.1, ()))
  let c79 := c77.2.2.1
  let c80 := c79.length
  let c81 := (c80 : Int)
  let c83 := (decide (c81 > (1000 : Int)))
  let c84 := (IntKind.i64.wrap (c81 - (1000 : Int)))
  let c86 := (Int.toNat c84)
  let c96 := (vow_Dance_r ((c79.drop (cond c83 c86 0)).take (cond c83 (c80 - c86) c80)))
  let c99 := (c96.2.2.2.2 == (0 : Int))
  let c100 := (cond c99 c99 true)
  let c105 := c96.2.1.2.2
  let c108 := (cond c99 (!c105.1) false)
  let c109 := (cond c108 c108 true)
  let c113 := c96.2.2.1
  let c114 := c113.2
  let c115 := c114.2
  let c116 := c115.1
  let c118 := (cond c108 (!c116) false)
  let c119 := (cond c118 c118 true)
  let c125 := (cond c118 (c105.2 == (0 : Int)) false)
  let c126 := (cond c125 c125 true)
  let c135 := c114.1
  let c143 := (cond c125 ((c113.1 == (0 : Int)) && ((c135 == c135) && ((c116 == false) && (c115.2 == (0 : Int))))) false)
  let c144 := (withylaw21_awake_r)
  ((c58.1 && (c77.1 && ((cond c83 ((decide ((0 : Int) ≤ c84)) && (decide (c86 ≤ c80))) true) && (c96.1 && ((((((((((((((c100 && c100) && c100) && c109) && c109) && c109) && c119) && c119) && c119) && c126) && c126) && (cond c125 (c125 && c125) true)) && c126) && (cond c143 c144.1 true)) && (cond c143 c143 true)))))), ((cond c143 c144.2 false)))
def withylaw21_VowAlone_e : Ent := ⟨12, [], [(.pure (.fl .bool) (Ty.dflt _))], [], [(.pure .bool (Ty.dflt _))], []⟩
noncomputable def withylaw21_VowAlone : Fun := ⟨withylaw21_VowAlone_e, fun x => let r := withylaw21_VowAlone_r x.1; (r.1, (r.2, ()))⟩
theorem withylaw21_VowAlone_ev : evFun Try.prog [vow_Dance, withylaw21_awake] [⟨[4, 3], [], ⟨[], [], 0⟩, [], [], [(1, []), (2, [3])], []⟩, ⟨[5, 3], [], ⟨[], [], 0⟩, [], [], [(1, []), (4, [3])], []⟩] Try.f12 (codeOf Try.f12) withylaw21_VowAlone_e = withylaw21_VowAlone.fn := by kernel_rfl
theorem withylaw21_VowAlone_ok : FunOk Try.prog withylaw21_VowAlone := fun_ok (opers_ok (oks_cons vow_Dance_ok (oks_cons withylaw21_awake_ok oks_nil))) Try.call12 Try.func12 (by kernel_rfl) fun x _ => (congrFun withylaw21_VowAlone_ev x).symm

end Go.Proofs.Ytjeeofakogoboaa.T
