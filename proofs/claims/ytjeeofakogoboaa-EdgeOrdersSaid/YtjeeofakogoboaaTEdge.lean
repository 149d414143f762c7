/- What functions come to. -/
import Derived.Test.YtjeeofakogoboaaTm4
import Derived.KernelRfl
import Derived.Test.YtjeeofakogoboaaRows
namespace Go.Proofs.Ytjeeofakogoboaa.T
open Go.Vm Go.Tm
set_option linter.unusedVariables false
/- cmp.isNaN[int] -/
noncomputable def cmp_isNaN_int__r (a1 : Int) : Bool × (Bool) :=
  (true, ((a1 != a1)))
def cmp_isNaN_int__e : Ent := ⟨71, [], [(.pure (.int .i64) (Ty.dflt _))], [], [(.pure .bool (Ty.dflt _))], []⟩
noncomputable def cmp_isNaN_int_ : Fun := ⟨cmp_isNaN_int__e, fun x => let r := cmp_isNaN_int__r x.1; (r.1, (r.2, ()))⟩
theorem cmp_isNaN_int__ev : evFun Try.prog [] [] Try.f71 (codeOf Try.f71) cmp_isNaN_int__e = cmp_isNaN_int_.fn := by kernel_rfl
theorem cmp_isNaN_int__ok : FunOk Try.prog cmp_isNaN_int_ := fun_ok (opers_ok oks_nil) Try.call71 Try.func71 (by kernel_rfl) fun x _ => (congrFun cmp_isNaN_int__ev x).symm

/- cmp.Compare[int] -/
noncomputable def cmp_Compare_int__r (a1 : Int) (a2 : Int) : Bool × (Int) :=
  let c1 := (cmp_isNaN_int__r a1)
  let c4 := (cmp_isNaN_int__r a2)
  let c10 := (!c4.2)
  ((c1.1 && c4.1), ((cond (!c1.2) (cond c10 (cond (!(decide (a1 < a2))) (cond (!(decide (a1 > a2))) (0 : Int) (1 : Int)) (-1 : Int)) (1 : Int)) (cond c10 (-1 : Int) (0 : Int)))))
def cmp_Compare_int__e : Ent := ⟨59, [], [(.pure (.int .i64) (Ty.dflt _)), (.pure (.int .i64) (Ty.dflt _))], [], [(.pure (.int .i64) (Ty.dflt _))], []⟩
noncomputable def cmp_Compare_int_ : Fun := ⟨cmp_Compare_int__e, fun x => let r := cmp_Compare_int__r x.1 x.2.1; (r.1, (r.2, ()))⟩
theorem cmp_Compare_int__ev : evFun Try.prog [cmp_isNaN_int_] [] Try.f59 (codeOf Try.f59) cmp_Compare_int__e = cmp_Compare_int_.fn := by kernel_rfl
theorem cmp_Compare_int__ok : FunOk Try.prog cmp_Compare_int_ := fun_ok (opers_ok (oks_cons cmp_isNaN_int__ok oks_nil)) Try.call59 Try.func59 (by kernel_rfl) fun x _ => (congrFun cmp_Compare_int__ev x).symm

/- cmp.Or[int] -/
noncomputable def cmp_Or_int__l0 (a1 : (List Int)) (s0 : HL [.int .i64]) : Bool × Bool × HL [.int .i64] × HL [.bool, .int .i64, .bool] :=
  let c4 := (decide (s0.1 < (a1.length : Int)))
  let c6 := (Int.toNat s0.1)
  let c7 := (decide (c6 < a1.length))
  let c12 := ((a1[c6]?).getD (0 : Int))
  let c14 := (c12 != (0 : Int))
  ((cond c4 (((decide ((0 : Int) ≤ s0.1)) && c7) && c7) true), (c4 && (!c14)), ((IntKind.i64.wrap (s0.1 + (1 : Int))), ()), ((c4 && c14), c12, (!c4), ()))
noncomputable def cmp_Or_int__r (a1 : (List Int)) : Bool × (Int) :=
  let c21 := (loopD 0 [.int .i64] [.bool, .int .i64, .bool] (cmp_Or_int__l0 a1) ((0 : Int), ()))
  (c21.1, ((cond c21.2.2.2.1 (0 : Int) c21.2.2.1)))
def cmp_Or_int__e : Ent := ⟨58, [], [(.pure (.fl (.int .i64)) (Ty.dflt _))], [], [(.pure (.int .i64) (Ty.dflt _))], []⟩
noncomputable def cmp_Or_int_ : Fun := ⟨cmp_Or_int__e, fun x => let r := cmp_Or_int__r x.1; (r.1, (r.2, ()))⟩
theorem cmp_Or_int__ev : evFun Try.prog [] [⟨[8], [], ⟨[], [], 0⟩, [], [], [(1, [2]), (2, [])]⟩] Try.f58 (codeOf Try.f58) cmp_Or_int__e = cmp_Or_int_.fn := by kernel_rfl
theorem cmp_Or_int__ok : FunOk Try.prog cmp_Or_int_ := fun_ok (opers_ok oks_nil) Try.call58 Try.func58 (by kernel_rfl) fun x _ => (congrFun cmp_Or_int__ev x).symm

/- withy/edge.Compare -/
noncomputable def edge_Compare_r (a1 : (Int × (Int × Int))) (a2 : (Int × (Int × Int))) : Bool × (Int) :=
  let c6 := (cmp_Compare_int__r a1.2.2 a2.2.2)
  let c10 := (cmp_Compare_int__r a1.1 a2.1)
  let c15 := (cmp_Compare_int__r a1.2.1 a2.2.1)
  let c25 := (cmp_Or_int__r (c6.2 :: (c10.2 :: (c15.2 :: ([] : List Int)))))
  ((((c6.1 && c10.1) && c15.1) && c25.1), (c25.2))
def edge_Compare_e : Ent := ⟨29, [], [(.pure (.row (.prod (.int .i64) (.prod (.int .i64) (.int .i64)))) (Ty.dflt _)), (.pure (.row (.prod (.int .i64) (.prod (.int .i64) (.int .i64)))) (Ty.dflt _))], [], [(.pure (.int .i64) (Ty.dflt _))], []⟩
noncomputable def edge_Compare : Fun := ⟨edge_Compare_e, fun x => let r := edge_Compare_r x.1 x.2.1; (r.1, (r.2, ()))⟩
theorem edge_Compare_ev : evFun Try.prog [cmp_Compare_int_, cmp_Or_int_] [] Try.f29 (codeOf Try.f29) edge_Compare_e = edge_Compare.fn := by kernel_rfl
theorem edge_Compare_ok : FunOk Try.prog edge_Compare := fun_ok (opers_ok (oks_cons cmp_Compare_int__ok (oks_cons cmp_Or_int__ok oks_nil))) Try.call29 Try.func29 (by kernel_rfl) fun x _ => (congrFun edge_Compare_ev x).symm

/- withy/withyref05.Less -/
noncomputable def withyref05_Less_r (a1 : (Int × (Int × Int))) (a2 : (Int × (Int × Int))) : Bool × (Bool) :=
  let c7 := (!(a1.2.2 != a2.2.2))
  let c10 := (decide (a1.1 < a2.1))
  let c11 := (!c10)
  let c13 := (cond c11 c11 true)
  let c15 := (c11 && c11)
  let c18 := (a1.1 == a2.1)
  let c19 := (c15 && c18)
  let c20 := (cond c19 c19 true)
  ((cond c7 (((((((c13 && c13) && (cond c11 c15 true)) && c20) && c20) && (cond c19 (c19 && c19) true)) && (cond c11 (c15 && (cond c18 c19 true)) true)) && (cond c10 true c11)) true), ((cond c7 (cond c10 true (cond c18 (decide (a1.2.1 < a2.2.1)) false)) (decide (a1.2.2 < a2.2.2)))))
def withyref05_Less_e : Ent := ⟨30, [], [(.pure (.row (.prod (.int .i64) (.prod (.int .i64) (.int .i64)))) (Ty.dflt _)), (.pure (.row (.prod (.int .i64) (.prod (.int .i64) (.int .i64)))) (Ty.dflt _))], [], [(.pure .bool (Ty.dflt _))], []⟩
noncomputable def withyref05_Less : Fun := ⟨withyref05_Less_e, fun x => let r := withyref05_Less_r x.1 x.2.1; (r.1, (r.2, ()))⟩
theorem withyref05_Less_ev : evFun Try.prog [] [] Try.f30 (codeOf Try.f30) withyref05_Less_e = withyref05_Less.fn := by kernel_rfl
theorem withyref05_Less_ok : FunOk Try.prog withyref05_Less := fun_ok (opers_ok oks_nil) Try.call30 Try.func30 (by kernel_rfl) fun x _ => (congrFun withyref05_Less_ev x).symm

/- withy/edge.Node -/
noncomputable def edge_Node_r (a1 : Int) : Bool × (Bool) :=
  let c2 := (decide (a1 ≥ (1 : Int)))
  let c4 := (cond c2 c2 true)
  ((c4 && c4), ((cond c2 (decide (a1 ≤ (64 : Int))) false)))
def edge_Node_e : Ent := ⟨16, [], [(.pure (.int .i64) (Ty.dflt _))], [], [(.pure .bool (Ty.dflt _))], []⟩
noncomputable def edge_Node : Fun := ⟨edge_Node_e, fun x => let r := edge_Node_r x.1; (r.1, (r.2, ()))⟩
theorem edge_Node_ev : evFun Try.prog [] [] Try.f16 (codeOf Try.f16) edge_Node_e = edge_Node.fn := by kernel_rfl
theorem edge_Node_ok : FunOk Try.prog edge_Node := fun_ok (opers_ok oks_nil) Try.call16 Try.func16 (by kernel_rfl) fun x _ => (congrFun edge_Node_ev x).symm

/- withy/edge.Check -/
noncomputable def edge_Check_r (a1 : (Int × (Int × Int))) : Bool × (Int) :=
  let c2 := (edge_Node_r a1.1)
  let c5 := (!c2.2)
  let c6 := (!c5)
  let c8 := (cond c6 c6 true)
  let c12 := (edge_Node_r a1.2.1)
  let c22 := (cond c5 true (!c12.2))
  let c23 := (!c22)
  let c24 := (cond c23 c23 true)
  let c33 := (cond c22 true (decide (a1.1 ≥ a1.2.1)))
  let c34 := (!c33)
  let c35 := (cond c34 c34 true)
  let c43 := (cond c33 true (decide (a1.2.2 < (0 : Int))))
  let c44 := (!c43)
  let c45 := (cond c44 c44 true)
  (((((((((((((((c2.1 && c8) && (cond c6 (c6 && c12.1) true)) && c8) && (cond c5 true c6)) && c24) && c24) && (cond c23 (c23 && c23) true)) && (cond c22 true c23)) && c35) && c35) && (cond c33 true c34)) && c45) && c45) && (cond c43 true c44)), ((cond (!(cond c43 true (decide (a1.2.2 > (2147483647 : Int))))) (0 : Int) (1 : Int))))
def edge_Check_e : Ent := ⟨18, [], [(.pure (.row (.prod (.int .i64) (.prod (.int .i64) (.int .i64)))) (Ty.dflt _))], [], [(.pure (.int .i64) (Ty.dflt _))], []⟩
noncomputable def edge_Check : Fun := ⟨edge_Check_e, fun x => let r := edge_Check_r x.1; (r.1, (r.2, ()))⟩
theorem edge_Check_ev : evFun Try.prog [edge_Node] [] Try.f18 (codeOf Try.f18) edge_Check_e = edge_Check.fn := by kernel_rfl
theorem edge_Check_ok : FunOk Try.prog edge_Check := fun_ok (opers_ok (oks_cons edge_Node_ok oks_nil)) Try.call18 Try.func18 (by kernel_rfl) fun x _ => (congrFun edge_Check_ev x).symm

/- withy/edge.Of -/
noncomputable def edge_Of_r (a1 : Int) (a2 : Int) (a3 : Int) : Bool × ((Int × (Int × Int)) × Int) :=
  let c6 := ((if a2 < a1 then a2 else a1), ((if a1 < a2 then a2 else a1), a3))
  let c7 := (edge_Check_r c6)
  let c12 := (!(c7.2 != (0 : Int)))
  let c15 := (cond c12 c6 ((0 : Int), ((0 : Int), (0 : Int))))
  let c17 := c15.2
  (c7.1, ((c15.1, (c17.1, c17.2)), (cond c12 (0 : Int) (1 : Int))))
def edge_Of_e : Ent := ⟨15, [], [(.pure (.int .i64) (Ty.dflt _)), (.pure (.int .i64) (Ty.dflt _)), (.pure (.int .i64) (Ty.dflt _))], [], [(.pure (.row (.prod (.int .i64) (.prod (.int .i64) (.int .i64)))) (Ty.dflt _)), (.pure (.int .i64) (Ty.dflt _))], []⟩
noncomputable def edge_Of : Fun := ⟨edge_Of_e, fun x => let r := edge_Of_r x.1 x.2.1 x.2.2.1; (r.1, (r.2.1, r.2.2, ()))⟩
theorem edge_Of_ev : evFun Try.prog [edge_Check] [] Try.f15 (codeOf Try.f15) edge_Of_e = edge_Of.fn := by kernel_rfl
theorem edge_Of_ok : FunOk Try.prog edge_Of := fun_ok (opers_ok (oks_cons edge_Check_ok oks_nil)) Try.call15 Try.func15 (by kernel_rfl) fun x _ => (congrFun edge_Of_ev x).symm

/- withy/edge.Other -/
noncomputable def edge_Other_r (a1 : (Int × (Int × Int))) (a2 : Int) : Bool × (Int) :=
  let c13 := ((a1.1 == a2) && ((a1.2.1 == a1.2.1) && (a1.2.2 == a1.2.2)))
  (true, ((cond ((!(a1.2.1 == a2)) && (!c13)) (0 : Int) (cond c13 a1.2.1 a1.1))))
def edge_Other_e : Ent := ⟨21, [], [(.pure (.row (.prod (.int .i64) (.prod (.int .i64) (.int .i64)))) (Ty.dflt _)), (.pure (.int .i64) (Ty.dflt _))], [], [(.pure (.int .i64) (Ty.dflt _))], []⟩
noncomputable def edge_Other : Fun := ⟨edge_Other_e, fun x => let r := edge_Other_r x.1 x.2.1; (r.1, (r.2, ()))⟩
theorem edge_Other_ev : evFun Try.prog [] [] Try.f21 (codeOf Try.f21) edge_Other_e = edge_Other.fn := by kernel_rfl
theorem edge_Other_ok : FunOk Try.prog edge_Other := fun_ok (opers_ok oks_nil) Try.call21 Try.func21 (by kernel_rfl) fun x _ => (congrFun edge_Other_ev x).symm

/- withy/withylaw05.awake -/
noncomputable def withylaw05_awake_r : Bool × (Bool) :=
  let c3 := (edge_Of_r (3 : Int) (1 : Int) (7 : Int))
  let c7 := (c3.2.2 == (0 : Int))
  let c13 := c3.2.1
  let c14 := c13.1
  let c16 := c13.2
  let c17 := c16.1
  let c19 := c16.2
  let c24 := (cond c7 ((c14 == (1 : Int)) && ((c17 == (3 : Int)) && (c19 == (7 : Int)))) false)
  let c26 := (edge_Node_r (64 : Int))
  let c33 := (cond c24 c26.2 false)
  let c35 := (edge_Node_r (65 : Int))
  let c39 := (cond c33 c33 true)
  let c44 := (cond c33 (!c35.2) false)
  let c47 := (edge_Other_r (c14, (c17, c19)) (3 : Int))
  let c52 := (cond c44 c44 true)
  ((c3.1 && ((((((((((cond c7 (c7 && c7) true) && (cond c7 c7 true)) && (cond c24 c26.1 true)) && (cond c24 c24 true)) && (cond c33 c35.1 true)) && c39) && c39) && (cond c44 (c44 && c47.1) true)) && c52) && c52)), ((cond c44 (c47.2 == (1 : Int)) false)))
def withylaw05_awake_e : Ent := ⟨20, [], [], [], [(.pure .bool (Ty.dflt _))], []⟩
noncomputable def withylaw05_awake : Fun := ⟨withylaw05_awake_e, fun x => let r := withylaw05_awake_r; (r.1, (r.2, ()))⟩
theorem withylaw05_awake_ev : evFun Try.prog [edge_Of, edge_Node, edge_Other] [] Try.f20 (codeOf Try.f20) withylaw05_awake_e = withylaw05_awake.fn := by kernel_rfl
theorem withylaw05_awake_ok : FunOk Try.prog withylaw05_awake := fun_ok (opers_ok (oks_cons edge_Of_ok (oks_cons edge_Node_ok (oks_cons edge_Other_ok oks_nil)))) Try.call20 Try.func20 (by kernel_rfl) fun x _ => (congrFun withylaw05_awake_ev x).symm

/- withy/withylaw05.EdgeOrders -/
noncomputable def withylaw05_EdgeOrders_r (a1 : (Int × (Int × Int))) (a2 : (Int × (Int × Int))) (a3 : (Int × (Int × Int))) : Bool × (Bool) :=
  let c6 := (a1.1, (a1.2.1, a1.2.2))
  let c13 := (a2.1, (a2.2.1, a2.2.2))
  let c14 := (edge_Compare_r c6 c13)
  let c22 := (a3.1, (a3.2.1, a3.2.2))
  let c23 := (edge_Compare_r c13 c22)
  let c26 := (edge_Compare_r c6 c22)
  let c29 := (withyref05_Less_r c6 c13)
  let c31 := c14.2
  let c36 := (!((decide (c31 < (0 : Int))) == c29.2))
  let c37 := (!c36)
  let c42 := (cond c37 (c37 && c37) true)
  let c55 := (cond c36 true (!((c31 == (0 : Int)) == ((a1.1 == a2.1) && ((a1.2.1 == a2.2.1) && (a1.2.2 == a2.2.2))))))
  let c56 := (!c55)
  let c57 := (c56 && c56)
  let c58 := (edge_Compare_r c13 c6)
  let c72 := (cond c55 true (c58.2 != (IntKind.i64.wrap (0 - c31))))
  let c73 := (!c72)
  let c80 := (cond c72 true (decide (c31 < (-1 : Int))))
  let c81 := (!c80)
  let c89 := (!(cond c80 true (decide (c31 > (1 : Int)))))
  let c90 := (decide (c31 > (0 : Int)))
  let c91 := (!c90)
  let c97 := (cond c90 true (decide (c23.2 > (0 : Int))))
  let c98 := (!c97)
  let c105 := (cond c97 true (decide (c26.2 ≤ (0 : Int))))
  let c106 := (withylaw05_awake_r)
  ((((c14.1 && c23.1) && c26.1) && (((((((((((((c29.1 && (cond c37 c37 true)) && c42) && c42) && (cond c36 true c37)) && (cond c56 (c57 && c58.1) true)) && (cond c56 c56 true)) && (cond c56 c57 true)) && (cond c55 true c56)) && (cond c73 c73 true)) && (cond c72 true c73)) && (cond c81 c81 true)) && (cond c80 true c81)) && (cond c89 ((((((cond c91 c91 true) && (cond c90 true c91)) && (cond c98 c98 true)) && (cond c97 true c98)) && (cond c105 c106.1 true)) && (cond c105 c105 true)) true))), ((cond c89 (cond c105 c106.2 false) false)))
def withylaw05_EdgeOrders_e : Ent := ⟨8, [], [(.pure (.row (.prod (.int .i64) (.prod (.int .i64) (.int .i64)))) (Ty.dflt _)), (.pure (.row (.prod (.int .i64) (.prod (.int .i64) (.int .i64)))) (Ty.dflt _)), (.pure (.row (.prod (.int .i64) (.prod (.int .i64) (.int .i64)))) (Ty.dflt _))], [], [(.pure .bool (Ty.dflt _))], []⟩
noncomputable def withylaw05_EdgeOrders : Fun := ⟨withylaw05_EdgeOrders_e, fun x => let r := withylaw05_EdgeOrders_r x.1 x.2.1 x.2.2.1; (r.1, (r.2, ()))⟩
theorem withylaw05_EdgeOrders_ev : evFun Try.prog [edge_Compare, withyref05_Less, withylaw05_awake] [] Try.f8 (codeOf Try.f8) withylaw05_EdgeOrders_e = withylaw05_EdgeOrders.fn := by kernel_rfl
theorem withylaw05_EdgeOrders_ok : FunOk Try.prog withylaw05_EdgeOrders := fun_ok (opers_ok (oks_cons edge_Compare_ok (oks_cons withyref05_Less_ok (oks_cons withylaw05_awake_ok oks_nil)))) Try.call8 Try.func8 (by kernel_rfl) fun x _ => (congrFun withylaw05_EdgeOrders_ev x).symm

end Go.Proofs.Ytjeeofakogoboaa.T
