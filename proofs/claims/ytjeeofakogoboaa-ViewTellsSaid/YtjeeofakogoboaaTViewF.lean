/- What functions come to. -/
import Derived.Test.YtjeeofakogoboaaTp5
import Derived.KernelRfl
import Derived.Test.YtjeeofakogoboaaRows
namespace Go.Proofs.Ytjeeofakogoboaa.T
open Go.Vm Go.Tm
set_option linter.unusedVariables false
/- withy/withylaw09.light -/
noncomputable def withylaw09_light_r (a1 : ((List Int) × (List (Int × (Int × (Int × (Int × Bool))))))) : Bool × (Bool) :=
  let c5 := (decide ((a1.1.length : Int) ≤ (70 : Int)))
  let c7 := (cond c5 c5 true)
  ((((c7 && c7) && c7) && c7), ((cond c5 (decide ((a1.2.length : Int) ≤ (200 : Int))) false)))
def withylaw09_light_e : Ent := ⟨45, [], [(.pure (.row (.prod (.fl (.int .i64)) (.fl (.row (.prod (.int .i64) (.prod (.int .i64) (.prod (.int .i64) (.prod (.int .i64) .bool)))))))) (Ty.dflt _))], [], [(.pure .bool (Ty.dflt _))], []⟩
noncomputable def withylaw09_light : Fun := ⟨withylaw09_light_e, fun x => let r := withylaw09_light_r x.1; (r.1, (r.2, ()))⟩
theorem withylaw09_light_ev : evFun Try.prog [] [] Try.f45 (codeOf Try.f45) withylaw09_light_e = withylaw09_light.fn := by kernel_rfl
theorem withylaw09_light_ok : FunOk Try.prog withylaw09_light := fun_ok (opers_ok oks_nil) Try.call45 Try.func45 (by kernel_rfl) fun x _ => (congrFun withylaw09_light_ev x).symm

/- withy/edge.Node -/
noncomputable def edge_Node_r (a1 : Int) : Bool × (Bool) :=
  let c2 := (decide (a1 ≥ (1 : Int)))
  let c4 := (cond c2 c2 true)
  ((c4 && c4), ((cond c2 (decide (a1 ≤ (64 : Int))) false)))
def edge_Node_e : Ent := ⟨16, [], [(.pure (.int .i64) (Ty.dflt _))], [], [(.pure .bool (Ty.dflt _))], []⟩
noncomputable def edge_Node : Fun := ⟨edge_Node_e, fun x => let r := edge_Node_r x.1; (r.1, (r.2, ()))⟩
theorem edge_Node_ev : evFun Try.prog [] [] Try.f16 (codeOf Try.f16) edge_Node_e = edge_Node.fn := by kernel_rfl
theorem edge_Node_ok : FunOk Try.prog edge_Node := fun_ok (opers_ok oks_nil) Try.call16 Try.func16 (by kernel_rfl) fun x _ => (congrFun edge_Node_ev x).symm

/- slices.Index[[]int,int] -/
noncomputable def slices_Index_int_l0 (a1 : (List Int)) (a2 : Int) (s0 : HL [.int .i64]) : Bool × Bool × HL [.int .i64] × HL [.bool, .int .i64, .bool] :=
  let c4 := (decide (s0.1 < (a1.length : Int)))
  let c6 := (Int.toNat s0.1)
  let c7 := (decide (c6 < a1.length))
  let c14 := (a2 == ((a1[c6]?).getD (0 : Int)))
  ((cond c4 (((decide ((0 : Int) ≤ s0.1)) && c7) && c7) true), (c4 && (!c14)), ((IntKind.i64.wrap (s0.1 + (1 : Int))), ()), ((c4 && c14), s0.1, (!c4), ()))
noncomputable def slices_Index_int_r (a1 : (List Int)) (a2 : Int) : Bool × (Int) :=
  let c22 := (loopD 0 [.int .i64] [.bool, .int .i64, .bool] (slices_Index_int_l0 a1 a2) ((0 : Int), ()))
  (c22.1, ((cond c22.2.2.2.1 (-1 : Int) c22.2.2.1)))
def slices_Index_int_e : Ent := ⟨73, [], [(.pure (.fl (.int .i64)) (Ty.dflt _)), (.pure (.int .i64) (Ty.dflt _))], [], [(.pure (.int .i64) (Ty.dflt _))], []⟩
noncomputable def slices_Index_int : Fun := ⟨slices_Index_int_e, fun x => let r := slices_Index_int_r x.1 x.2.1; (r.1, (r.2, ()))⟩
theorem slices_Index_int_ev : evFun Try.prog [] [⟨[8], [], ⟨[], [], 0⟩, [], [], [(1, [4]), (2, [])], []⟩] Try.f73 (codeOf Try.f73) slices_Index_int_e = slices_Index_int.fn := by kernel_rfl
theorem slices_Index_int_ok : FunOk Try.prog slices_Index_int := fun_ok (opers_ok oks_nil) Try.call73 Try.func73 (by kernel_rfl) fun x _ => (congrFun slices_Index_int_ev x).symm

/- slices.Contains[[]int,int] -/
noncomputable def slices_Contains_int_r (a1 : (List Int)) (a2 : Int) : Bool × (Bool) :=
  let c2 := (slices_Index_int_r a1 a2)
  (c2.1, ((decide (c2.2 ≥ (0 : Int)))))
def slices_Contains_int_e : Ent := ⟨68, [], [(.pure (.fl (.int .i64)) (Ty.dflt _)), (.pure (.int .i64) (Ty.dflt _))], [], [(.pure .bool (Ty.dflt _))], []⟩
noncomputable def slices_Contains_int : Fun := ⟨slices_Contains_int_e, fun x => let r := slices_Contains_int_r x.1 x.2.1; (r.1, (r.2, ()))⟩
theorem slices_Contains_int_ev : evFun Try.prog [slices_Index_int] [] Try.f68 (codeOf Try.f68) slices_Contains_int_e = slices_Contains_int.fn := by kernel_rfl
theorem slices_Contains_int_ok : FunOk Try.prog slices_Contains_int := fun_ok (opers_ok (oks_cons slices_Index_int_ok oks_nil)) Try.call68 Try.func68 (by kernel_rfl) fun x _ => (congrFun slices_Contains_int_ev x).symm

/- cmp.isNaN[int] -/
noncomputable def cmp_isNaN_int_r (a1 : Int) : Bool × (Bool) :=
  (true, ((a1 != a1)))
def cmp_isNaN_int_e : Ent := ⟨71, [], [(.pure (.int .i64) (Ty.dflt _))], [], [(.pure .bool (Ty.dflt _))], []⟩
noncomputable def cmp_isNaN_int : Fun := ⟨cmp_isNaN_int_e, fun x => let r := cmp_isNaN_int_r x.1; (r.1, (r.2, ()))⟩
theorem cmp_isNaN_int_ev : evFun Try.prog [] [] Try.f71 (codeOf Try.f71) cmp_isNaN_int_e = cmp_isNaN_int.fn := by kernel_rfl
theorem cmp_isNaN_int_ok : FunOk Try.prog cmp_isNaN_int := fun_ok (opers_ok oks_nil) Try.call71 Try.func71 (by kernel_rfl) fun x _ => (congrFun cmp_isNaN_int_ev x).symm

/- cmp.Compare[int] -/
noncomputable def cmp_Compare_int_r (a1 : Int) (a2 : Int) : Bool × (Int) :=
  let c1 := (cmp_isNaN_int_r a1)
  let c4 := (cmp_isNaN_int_r a2)
  let c10 := (!c4.2)
  ((c1.1 && c4.1), ((cond (!c1.2) (cond c10 (cond (!(decide (a1 < a2))) (cond (!(decide (a1 > a2))) (0 : Int) (1 : Int)) (-1 : Int)) (1 : Int)) (cond c10 (-1 : Int) (0 : Int)))))
def cmp_Compare_int_e : Ent := ⟨59, [], [(.pure (.int .i64) (Ty.dflt _)), (.pure (.int .i64) (Ty.dflt _))], [], [(.pure (.int .i64) (Ty.dflt _))], []⟩
noncomputable def cmp_Compare_int : Fun := ⟨cmp_Compare_int_e, fun x => let r := cmp_Compare_int_r x.1 x.2.1; (r.1, (r.2, ()))⟩
theorem cmp_Compare_int_ev : evFun Try.prog [cmp_isNaN_int] [] Try.f59 (codeOf Try.f59) cmp_Compare_int_e = cmp_Compare_int.fn := by kernel_rfl
theorem cmp_Compare_int_ok : FunOk Try.prog cmp_Compare_int := fun_ok (opers_ok (oks_cons cmp_isNaN_int_ok oks_nil)) Try.call59 Try.func59 (by kernel_rfl) fun x _ => (congrFun cmp_Compare_int_ev x).symm

/- cmp.Or[int] -/
noncomputable def cmp_Or_int_l0 (a1 : (List Int)) (s0 : HL [.int .i64]) : Bool × Bool × HL [.int .i64] × HL [.bool, .int .i64, .bool] :=
  let c4 := (decide (s0.1 < (a1.length : Int)))
  let c6 := (Int.toNat s0.1)
  let c7 := (decide (c6 < a1.length))
  let c12 := ((a1[c6]?).getD (0 : Int))
  let c14 := (c12 != (0 : Int))
  ((cond c4 (((decide ((0 : Int) ≤ s0.1)) && c7) && c7) true), (c4 && (!c14)), ((IntKind.i64.wrap (s0.1 + (1 : Int))), ()), ((c4 && c14), c12, (!c4), ()))
noncomputable def cmp_Or_int_r (a1 : (List Int)) : Bool × (Int) :=
  let c21 := (loopD 0 [.int .i64] [.bool, .int .i64, .bool] (cmp_Or_int_l0 a1) ((0 : Int), ()))
  (c21.1, ((cond c21.2.2.2.1 (0 : Int) c21.2.2.1)))
def cmp_Or_int_e : Ent := ⟨58, [], [(.pure (.fl (.int .i64)) (Ty.dflt _))], [], [(.pure (.int .i64) (Ty.dflt _))], []⟩
noncomputable def cmp_Or_int : Fun := ⟨cmp_Or_int_e, fun x => let r := cmp_Or_int_r x.1; (r.1, (r.2, ()))⟩
theorem cmp_Or_int_ev : evFun Try.prog [] [⟨[8], [], ⟨[], [], 0⟩, [], [], [(1, [2]), (2, [])], []⟩] Try.f58 (codeOf Try.f58) cmp_Or_int_e = cmp_Or_int.fn := by kernel_rfl
theorem cmp_Or_int_ok : FunOk Try.prog cmp_Or_int := fun_ok (opers_ok oks_nil) Try.call58 Try.func58 (by kernel_rfl) fun x _ => (congrFun cmp_Or_int_ev x).symm

/- withy/view.order -/
noncomputable def view_order_r (a1 : (Int × (Int × (Int × (Int × Bool))))) (a2 : (Int × (Int × (Int × (Int × Bool))))) : Bool × (Int) :=
  let c4 := (cmp_Compare_int_r a1.1 a2.1)
  let c10 := (cmp_Compare_int_r a1.2.1 a2.2.1)
  let c18 := (cmp_Or_int_r (c4.2 :: (c10.2 :: ([] : List Int))))
  (((c4.1 && c10.1) && c18.1), (c18.2))
def view_order_e : Ent := ⟨64, [], [(.pure (.row (.prod (.int .i64) (.prod (.int .i64) (.prod (.int .i64) (.prod (.int .i64) .bool))))) (Ty.dflt _)), (.pure (.row (.prod (.int .i64) (.prod (.int .i64) (.prod (.int .i64) (.prod (.int .i64) .bool))))) (Ty.dflt _))], [], [(.pure (.int .i64) (Ty.dflt _))], []⟩
noncomputable def view_order : Fun := ⟨view_order_e, fun x => let r := view_order_r x.1 x.2.1; (r.1, (r.2, ()))⟩
theorem view_order_ev : evFun Try.prog [cmp_Compare_int, cmp_Or_int] [] Try.f64 (codeOf Try.f64) view_order_e = view_order.fn := by kernel_rfl
theorem view_order_ok : FunOk Try.prog view_order := fun_ok (opers_ok (oks_cons cmp_Compare_int_ok (oks_cons cmp_Or_int_ok oks_nil))) Try.call64 Try.func64 (by kernel_rfl) fun x _ => (congrFun view_order_ev x).symm

/- withy/view.Check -/
noncomputable def view_Check_l0 (a1 : ((List Int) × (List (Int × (Int × (Int × (Int × Bool))))))) (s0 : HL [.int .i64]) : Bool × Bool × HL [.int .i64] × HL [.bool, .int .i64, .bool] :=
  let c5 := (decide (s0.1 < (a1.1.length : Int)))
  let c7 := (Int.toNat s0.1)
  let c8 := (decide (c7 < a1.1.length))
  let c11 := ((a1.1[c7]?).getD (0 : Int))
  let c12 := (edge_Node_r c11)
  let c15 := (!c12.2)
  let c16 := (!c15)
  let c20 := (c16 && c16)
  let c22 := (decide (s0.1 > (0 : Int)))
  let c23 := (c20 && c22)
  let c24 := (cond c23 c23 true)
  let c28 := (IntKind.i64.wrap (s0.1 - (1 : Int)))
  let c30 := (Int.toNat c28)
  let c31 := (decide (c30 < a1.1.length))
  let c55 := (cond c15 true (cond c22 (decide (c11 ≤ ((a1.1[c30]?).getD (0 : Int)))) false))
  ((cond c5 ((((decide ((0 : Int) ≤ s0.1)) && c8) && c8) && ((((((((c12.1 && (cond c16 c16 true)) && c24) && c24) && (cond c23 (c23 && (c23 && ((decide ((0 : Int) ≤ c28)) && c31))) true)) && (cond c23 (c23 && c31) true)) && (cond c23 (c23 && c23) true)) && (cond c16 (c20 && (cond c22 c23 true)) true)) && (cond c15 true c16))) true), (c5 && (!c55)), ((IntKind.i64.wrap (s0.1 + (1 : Int))), ()), ((c5 && c55), (1 : Int), (!c5), ()))
noncomputable def view_Check_l1 (a1 : ((List Int) × (List (Int × (Int × (Int × (Int × Bool))))))) (s1 : HL [.int .i64]) : Bool × Bool × HL [.int .i64] × HL [.bool, .int .i64, .bool] :=
  let c68 := (decide (s1.1 < (a1.2.length : Int)))
  let c70 := (Int.toNat s1.1)
  let c71 := (decide (c70 < a1.2.length))
  let c74 := ((a1.2[c70]?).getD ((0 : Int), ((0 : Int), ((0 : Int), ((0 : Int), false)))))
  let c75 := c74.2
  let c76 := c75.1
  let c77 := (edge_Node_r c76)
  let c80 := (!c77.2)
  let c81 := (!c80)
  let c82 := (cond c81 c81 true)
  let c90 := c74.1
  let c92 := (cond c80 true (c76 == c90))
  let c93 := (!c92)
  let c94 := (cond c93 c93 true)
  let c99 := c75.2
  let c100 := c99.1
  let c102 := (cond c92 true (decide (c100 < (0 : Int))))
  let c103 := (!c102)
  let c104 := (cond c103 c103 true)
  let c111 := (cond c102 true (decide (c100 > (2147483647 : Int))))
  let c112 := (!c111)
  let c113 := (cond c112 c112 true)
  let c119 := c99.2.1
  let c121 := (cond c111 true (decide (c119 < (1 : Int))))
  let c122 := (!c121)
  let c123 := (cond c122 c122 true)
  let c129 := (cond c121 true (decide (c119 > (2147483647 : Int))))
  let c130 := (!c129)
  let c131 := (cond c130 c130 true)
  let c135 := (slices_Contains_int_r a1.1 c90)
  let c145 := (cond c129 true (!c135.2))
  let c146 := (!c145)
  let c149 := (c146 && c146)
  let c150 := (decide (s1.1 > (0 : Int)))
  let c151 := (c149 && c150)
  let c152 := (cond c151 c151 true)
  let c155 := (IntKind.i64.wrap (s1.1 - (1 : Int)))
  let c157 := (Int.toNat c155)
  let c158 := (decide (c157 < a1.2.length))
  let c169 := (view_order_r ((a1.2[c157]?).getD ((0 : Int), ((0 : Int), ((0 : Int), ((0 : Int), false))))) c74)
  let c186 := (cond c145 true (cond c150 (decide (c169.2 ≥ (0 : Int))) false))
  ((cond c68 ((((decide ((0 : Int) ≤ s1.1)) && c71) && c71) && ((((((((((((((((((((((((((((((c77.1 && c82) && c82) && (cond c81 (c81 && c81) true)) && (cond c80 true c81)) && c94) && c94) && (cond c92 true c93)) && c104) && c104) && (cond c102 true c103)) && c113) && c113) && (cond c111 true c112)) && c123) && c123) && (cond c121 true c122)) && c131) && c131) && (cond c130 ((c130 && c130) && c135.1) true)) && c131) && (cond c129 true c130)) && (cond c146 c146 true)) && c152) && c152) && (cond c151 (c151 && (c151 && ((decide ((0 : Int) ≤ c155)) && c158))) true)) && (cond c151 (c151 && c158) true)) && (cond c151 ((c151 && c151) && c169.1) true)) && c152) && (cond c146 (c149 && (cond c150 c151 true)) true)) && (cond c145 true c146))) true), (c68 && (!c186)), ((IntKind.i64.wrap (s1.1 + (1 : Int))), ()), ((c68 && c186), (1 : Int), (!c68), ()))
noncomputable def view_Check_r (a1 : ((List Int) × (List (Int × (Int × (Int × (Int × Bool))))))) : Bool × (Int) :=
  let c61 := (loopD 0 [.int .i64] [.bool, .int .i64, .bool] (view_Check_l0 a1) ((0 : Int), ()))
  let c63 := c61.2.2.2.1
  let c192 := (loopD 1 [.int .i64] [.bool, .int .i64, .bool] (view_Check_l1 a1) ((0 : Int), ()))
  ((c61.1 && (cond c63 c192.1 true)), ((cond c63 (cond c192.2.2.2.1 (0 : Int) c192.2.2.1) c61.2.2.1)))
def view_Check_e : Ent := ⟨62, [], [(.pure (.row (.prod (.fl (.int .i64)) (.fl (.row (.prod (.int .i64) (.prod (.int .i64) (.prod (.int .i64) (.prod (.int .i64) .bool)))))))) (Ty.dflt _))], [], [(.pure (.int .i64) (Ty.dflt _))], []⟩
noncomputable def view_Check : Fun := ⟨view_Check_e, fun x => let r := view_Check_r x.1; (r.1, (r.2, ()))⟩
theorem view_Check_ev : evFun Try.prog [edge_Node, slices_Contains_int, view_order] [⟨[10], [], ⟨[], [], 0⟩, [], [], [(1, [2]), (2, [])], []⟩, ⟨[36], [], ⟨[], [], 0⟩, [], [], [(1, [2]), (4, [])], []⟩] Try.f62 (codeOf Try.f62) view_Check_e = view_Check.fn := by kernel_rfl
theorem view_Check_ok : FunOk Try.prog view_Check := fun_ok (opers_ok (oks_cons edge_Node_ok (oks_cons slices_Contains_int_ok (oks_cons view_order_ok oks_nil)))) Try.call62 Try.func62 (by kernel_rfl) fun x _ => (congrFun view_Check_ev x).symm

/- slices.BinarySearchFunc[[]withy/api.Known,withy/api.Known,withy/api.Known] -/
noncomputable def slices_BinarySearchFunc_api_Known_l0 (a1 : (List (Int × (Int × (Int × (Int × Bool)))))) (a2 : (Int × (Int × (Int × (Int × Bool))))) (a3 : Unit) (s0 : HL [.int .i64, .int .i64]) : Bool × Bool × HL [.int .i64, .int .i64] × HL [.bool, .int .i64] :=
  let c2 := (decide (s0.2.1 < s0.1))
  let c8 := (IntKind.i64.wrap ((iShr .u64 .u64 (IntKind.u64.wrap ((IntKind.i64.wrap (s0.2.1 + s0.1)))) (1 : Int))))
  let c10 := (Int.toNat c8)
  let c13 := (decide (c10 < a1.length))
  let c18 := (view_order_r ((a1[c10]?).getD ((0 : Int), ((0 : Int), ((0 : Int), ((0 : Int), false))))) a2)
  let c26 := (decide (c18.2 < (0 : Int)))
  ((cond c2 ((decide ((0 : Int) ≤ (1 : Int))) && ((((decide ((0 : Int) ≤ c8)) && c13) && c13) && c18.1)) true), c2, ((cond c26 s0.1 c8), (cond c26 (IntKind.i64.wrap (c8 + (1 : Int))) s0.2.1), ()), ((!c2), s0.2.1, ()))
noncomputable def slices_BinarySearchFunc_api_Known_r (a1 : (List (Int × (Int × (Int × (Int × Bool)))))) (a2 : (Int × (Int × (Int × (Int × Bool))))) (a3 : Unit) : Bool × (Int × Bool) :=
  let c32 := (loopD 0 [.int .i64, .int .i64] [.bool, .int .i64] (slices_BinarySearchFunc_api_Known_l0 a1 a2 a3) ((a1.length : Int), (0 : Int), ()))
  let c34 := c32.2.2.1
  let c35 := (decide (c34 < (a1.length : Int)))
  let c37 := (Int.toNat c34)
  let c38 := (decide (c37 < a1.length))
  let c48 := (view_order_r ((a1[c37]?).getD ((0 : Int), ((0 : Int), ((0 : Int), ((0 : Int), false))))) a2)
  let c54 := (cond c35 c35 true)
  ((c32.1 && (((((cond c35 (c35 && (c35 && ((decide ((0 : Int) ≤ c34)) && c38))) true) && (cond c35 (c35 && c38) true)) && (cond c35 (c35 && ((c35 && c35) && c48.1)) true)) && c54) && c54)), (c34, (cond c35 (c48.2 == (0 : Int)) false)))
def slices_BinarySearchFunc_api_Known_e : Ent := ⟨63, [], [(.pure (.fl (.row (.prod (.int .i64) (.prod (.int .i64) (.prod (.int .i64) (.prod (.int .i64) .bool)))))) (Ty.dflt _)), (.pure (.row (.prod (.int .i64) (.prod (.int .i64) (.prod (.int .i64) (.prod (.int .i64) .bool))))) (Ty.dflt _)), (.fn 64 (.pure .unit (Ty.dflt _)))], [], [(.pure (.int .i64) (Ty.dflt _)), (.pure .bool (Ty.dflt _))], []⟩
noncomputable def slices_BinarySearchFunc_api_Known : Fun := ⟨slices_BinarySearchFunc_api_Known_e, fun x => let r := slices_BinarySearchFunc_api_Known_r x.1 x.2.1 x.2.2.1; (r.1, (r.2.1, r.2.2, ()))⟩
theorem slices_BinarySearchFunc_api_Known_ev : evFun Try.prog [view_order] [⟨[10, 9], [], ⟨[], [], 0⟩, [], [], [(1, []), (2, [9])], []⟩] Try.f63 (codeOf Try.f63) slices_BinarySearchFunc_api_Known_e = slices_BinarySearchFunc_api_Known.fn := by kernel_rfl
theorem slices_BinarySearchFunc_api_Known_ok : FunOk Try.prog slices_BinarySearchFunc_api_Known := fun_ok (opers_ok (oks_cons view_order_ok oks_nil)) Try.call63 Try.func63 (by kernel_rfl) fun x _ => (congrFun slices_BinarySearchFunc_api_Known_ev x).symm

/- withy/view.Inner -/
noncomputable def view_Inner_l0 (a1 : ((List Int) × (List (Int × (Int × (Int × (Int × Bool))))))) (s0 : HL [.int .i64, (.fl (.row (.prod (.int .i64) (.prod (.int .i64) (.prod (.int .i64) (.prod (.int .i64) .bool))))))]) : Bool × Bool × HL [.int .i64, (.fl (.row (.prod (.int .i64) (.prod (.int .i64) (.prod (.int .i64) (.prod (.int .i64) .bool))))))] × HL [.bool, (.fl (.row (.prod (.int .i64) (.prod (.int .i64) (.prod (.int .i64) (.prod (.int .i64) .bool))))))] :=
  let c11 := (decide (s0.1 < (a1.2.length : Int)))
  let c13 := (Int.toNat s0.1)
  let c14 := (decide (c13 < a1.2.length))
  let c17 := ((a1.2[c13]?).getD ((0 : Int), ((0 : Int), ((0 : Int), ((0 : Int), false)))))
  let c18 := c17.2
  let c19 := c18.1
  let c20 := c17.1
  let c27 := (slices_BinarySearchFunc_api_Known_r a1.2 (c19, (c20, ((0 : Int), ((0 : Int), false)))) ())
  let c29 := (decide (c20 > c19))
  let c30 := (!c29)
  let c37 := (cond c29 true (!c27.2.2))
  let c38 := (!c37)
  let c39 := (cond c38 c38 true)
  let c41 := c27.2.1
  let c43 := (Int.toNat c41)
  let c44 := (decide (c43 < a1.2.length))
  let c45 := ((decide ((0 : Int) ≤ c41)) && c44)
  let c62 := ((a1.2[c43]?).getD ((0 : Int), ((0 : Int), ((0 : Int), ((0 : Int), false))))).2.2
  let c64 := c18.2
  let c65 := c64.1
  let c67 := (cond c37 true (c62.1 != c65))
  let c68 := (!c67)
  let c69 := (cond c68 c68 true)
  let c85 := c62.2
  let c87 := c64.2
  let c88 := c87.1
  let c91 := (!(cond c67 true (c85.1 != c88)))
  let c92 := c87.2
  let c93 := (cond c92 c92 true)
  let c112 := ((c20, (c19, (c65, (c88, (cond c92 c85.2 false))))) :: ([] : List (Int × (Int × (Int × (Int × Bool))))))
  ((cond c11 ((((decide ((0 : Int) ≤ s0.1)) && c14) && c14) && (c27.1 && (((((((((((((((((cond c30 c30 true) && (cond c29 true c30)) && c39) && (cond c38 (c38 && (c38 && c45)) true)) && c39) && (cond c38 (c38 && c44) true)) && c39) && (cond c38 (c38 && c38) true)) && (cond c37 true c38)) && c69) && (cond c68 (c68 && (c68 && c45)) true)) && c69) && (cond c68 (c68 && c44) true)) && c69) && (cond c68 (c68 && c68) true)) && (cond c67 true c68)) && (cond c91 (((((c93 && (cond c92 (c92 && (c92 && c45)) true)) && c93) && (cond c92 (c92 && c44) true)) && c93) && (decide ((s0.2.1.length + c112.length) * 40 ≤ 140737488355328))) true)))) true), c11, ((IntKind.i64.wrap (s0.1 + (1 : Int))), (cond c91 (s0.2.1 ++ c112) s0.2.1), ()), ((!c11), s0.2.1, ()))
noncomputable def view_Inner_r (a1 : ((List Int) × (List (Int × (Int × (Int × (Int × Bool))))))) : Bool × (Int × (List (Int × (Int × (Int × (Int × Bool)))))) :=
  let c1 := (view_Check_r a1)
  let c3 := c1.2
  let c6 := (!(c3 != (0 : Int)))
  let c127 := (loopD 0 [.int .i64, (.fl (.row (.prod (.int .i64) (.prod (.int .i64) (.prod (.int .i64) (.prod (.int .i64) .bool))))))] [.bool, (.fl (.row (.prod (.int .i64) (.prod (.int .i64) (.prod (.int .i64) (.prod (.int .i64) .bool))))))] (view_Inner_l0 a1) ((0 : Int), ([] : List (Int × (Int × (Int × (Int × Bool))))), ()))
  ((c1.1 && (cond c6 c127.1 true)), ((cond c6 (0 : Int) c3), (cond c6 c127.2.2.1 ([] : List (Int × (Int × (Int × (Int × Bool))))))))
def view_Inner_e : Ent := ⟨47, [], [(.pure (.row (.prod (.fl (.int .i64)) (.fl (.row (.prod (.int .i64) (.prod (.int .i64) (.prod (.int .i64) (.prod (.int .i64) .bool)))))))) (Ty.dflt _))], [(0, (.arr (.row (.prod (.int .i64) (.prod (.int .i64) (.prod (.int .i64) (.prod (.int .i64) .bool))))) [] false))], [(.own 0 5), (.pure (.int .i64) (Ty.dflt _))], []⟩
noncomputable def view_Inner : Fun := ⟨view_Inner_e, fun x => let r := view_Inner_r x.1; (r.1, (r.2.1, r.2.2, ()))⟩
theorem view_Inner_ev : evFun Try.prog [view_Check, slices_BinarySearchFunc_api_Known] [⟨[18, 5], [], ⟨[(5, (.own 5058 5))], [(5058, ⟨.tt, (.arr (.row (.prod (.int .i64) (.prod (.int .i64) (.prod (.int .i64) (.prod (.int .i64) .bool))))) [] false)⟩)], 0⟩, [5], [], [(1, []), (2, [5])], []⟩] Try.f47 (codeOf Try.f47) view_Inner_e = view_Inner.fn := by kernel_rfl
theorem view_Inner_ok : FunOk Try.prog view_Inner := fun_ok (opers_ok (oks_cons view_Check_ok (oks_cons slices_BinarySearchFunc_api_Known_ok oks_nil))) Try.call47 Try.func47 (by kernel_rfl) fun x _ => (congrFun view_Inner_ev x).symm

/- slices.Clone[[]withy/api.Known,withy/api.Known] -/
def slices_Clone_api_Known_r (a1 : List (Int × (Int × (Int × (Int × Bool))))) : Bool × (List (Int × (Int × (Int × (Int × Bool))))) := (decide (a1.length * 40 ≤ 140737488355328), a1)
noncomputable def slices_Clone_api_Known : Fun := cloneF 66 (.row (.prod (.int .i64) (.prod (.int .i64) (.prod (.int .i64) (.prod (.int .i64) .bool))))) 40
theorem slices_Clone_api_Known_ok : FunOk Try.prog slices_Clone_api_Known := clone_ok (fn := Try.f66) (c := codeOf Try.f66) (opers_ok oks_nil) Try.call66 Try.func66 (by kernel_rfl) (by kernel_rfl) (by kernel_rfl) (fun _ _ => by kernel_rfl)

/- withy/view.Outer$1 -/
noncomputable def view_Outer_1_r (a1 : (Int × (Int × (Int × (Int × Bool))))) (a2 : ((List Int) × (List (Int × (Int × (Int × (Int × Bool))))))) : Bool × (Bool) :=
  let c5 := (slices_Contains_int_r a2.1 a1.2.1)
  (c5.1, (c5.2))
def view_Outer_1_e : Ent := ⟨67, [(0, (.var 82 (.pure (.row (.prod (.fl (.int .i64)) (.fl (.row (.prod (.int .i64) (.prod (.int .i64) (.prod (.int .i64) (.prod (.int .i64) .bool)))))))) (Ty.dflt _))))], [(.pure (.row (.prod (.int .i64) (.prod (.int .i64) (.prod (.int .i64) (.prod (.int .i64) .bool))))) (Ty.dflt _)), (.ptr 0 [])], [], [(.pure .bool (Ty.dflt _))], [0]⟩
noncomputable def view_Outer_1 : Fun := ⟨view_Outer_1_e, fun x => let r := view_Outer_1_r x.1 x.2.1; (r.1, (r.2, ()))⟩
theorem view_Outer_1_ev : evFun Try.prog [slices_Contains_int] [] Try.f67 (codeOf Try.f67) view_Outer_1_e = view_Outer_1.fn := by kernel_rfl
theorem view_Outer_1_ok : FunOk Try.prog view_Outer_1 := fun_ok (opers_ok (oks_cons slices_Contains_int_ok oks_nil)) Try.call67 Try.func67 (by kernel_rfl) fun x _ => (congrFun view_Outer_1_ev x).symm

/- slices.IndexFunc[[]withy/api.Known,withy/api.Known] -/
noncomputable def slices_IndexFunc_api_Known_l0 (a1 : Unit) (a2 : (List (Int × (Int × (Int × (Int × Bool)))))) (a3 : ((List Int) × (List (Int × (Int × (Int × (Int × Bool))))))) (s0 : HL [.int .i64]) : Bool × Bool × HL [.int .i64] × HL [.bool, .int .i64, .bool] :=
  let c4 := (decide (s0.1 < (a2.length : Int)))
  let c6 := (Int.toNat s0.1)
  let c7 := (decide (c6 < a2.length))
  let c12 := (view_Outer_1_r ((a2[c6]?).getD ((0 : Int), ((0 : Int), ((0 : Int), ((0 : Int), false))))) a3)
  let c17 := c12.2
  ((cond c4 ((((decide ((0 : Int) ≤ s0.1)) && c7) && c7) && c12.1) true), (c4 && (!c17)), ((IntKind.i64.wrap (s0.1 + (1 : Int))), ()), ((c4 && c17), s0.1, (!c4), ()))
noncomputable def slices_IndexFunc_api_Known_r (a1 : Unit) (a2 : (List (Int × (Int × (Int × (Int × Bool)))))) (a3 : ((List Int) × (List (Int × (Int × (Int × (Int × Bool))))))) : Bool × (Int) :=
  let c25 := (loopD 0 [.int .i64] [.bool, .int .i64, .bool] (slices_IndexFunc_api_Known_l0 a1 a2 a3) ((0 : Int), ()))
  (c25.1, ((cond c25.2.2.2.1 (-1 : Int) c25.2.2.1)))
def slices_IndexFunc_api_Known_e : Ent := ⟨72, [(0, (.arr (.row (.prod (.int .i64) (.prod (.int .i64) (.prod (.int .i64) (.prod (.int .i64) .bool))))) [] false)), (1, (.var 82 (.pure (.row (.prod (.fl (.int .i64)) (.fl (.row (.prod (.int .i64) (.prod (.int .i64) (.prod (.int .i64) (.prod (.int .i64) .bool)))))))) (Ty.dflt _))))], [(.own 0 5), (.fn 67 (.pair (.ptr 1 []) (.pure .unit (Ty.dflt _))))], [], [(.pure (.int .i64) (Ty.dflt _))], [0, 1]⟩
noncomputable def slices_IndexFunc_api_Known : Fun := ⟨slices_IndexFunc_api_Known_e, fun x => let r := slices_IndexFunc_api_Known_r x.1 x.2.1 x.2.2.1; (r.1, (r.2, ()))⟩
theorem slices_IndexFunc_api_Known_ev : evFun Try.prog [view_Outer_1] [⟨[8], [], ⟨[], [], 0⟩, [], [], [(1, [4]), (2, [])], []⟩] Try.f72 (codeOf Try.f72) slices_IndexFunc_api_Known_e = slices_IndexFunc_api_Known.fn := by kernel_rfl
theorem slices_IndexFunc_api_Known_ok : FunOk Try.prog slices_IndexFunc_api_Known := fun_ok (opers_ok (oks_cons view_Outer_1_ok oks_nil)) Try.call72 Try.func72 (by kernel_rfl) fun x _ => (congrFun slices_IndexFunc_api_Known_ev x).symm

/- slices.DeleteFunc[[]withy/api.Known,withy/api.Known] -/
noncomputable def slices_DeleteFunc_api_Known_l0 (a1 : Unit) (a2 : (List (Int × (Int × (Int × (Int × Bool)))))) (a3 : ((List Int) × (List (Int × (Int × (Int × (Int × Bool))))))) (s0 : HL [.int .i64, .int .i64, (.fl (.row (.prod (.int .i64) (.prod (.int .i64) (.prod (.int .i64) (.prod (.int .i64) .bool))))))]) : Bool × Bool × HL [.int .i64, .int .i64, (.fl (.row (.prod (.int .i64) (.prod (.int .i64) (.prod (.int .i64) (.prod (.int .i64) .bool))))))] × HL [.bool, .int .i64, (.fl (.row (.prod (.int .i64) (.prod (.int .i64) (.prod (.int .i64) (.prod (.int .i64) .bool))))))] :=
  let c13 := (decide (s0.1 < (s0.2.2.1.length : Int)))
  let c15 := (Int.toNat s0.1)
  let c16 := (decide (c15 < s0.2.2.1.length))
  let c19 := ((s0.2.2.1[c15]?).getD ((0 : Int), ((0 : Int), ((0 : Int), ((0 : Int), false)))))
  let c20 := (view_Outer_1_r c19 a3)
  let c23 := (!c20.2)
  let c26 := (Int.toNat s0.2.1)
  let c27 := (decide (c26 < s0.2.2.1.length))
  ((cond c13 ((((decide ((0 : Int) ≤ s0.1)) && c16) && c16) && (c20.1 && (cond c23 (((decide ((0 : Int) ≤ s0.2.1)) && c27) && c27) true))) true), c13, ((IntKind.i64.wrap (s0.1 + (1 : Int))), (cond c23 (IntKind.i64.wrap (s0.2.1 + (1 : Int))) s0.2.1), (cond c23 (s0.2.2.1.set c26 c19) s0.2.2.1), ()), ((!c13), s0.2.1, s0.2.2.1, ()))
noncomputable def slices_DeleteFunc_api_Known_r (a1 : Unit) (a2 : (List (Int × (Int × (Int × (Int × Bool)))))) (a3 : ((List Int) × (List (Int × (Int × (Int × (Int × Bool))))))) : Bool × (Nat × Nat × (List (Int × (Int × (Int × (Int × Bool)))))) :=
  let c3 := (slices_IndexFunc_api_Known_r a1 a2 a3)
  let c5 := c3.2
  let c8 := (!(c5 == (-1 : Int)))
  let c43 := (loopD 0 [.int .i64, .int .i64, (.fl (.row (.prod (.int .i64) (.prod (.int .i64) (.prod (.int .i64) (.prod (.int .i64) .bool))))))] [.bool, .int .i64, (.fl (.row (.prod (.int .i64) (.prod (.int .i64) (.prod (.int .i64) (.prod (.int .i64) .bool))))))] (slices_DeleteFunc_api_Known_l0 a1 a2 a3) ((IntKind.i64.wrap (c5 + (1 : Int))), c5, a2, ()))
  let c45 := c43.2.2.1
  let c46 := (decide ((0 : Int) ≤ c45))
  let c47 := (Int.toNat c45)
  let c48 := c43.2.2.2.1
  let c49 := c48.length
  let c60 := (c48.take c47 ++ ((List.replicate (c49 - c47) ((0 : Int), ((0 : Int), ((0 : Int), ((0 : Int), false))))) ++ c48.drop (c47 + (List.replicate (c49 - c47) ((0 : Int), ((0 : Int), ((0 : Int), ((0 : Int), false))))).length)))
  ((c3.1 && (cond c8 (c43.1 && ((c46 && (decide (c47 ≤ c49))) && (c46 && (decide (c47 ≤ c60.length))))) true)), ((cond c8 0 0), (cond c8 c47 a2.length), (cond c8 c60 a2)))
def slices_DeleteFunc_api_Known_e : Ent := ⟨65, [(0, (.arr (.row (.prod (.int .i64) (.prod (.int .i64) (.prod (.int .i64) (.prod (.int .i64) .bool))))) [] false)), (1, (.var 82 (.pure (.row (.prod (.fl (.int .i64)) (.fl (.row (.prod (.int .i64) (.prod (.int .i64) (.prod (.int .i64) (.prod (.int .i64) .bool)))))))) (Ty.dflt _))))], [(.own 0 5), (.fn 67 (.pair (.ptr 1 []) (.pure .unit (Ty.dflt _))))], [(0, (.arr (.row (.prod (.int .i64) (.prod (.int .i64) (.prod (.int .i64) (.prod (.int .i64) .bool))))) [] false))], [(.sref 0 5 0 0)], [1]⟩
noncomputable def slices_DeleteFunc_api_Known : Fun := ⟨slices_DeleteFunc_api_Known_e, fun x => let r := slices_DeleteFunc_api_Known_r x.1 x.2.1 x.2.2.1; (r.1, (r.2.1, r.2.2.1, r.2.2.2, ()))⟩
theorem slices_DeleteFunc_api_Known_ev : evFun Try.prog [slices_IndexFunc_api_Known, view_Outer_1] [⟨[6, 5], [0], ⟨[], [], 0⟩, [], [], [(1, []), (2, [5])], []⟩] Try.f65 (codeOf Try.f65) slices_DeleteFunc_api_Known_e = slices_DeleteFunc_api_Known.fn := by kernel_rfl
theorem slices_DeleteFunc_api_Known_ok : FunOk Try.prog slices_DeleteFunc_api_Known := fun_ok (opers_ok (oks_cons slices_IndexFunc_api_Known_ok (oks_cons view_Outer_1_ok oks_nil))) Try.call65 Try.func65 (by kernel_rfl) fun x _ => (congrFun slices_DeleteFunc_api_Known_ev x).symm

/- withy/view.Outer -/
noncomputable def view_Outer_r (a1 : ((List Int) × (List (Int × (Int × (Int × (Int × Bool))))))) : Bool × (Nat × Nat × Int × (List (Int × (Int × (Int × (Int × Bool)))))) :=
  let c1 := (view_Check_r a1)
  let c3 := c1.2
  let c6 := (!(c3 != (0 : Int)))
  let c8 := (slices_Clone_api_Known_r a1.2)
  let c12 := (slices_DeleteFunc_api_Known_r () c8.2 a1)
  ((c1.1 && (cond c6 (c8.1 && c12.1) true)), ((cond c6 c12.2.1 0), (cond c6 c12.2.2.1 0), (cond c6 (0 : Int) c3), (cond c6 c12.2.2.2 ([] : List (Int × (Int × (Int × (Int × Bool))))))))
def view_Outer_e : Ent := ⟨48, [], [(.pure (.row (.prod (.fl (.int .i64)) (.fl (.row (.prod (.int .i64) (.prod (.int .i64) (.prod (.int .i64) (.prod (.int .i64) .bool)))))))) (Ty.dflt _))], [(0, (.arr (.row (.prod (.int .i64) (.prod (.int .i64) (.prod (.int .i64) (.prod (.int .i64) .bool))))) [] false))], [(.sref 0 5 0 0), (.pure (.int .i64) (Ty.dflt _))], []⟩
noncomputable def view_Outer : Fun := ⟨view_Outer_e, fun x => let r := view_Outer_r x.1; (r.1, (r.2.1, r.2.2.1, r.2.2.2.1, r.2.2.2.2, ()))⟩
theorem view_Outer_ev : evFun Try.prog [view_Check, slices_Clone_api_Known, slices_DeleteFunc_api_Known] [] Try.f48 (codeOf Try.f48) view_Outer_e = view_Outer.fn := by kernel_rfl
theorem view_Outer_ok : FunOk Try.prog view_Outer := fun_ok (opers_ok (oks_cons view_Check_ok (oks_cons slices_Clone_api_Known_ok (oks_cons slices_DeleteFunc_api_Known_ok oks_nil)))) Try.call48 Try.func48 (by kernel_rfl) fun x _ => (congrFun view_Outer_ev x).symm

/- withy/withylaw09.awake -/
noncomputable def withylaw09_awake_r : Bool × (Bool) :=
  let c9 := ((0 : Int), ((5 : Int), false))
  let c23 := (((1 : Int) :: ((2 : Int) :: ([] : List Int))), (((1 : Int), ((2 : Int), c9)) :: (((2 : Int), ((1 : Int), c9)) :: (((2 : Int), ((3 : Int), ((0 : Int), ((1 : Int), false)))) :: ([] : List (Int × (Int × (Int × (Int × Bool)))))))))
  let c24 := (view_Inner_r c23)
  let c26 := (view_Outer_r c23)
  let c29 := (c24.2.1 == (0 : Int))
  let c31 := (cond c29 c29 true)
  let c38 := (cond c29 ((c24.2.2.length : Int) == (1 : Int)) false)
  let c39 := (cond c38 c38 true)
  let c44 := (cond c38 (c26.2.2.2.1 == (0 : Int)) false)
  let c45 := (cond c44 c44 true)
  let c49 := c26.2.2.1
  let c52 := (cond c44 ((c49 : Int) == (1 : Int)) false)
  let c54 := (Int.toNat (0 : Int))
  let c60 := (cond c52 c52 true)
  let c63 := (c54 + c26.2.1)
  let c64 := c26.2.2.2.2
  ((c24.1 && (c26.1 && ((((((((((((c31 && c31) && c31) && c39) && c39) && c45) && c45) && c45) && (cond c52 (c52 && ((decide ((0 : Int) ≤ (0 : Int))) && (decide (c54 < c49)))) true)) && c60) && (cond c52 (c52 && (decide (c63 < c64.length))) true)) && c60) && c60))), ((cond c52 (((c64[c63]?).getD ((0 : Int), ((0 : Int), ((0 : Int), ((0 : Int), false))))).2.1 == (3 : Int)) false)))
def withylaw09_awake_e : Ent := ⟨46, [], [], [], [(.pure .bool (Ty.dflt _))], []⟩
noncomputable def withylaw09_awake : Fun := ⟨withylaw09_awake_e, fun x => let r := withylaw09_awake_r; (r.1, (r.2, ()))⟩
theorem withylaw09_awake_ev : evFun Try.prog [view_Inner, view_Outer] [] Try.f46 (codeOf Try.f46) withylaw09_awake_e = withylaw09_awake.fn := by kernel_rfl
theorem withylaw09_awake_ok : FunOk Try.prog withylaw09_awake := fun_ok (opers_ok (oks_cons view_Inner_ok (oks_cons view_Outer_ok oks_nil))) Try.call46 Try.func46 (by kernel_rfl) fun x _ => (congrFun withylaw09_awake_ev x).symm

/- withy/view.Edge -/
noncomputable def view_Edge_r (a1 : (Int × (Int × (Int × (Int × Bool))))) : Bool × ((Int × (Int × Int))) :=
  (true, (((if a1.2.1 < a1.1 then a1.2.1 else a1.1), ((if a1.1 < a1.2.1 then a1.2.1 else a1.1), a1.2.2.1))))
def view_Edge_e : Ent := ⟨51, [], [(.pure (.row (.prod (.int .i64) (.prod (.int .i64) (.prod (.int .i64) (.prod (.int .i64) .bool))))) (Ty.dflt _))], [], [(.pure (.row (.prod (.int .i64) (.prod (.int .i64) (.int .i64)))) (Ty.dflt _))], []⟩
noncomputable def view_Edge : Fun := ⟨view_Edge_e, fun x => let r := view_Edge_r x.1; (r.1, (r.2, ()))⟩
theorem view_Edge_ev : evFun Try.prog [] [] Try.f51 (codeOf Try.f51) view_Edge_e = view_Edge.fn := by kernel_rfl
theorem view_Edge_ok : FunOk Try.prog view_Edge := fun_ok (opers_ok oks_nil) Try.call51 Try.func51 (by kernel_rfl) fun x _ => (congrFun view_Edge_ev x).symm

/- withy/view.Bound -/
noncomputable def view_Bound_l0 (a1 : ((List Int) × (List (Int × (Int × (Int × (Int × Bool))))))) (s0 : HL [.int .i64, (.fl (.row (.prod (.int .i64) (.prod (.int .i64) (.int .i64)))))]) : Bool × Bool × HL [.int .i64, (.fl (.row (.prod (.int .i64) (.prod (.int .i64) (.int .i64)))))] × HL [.bool, (.fl (.row (.prod (.int .i64) (.prod (.int .i64) (.int .i64)))))] :=
  let c1 := (view_Inner_r a1)
  let c4 := c1.2.2
  let c5 := c4.length
  let c7 := (decide (s0.1 < (c5 : Int)))
  let c9 := (Int.toNat s0.1)
  let c10 := (decide (c9 < c5))
  let c13 := ((c4[c9]?).getD ((0 : Int), ((0 : Int), ((0 : Int), ((0 : Int), false)))))
  let c17 := c13.2.2.2.2
  let c18 := (view_Edge_r c13)
  let c24 := (c18.2 :: ([] : List (Int × (Int × Int))))
  ((cond c7 ((((decide ((0 : Int) ≤ s0.1)) && c10) && c10) && (cond c17 (c18.1 && (decide ((s0.2.1.length + c24.length) * 24 ≤ 140737488355328))) true)) true), c7, ((IntKind.i64.wrap (s0.1 + (1 : Int))), (cond c17 (s0.2.1 ++ c24) s0.2.1), ()), ((!c7), s0.2.1, ()))
noncomputable def view_Bound_r (a1 : ((List Int) × (List (Int × (Int × (Int × (Int × Bool))))))) : Bool × (Int × (List (Int × (Int × Int)))) :=
  let c1 := (view_Inner_r a1)
  let c39 := (loopD 0 [.int .i64, (.fl (.row (.prod (.int .i64) (.prod (.int .i64) (.int .i64)))))] [.bool, (.fl (.row (.prod (.int .i64) (.prod (.int .i64) (.int .i64)))))] (view_Bound_l0 a1) ((0 : Int), ([] : List (Int × (Int × Int))), ()))
  ((c1.1 && c39.1), (c1.2.1, c39.2.2.1))
def view_Bound_e : Ent := ⟨49, [], [(.pure (.row (.prod (.fl (.int .i64)) (.fl (.row (.prod (.int .i64) (.prod (.int .i64) (.prod (.int .i64) (.prod (.int .i64) .bool)))))))) (Ty.dflt _))], [(0, (.arr (.row (.prod (.int .i64) (.prod (.int .i64) (.int .i64)))) [] false))], [(.own 0 3), (.pure (.int .i64) (Ty.dflt _))], []⟩
noncomputable def view_Bound : Fun := ⟨view_Bound_e, fun x => let r := view_Bound_r x.1; (r.1, (r.2.1, r.2.2, ()))⟩
theorem view_Bound_ev : evFun Try.prog [view_Inner, view_Edge] [⟨[16, 6], [], ⟨[(6, (.own 1730 3))], [(1730, ⟨.tt, (.arr (.row (.prod (.int .i64) (.prod (.int .i64) (.int .i64)))) [] false)⟩)], 0⟩, [6], [], [(1, []), (2, [6])], []⟩] Try.f49 (codeOf Try.f49) view_Bound_e = view_Bound.fn := by kernel_rfl
theorem view_Bound_ok : FunOk Try.prog view_Bound := fun_ok (opers_ok (oks_cons view_Inner_ok (oks_cons view_Edge_ok oks_nil))) Try.call49 Try.func49 (by kernel_rfl) fun x _ => (congrFun view_Bound_ev x).symm

/- withy/withyref05.Node -/
noncomputable def withyref05_Node_r (a1 : Int) : Bool × (Bool) :=
  let c2 := (decide (a1 ≥ (1 : Int)))
  let c4 := (cond c2 c2 true)
  ((c4 && c4), ((cond c2 (decide (a1 ≤ (64 : Int))) false)))
def withyref05_Node_e : Ent := ⟨17, [], [(.pure (.int .i64) (Ty.dflt _))], [], [(.pure .bool (Ty.dflt _))], []⟩
noncomputable def withyref05_Node : Fun := ⟨withyref05_Node_e, fun x => let r := withyref05_Node_r x.1; (r.1, (r.2, ()))⟩
theorem withyref05_Node_ev : evFun Try.prog [] [] Try.f17 (codeOf Try.f17) withyref05_Node_e = withyref05_Node.fn := by kernel_rfl
theorem withyref05_Node_ok : FunOk Try.prog withyref05_Node := fun_ok (opers_ok oks_nil) Try.call17 Try.func17 (by kernel_rfl) fun x _ => (congrFun withyref05_Node_ev x).symm

/- withy/withyref09.in -/
noncomputable def withyref09_in_l0 (a1 : (List Int)) (a2 : Int) (s0 : HL [.int .i64]) : Bool × Bool × HL [.int .i64] × HL [.bool, .bool, .bool] :=
  let c4 := (decide (s0.1 < (a1.length : Int)))
  let c6 := (Int.toNat s0.1)
  let c7 := (decide (c6 < a1.length))
  let c14 := (((a1[c6]?).getD (0 : Int)) == a2)
  ((cond c4 (((decide ((0 : Int) ≤ s0.1)) && c7) && c7) true), (c4 && (!c14)), ((IntKind.i64.wrap (s0.1 + (1 : Int))), ()), ((c4 && c14), true, (!c4), ()))
noncomputable def withyref09_in_r (a1 : (List Int)) (a2 : Int) : Bool × (Bool) :=
  let c22 := (loopD 0 [.int .i64] [.bool, .bool, .bool] (withyref09_in_l0 a1 a2) ((0 : Int), ()))
  (c22.1, ((cond c22.2.2.2.1 false c22.2.2.1)))
def withyref09_in_e : Ent := ⟨69, [], [(.pure (.fl (.int .i64)) (Ty.dflt _)), (.pure (.int .i64) (Ty.dflt _))], [], [(.pure .bool (Ty.dflt _))], []⟩
noncomputable def withyref09_in : Fun := ⟨withyref09_in_e, fun x => let r := withyref09_in_r x.1 x.2.1; (r.1, (r.2, ()))⟩
theorem withyref09_in_ev : evFun Try.prog [] [⟨[5], [], ⟨[], [], 0⟩, [], [], [(1, [4]), (2, [])], []⟩] Try.f69 (codeOf Try.f69) withyref09_in_e = withyref09_in.fn := by kernel_rfl
theorem withyref09_in_ok : FunOk Try.prog withyref09_in := fun_ok (opers_ok oks_nil) Try.call69 Try.func69 (by kernel_rfl) fun x _ => (congrFun withyref09_in_ev x).symm

/- withy/withyref09.ahead -/
noncomputable def withyref09_ahead_r (a1 : (Int × (Int × (Int × (Int × Bool))))) (a2 : (Int × (Int × (Int × (Int × Bool))))) : Bool × (Bool) :=
  let c4 := (decide (a1.1 < a2.1))
  let c5 := (!c4)
  let c7 := (cond c5 c5 true)
  let c9 := (c5 && c5)
  let c12 := (a1.1 == a2.1)
  let c13 := (c9 && c12)
  let c14 := (cond c13 c13 true)
  ((((((((c7 && c7) && (cond c5 c9 true)) && c14) && c14) && (cond c13 (c13 && c13) true)) && (cond c5 (c9 && (cond c12 c13 true)) true)) && (cond c4 true c5)), ((cond c4 true (cond c12 (decide (a1.2.1 < a2.2.1)) false))))
def withyref09_ahead_e : Ent := ⟨70, [], [(.pure (.row (.prod (.int .i64) (.prod (.int .i64) (.prod (.int .i64) (.prod (.int .i64) .bool))))) (Ty.dflt _)), (.pure (.row (.prod (.int .i64) (.prod (.int .i64) (.prod (.int .i64) (.prod (.int .i64) .bool))))) (Ty.dflt _))], [], [(.pure .bool (Ty.dflt _))], []⟩
noncomputable def withyref09_ahead : Fun := ⟨withyref09_ahead_e, fun x => let r := withyref09_ahead_r x.1 x.2.1; (r.1, (r.2, ()))⟩
theorem withyref09_ahead_ev : evFun Try.prog [] [] Try.f70 (codeOf Try.f70) withyref09_ahead_e = withyref09_ahead.fn := by kernel_rfl
theorem withyref09_ahead_ok : FunOk Try.prog withyref09_ahead := fun_ok (opers_ok oks_nil) Try.call70 Try.func70 (by kernel_rfl) fun x _ => (congrFun withyref09_ahead_ev x).symm

/- withy/withyref09.May -/
noncomputable def withyref09_May_l0 (a1 : ((List Int) × (List (Int × (Int × (Int × (Int × Bool))))))) (s0 : HL [.int .i64]) : Bool × Bool × HL [.int .i64] × HL [.bool, .bool, .bool] :=
  let c5 := (decide (s0.1 < (a1.1.length : Int)))
  let c7 := (Int.toNat s0.1)
  let c8 := (decide (c7 < a1.1.length))
  let c9 := ((decide ((0 : Int) ≤ s0.1)) && c8)
  let c11 := ((a1.1[c7]?).getD (0 : Int))
  let c12 := (withyref05_Node_r c11)
  let c16 := (!c12.2)
  let c17 := (!c16)
  let c21 := (c17 && c17)
  let c23 := (decide (s0.1 > (0 : Int)))
  let c24 := (c21 && c23)
  let c25 := (cond c24 c24 true)
  let c29 := (IntKind.i64.wrap (s0.1 - (1 : Int)))
  let c31 := (Int.toNat c29)
  let c32 := (decide (c31 < a1.1.length))
  let c63 := (cond c16 true (cond c23 (decide (((a1.1[c31]?).getD (0 : Int)) ≥ c11)) false))
  ((cond c5 (((((((((((((c9 && c8) && c12.1) && (cond c17 c17 true)) && c25) && c25) && (cond c24 (c24 && (c24 && ((decide ((0 : Int) ≤ c29)) && c32))) true)) && (cond c24 (c24 && c32) true)) && c25) && (cond c24 (c24 && (c24 && c9)) true)) && (cond c24 (c24 && c8) true)) && (cond c24 (c24 && c24) true)) && (cond c17 (c21 && (cond c23 c24 true)) true)) && (cond c16 true c17)) true), (c5 && (!c63)), ((IntKind.i64.wrap (s0.1 + (1 : Int))), ()), ((c5 && c63), false, (!c5), ()))
noncomputable def withyref09_May_l1 (a1 : ((List Int) × (List (Int × (Int × (Int × (Int × Bool))))))) (s1 : HL [.int .i64]) : Bool × Bool × HL [.int .i64] × HL [.bool, .bool, .bool] :=
  let c76 := (decide (s1.1 < (a1.2.length : Int)))
  let c78 := (Int.toNat s1.1)
  let c79 := (decide (c78 < a1.2.length))
  let c82 := ((a1.2[c78]?).getD ((0 : Int), ((0 : Int), ((0 : Int), ((0 : Int), false)))))
  let c83 := c82.1
  let c84 := (withyref09_in_r a1.1 c83)
  let c87 := (!c84.2)
  let c88 := (!c87)
  let c89 := (cond c88 c88 true)
  let c91 := c82.2
  let c92 := c91.1
  let c93 := (withyref05_Node_r c92)
  let c103 := (cond c87 true (!c93.2))
  let c104 := (!c103)
  let c105 := (cond c104 c104 true)
  let c114 := (cond c103 true (c83 == c92))
  let c115 := (!c114)
  let c116 := (cond c115 c115 true)
  let c121 := c91.2
  let c122 := c121.1
  let c124 := (cond c114 true (decide (c122 < (0 : Int))))
  let c125 := (!c124)
  let c126 := (cond c125 c125 true)
  let c133 := (cond c124 true (decide (c122 > (2147483647 : Int))))
  let c134 := (!c133)
  let c135 := (cond c134 c134 true)
  let c141 := c121.2.1
  let c143 := (cond c133 true (decide (c141 < (1 : Int))))
  let c144 := (!c143)
  let c145 := (cond c144 c144 true)
  let c151 := (cond c143 true (decide (c141 > (2147483647 : Int))))
  let c152 := (!c151)
  let c153 := (decide (s1.1 > (0 : Int)))
  let c154 := (cond c153 c153 true)
  let c156 := (IntKind.i64.wrap (s1.1 - (1 : Int)))
  let c158 := (Int.toNat c156)
  let c159 := (decide (c158 < a1.2.length))
  let c170 := (withyref09_ahead_r ((a1.2[c158]?).getD ((0 : Int), ((0 : Int), ((0 : Int), ((0 : Int), false))))) c82)
  let c183 := (cond c153 (!c170.2) false)
  ((cond c76 ((((decide ((0 : Int) ≤ s1.1)) && c79) && c79) && (((((((((((((((((((((c84.1 && c89) && (cond c88 (c88 && c93.1) true)) && c89) && (cond c87 true c88)) && c105) && c105) && (cond c104 (c104 && c104) true)) && (cond c103 true c104)) && c116) && c116) && (cond c114 true c115)) && c126) && c126) && (cond c124 true c125)) && c135) && c135) && (cond c133 true c134)) && c145) && c145) && (cond c143 true c144)) && (cond c152 ((((((c154 && c154) && (cond c153 (c153 && (c153 && ((decide ((0 : Int) ≤ c156)) && c159))) true)) && (cond c153 (c153 && c159) true)) && (cond c153 ((c153 && c153) && c170.1) true)) && c154) && c154) true))) true), (c76 && (c152 && (!c183))), ((IntKind.i64.wrap (s1.1 + (1 : Int))), ()), ((c76 && (cond c152 c183 c151)), (cond c152 false false), (!c76), ()))
noncomputable def withyref09_May_r (a1 : ((List Int) × (List (Int × (Int × (Int × (Int × Bool))))))) : Bool × (Bool) :=
  let c69 := (loopD 0 [.int .i64] [.bool, .bool, .bool] (withyref09_May_l0 a1) ((0 : Int), ()))
  let c71 := c69.2.2.2.1
  let c192 := (loopD 1 [.int .i64] [.bool, .bool, .bool] (withyref09_May_l1 a1) ((0 : Int), ()))
  ((c69.1 && (cond c71 c192.1 true)), ((cond c71 (cond c192.2.2.2.1 true c192.2.2.1) c69.2.2.1)))
def withyref09_May_e : Ent := ⟨50, [], [(.pure (.row (.prod (.fl (.int .i64)) (.fl (.row (.prod (.int .i64) (.prod (.int .i64) (.prod (.int .i64) (.prod (.int .i64) .bool)))))))) (Ty.dflt _))], [], [(.pure .bool (Ty.dflt _))], []⟩
noncomputable def withyref09_May : Fun := ⟨withyref09_May_e, fun x => let r := withyref09_May_r x.1; (r.1, (r.2, ()))⟩
theorem withyref09_May_ev : evFun Try.prog [withyref05_Node, withyref09_in, withyref09_ahead] [⟨[3], [], ⟨[], [], 0⟩, [], [], [(1, [2]), (2, [])], []⟩, ⟨[4], [], ⟨[], [], 0⟩, [], [], [(1, [2]), (4, [])], []⟩] Try.f50 (codeOf Try.f50) withyref09_May_e = withyref09_May.fn := by kernel_rfl
theorem withyref09_May_ok : FunOk Try.prog withyref09_May := fun_ok (opers_ok (oks_cons withyref05_Node_ok (oks_cons withyref09_in_ok (oks_cons withyref09_ahead_ok oks_nil)))) Try.call50 Try.func50 (by kernel_rfl) fun x _ => (congrFun withyref09_May_ev x).symm

/- withy/withyref09.Edge -/
noncomputable def withyref09_Edge_r (a1 : (Int × (Int × (Int × (Int × Bool))))) : Bool × ((Int × (Int × Int))) :=
  (true, ((cond (!(decide (a1.2.1 < a1.1))) (a1.1, (a1.2.1, a1.2.2.1)) (a1.2.1, (a1.1, a1.2.2.1)))))
def withyref09_Edge_e : Ent := ⟨52, [], [(.pure (.row (.prod (.int .i64) (.prod (.int .i64) (.prod (.int .i64) (.prod (.int .i64) .bool))))) (Ty.dflt _))], [], [(.pure (.row (.prod (.int .i64) (.prod (.int .i64) (.int .i64)))) (Ty.dflt _))], []⟩
noncomputable def withyref09_Edge : Fun := ⟨withyref09_Edge_e, fun x => let r := withyref09_Edge_r x.1; (r.1, (r.2, ()))⟩
theorem withyref09_Edge_ev : evFun Try.prog [] [] Try.f52 (codeOf Try.f52) withyref09_Edge_e = withyref09_Edge.fn := by kernel_rfl
theorem withyref09_Edge_ok : FunOk Try.prog withyref09_Edge := fun_ok (opers_ok oks_nil) Try.call52 Try.func52 (by kernel_rfl) fun x _ => (congrFun withyref09_Edge_ev x).symm

/- withy/withyref09.Inner -/
noncomputable def withyref09_Inner_l1 (a1 : ((List Int) × (List (Int × (Int × (Int × (Int × Bool))))))) (s0 : HL [.int .i64, (.fl (.row (.prod (.int .i64) (.prod (.int .i64) (.prod (.int .i64) (.prod (.int .i64) .bool))))))]) (s1 : HL [.int .i64, (.fl (.row (.prod (.int .i64) (.prod (.int .i64) (.prod (.int .i64) (.prod (.int .i64) .bool))))))]) : Bool × Bool × HL [.int .i64, (.fl (.row (.prod (.int .i64) (.prod (.int .i64) (.prod (.int .i64) (.prod (.int .i64) .bool))))))] × HL [.bool, (.fl (.row (.prod (.int .i64) (.prod (.int .i64) (.prod (.int .i64) (.prod (.int .i64) .bool))))))] :=
  let c7 := (decide (s1.1 < (a1.2.length : Int)))
  let c9 := (Int.toNat s0.1)
  let c10 := (decide (c9 < a1.2.length))
  let c14 := (Int.toNat s1.1)
  let c15 := (decide (c14 < a1.2.length))
  let c19 := ((a1.2[c9]?).getD ((0 : Int), ((0 : Int), ((0 : Int), ((0 : Int), false)))))
  let c20 := c19.1
  let c21 := c19.2
  let c22 := c21.1
  let c23 := (decide (c20 < c22))
  let c25 := (cond c23 c23 true)
  let c31 := ((a1.2[c14]?).getD ((0 : Int), ((0 : Int), ((0 : Int), ((0 : Int), false)))))
  let c32 := c31.2
  let c36 := (cond c23 (c20 == c32.1) false)
  let c37 := (cond c36 c36 true)
  let c46 := (cond c36 (c22 == c31.1) false)
  let c47 := (cond c46 c46 true)
  let c54 := c21.2
  let c55 := c54.1
  let c56 := c32.2
  let c59 := (cond c46 (c55 == c56.1) false)
  let c60 := (cond c59 c59 true)
  let c67 := c54.2
  let c68 := c67.1
  let c69 := c56.2
  let c72 := (cond c59 (c68 == c69.1) false)
  let c73 := c67.2
  let c74 := (cond c73 c73 true)
  let c85 := ((c20, (c22, (c55, (c68, (cond c73 c69.2 false))))) :: ([] : List (Int × (Int × (Int × (Int × Bool))))))
  ((cond c7 ((((((decide ((0 : Int) ≤ s0.1)) && c10) && c10) && ((decide ((0 : Int) ≤ s1.1)) && c15)) && c15) && ((((((((((((((((c25 && c25) && (cond c23 (c23 && c23) true)) && c25) && c37) && c37) && (cond c36 (c36 && c36) true)) && c37) && c47) && c47) && (cond c46 (c46 && c46) true)) && c47) && c60) && c60) && (cond c59 (c59 && c59) true)) && c60) && (cond c72 ((c74 && c74) && (decide ((s1.2.1.length + c85.length) * 40 ≤ 140737488355328))) true))) true), c7, ((IntKind.i64.wrap (s1.1 + (1 : Int))), (cond c72 (s1.2.1 ++ c85) s1.2.1), ()), ((!c7), s1.2.1, ()))
noncomputable def withyref09_Inner_l0 (a1 : ((List Int) × (List (Int × (Int × (Int × (Int × Bool))))))) (s0 : HL [.int .i64, (.fl (.row (.prod (.int .i64) (.prod (.int .i64) (.prod (.int .i64) (.prod (.int .i64) .bool))))))]) : Bool × Bool × HL [.int .i64, (.fl (.row (.prod (.int .i64) (.prod (.int .i64) (.prod (.int .i64) (.prod (.int .i64) .bool))))))] × HL [.bool, (.fl (.row (.prod (.int .i64) (.prod (.int .i64) (.prod (.int .i64) (.prod (.int .i64) .bool))))))] :=
  let c5 := (decide (s0.1 < (a1.2.length : Int)))
  let c101 := (loopD 1 [.int .i64, (.fl (.row (.prod (.int .i64) (.prod (.int .i64) (.prod (.int .i64) (.prod (.int .i64) .bool))))))] [.bool, (.fl (.row (.prod (.int .i64) (.prod (.int .i64) (.prod (.int .i64) (.prod (.int .i64) .bool))))))] (withyref09_Inner_l1 a1 s0) ((0 : Int), s0.2.1, ()))
  ((cond c5 c101.1 true), c5, ((IntKind.i64.wrap (s0.1 + (1 : Int))), c101.2.2.1, ()), ((!c5), s0.2.1, ()))
noncomputable def withyref09_Inner_r (a1 : ((List Int) × (List (Int × (Int × (Int × (Int × Bool))))))) : Bool × ((List (Int × (Int × (Int × (Int × Bool)))))) :=
  let c107 := (loopD 0 [.int .i64, (.fl (.row (.prod (.int .i64) (.prod (.int .i64) (.prod (.int .i64) (.prod (.int .i64) .bool))))))] [.bool, (.fl (.row (.prod (.int .i64) (.prod (.int .i64) (.prod (.int .i64) (.prod (.int .i64) .bool))))))] (withyref09_Inner_l0 a1) ((0 : Int), ([] : List (Int × (Int × (Int × (Int × Bool))))), ()))
  (c107.1, (c107.2.2.1))
def withyref09_Inner_e : Ent := ⟨54, [], [(.pure (.row (.prod (.fl (.int .i64)) (.fl (.row (.prod (.int .i64) (.prod (.int .i64) (.prod (.int .i64) (.prod (.int .i64) .bool)))))))) (Ty.dflt _))], [(0, (.arr (.row (.prod (.int .i64) (.prod (.int .i64) (.prod (.int .i64) (.prod (.int .i64) .bool))))) [] false))], [(.own 0 5)], []⟩
noncomputable def withyref09_Inner : Fun := ⟨withyref09_Inner_e, fun x => let r := withyref09_Inner_r x.1; (r.1, (r.2, ()))⟩
theorem withyref09_Inner_ev : evFun Try.prog [] [⟨[3, 4], [], ⟨[], [], 0⟩, [], [], [(1, []), (2, [3])], []⟩, ⟨[5, 3], [], ⟨[], [], 0⟩, [], [], [(1, []), (4, [3])], []⟩] Try.f54 (codeOf Try.f54) withyref09_Inner_e = withyref09_Inner.fn := by kernel_rfl
theorem withyref09_Inner_ok : FunOk Try.prog withyref09_Inner := fun_ok (opers_ok oks_nil) Try.call54 Try.func54 (by kernel_rfl) fun x _ => (congrFun withyref09_Inner_ev x).symm

/- withy/withyref09.Links -/
noncomputable def withyref09_Links_l0 (a1 : (List (Int × (Int × (Int × (Int × Bool)))))) (a2 : (List (Int × (Int × (Int × (Int × Bool)))))) (s0 : HL [.int .i64]) : Bool × Bool × HL [.int .i64] × HL [.bool, .bool, .bool] :=
  let c9 := (decide (s0.1 < (a1.length : Int)))
  let c10 := (decide ((0 : Int) ≤ s0.1))
  let c11 := (Int.toNat s0.1)
  let c12 := (decide (c11 < a1.length))
  let c15 := (decide (c11 < a2.length))
  let c21 := ((a1[c11]?).getD ((0 : Int), ((0 : Int), ((0 : Int), ((0 : Int), false)))))
  let c23 := ((a2[c11]?).getD ((0 : Int), ((0 : Int), ((0 : Int), ((0 : Int), false)))))
  let c26 := c21.2
  let c28 := c23.2
  let c31 := c26.2
  let c33 := c28.2
  let c36 := c31.2
  let c38 := c33.2
  let c48 := (!((c21.1 == c23.1) && ((c26.1 == c28.1) && ((c31.1 == c33.1) && ((c36.1 == c38.1) && (c36.2 == c38.2))))))
  ((cond c9 ((((c10 && c12) && c12) && (c10 && c15)) && c15) true), (c9 && (!c48)), ((IntKind.i64.wrap (s0.1 + (1 : Int))), ()), ((c9 && c48), false, (!c9), ()))
noncomputable def withyref09_Links_r (a1 : (List (Int × (Int × (Int × (Int × Bool)))))) (a2 : (List (Int × (Int × (Int × (Int × Bool)))))) : Bool × (Bool) :=
  let c7 := (!((a1.length : Int) != (a2.length : Int)))
  let c57 := (loopD 0 [.int .i64] [.bool, .bool, .bool] (withyref09_Links_l0 a1 a2) ((0 : Int), ()))
  ((cond c7 c57.1 true), ((cond c7 (cond c57.2.2.2.1 true c57.2.2.1) false)))
def withyref09_Links_e : Ent := ⟨53, [], [(.pure (.fl (.row (.prod (.int .i64) (.prod (.int .i64) (.prod (.int .i64) (.prod (.int .i64) .bool)))))) (Ty.dflt _)), (.pure (.fl (.row (.prod (.int .i64) (.prod (.int .i64) (.prod (.int .i64) (.prod (.int .i64) .bool)))))) (Ty.dflt _))], [], [(.pure .bool (Ty.dflt _))], []⟩
noncomputable def withyref09_Links : Fun := ⟨withyref09_Links_e, fun x => let r := withyref09_Links_r x.1 x.2.1; (r.1, (r.2, ()))⟩
theorem withyref09_Links_ev : evFun Try.prog [] [⟨[5], [], ⟨[], [], 0⟩, [], [], [(1, [4]), (2, [])], []⟩] Try.f53 (codeOf Try.f53) withyref09_Links_e = withyref09_Links.fn := by kernel_rfl
theorem withyref09_Links_ok : FunOk Try.prog withyref09_Links := fun_ok (opers_ok oks_nil) Try.call53 Try.func53 (by kernel_rfl) fun x _ => (congrFun withyref09_Links_ev x).symm

/- withy/withyref09.Outer -/
noncomputable def withyref09_Outer_l0 (a1 : ((List Int) × (List (Int × (Int × (Int × (Int × Bool))))))) (s0 : HL [.int .i64, (.fl (.row (.prod (.int .i64) (.prod (.int .i64) (.prod (.int .i64) (.prod (.int .i64) .bool))))))]) : Bool × Bool × HL [.int .i64, (.fl (.row (.prod (.int .i64) (.prod (.int .i64) (.prod (.int .i64) (.prod (.int .i64) .bool))))))] × HL [.bool, (.fl (.row (.prod (.int .i64) (.prod (.int .i64) (.prod (.int .i64) (.prod (.int .i64) .bool))))))] :=
  let c5 := (decide (s0.1 < (a1.2.length : Int)))
  let c7 := (Int.toNat s0.1)
  let c8 := (decide (c7 < a1.2.length))
  let c10 := (((decide ((0 : Int) ≤ s0.1)) && c8) && c8)
  let c12 := ((a1.2[c7]?).getD ((0 : Int), ((0 : Int), ((0 : Int), ((0 : Int), false)))))
  let c15 := (withyref09_in_r a1.1 c12.2.1)
  let c19 := (!c15.2)
  let c23 := (c12 :: ([] : List (Int × (Int × (Int × (Int × Bool))))))
  ((cond c5 ((c10 && c15.1) && (cond c19 (c10 && (decide ((s0.2.1.length + c23.length) * 40 ≤ 140737488355328))) true)) true), c5, ((IntKind.i64.wrap (s0.1 + (1 : Int))), (cond c19 (s0.2.1 ++ c23) s0.2.1), ()), ((!c5), s0.2.1, ()))
noncomputable def withyref09_Outer_r (a1 : ((List Int) × (List (Int × (Int × (Int × (Int × Bool))))))) : Bool × ((List (Int × (Int × (Int × (Int × Bool)))))) :=
  let c38 := (loopD 0 [.int .i64, (.fl (.row (.prod (.int .i64) (.prod (.int .i64) (.prod (.int .i64) (.prod (.int .i64) .bool))))))] [.bool, (.fl (.row (.prod (.int .i64) (.prod (.int .i64) (.prod (.int .i64) (.prod (.int .i64) .bool))))))] (withyref09_Outer_l0 a1) ((0 : Int), ([] : List (Int × (Int × (Int × (Int × Bool))))), ()))
  (c38.1, (c38.2.2.1))
def withyref09_Outer_e : Ent := ⟨55, [], [(.pure (.row (.prod (.fl (.int .i64)) (.fl (.row (.prod (.int .i64) (.prod (.int .i64) (.prod (.int .i64) (.prod (.int .i64) .bool)))))))) (Ty.dflt _))], [(0, (.arr (.row (.prod (.int .i64) (.prod (.int .i64) (.prod (.int .i64) (.prod (.int .i64) .bool))))) [] false))], [(.own 0 5)], []⟩
noncomputable def withyref09_Outer : Fun := ⟨withyref09_Outer_e, fun x => let r := withyref09_Outer_r x.1; (r.1, (r.2, ()))⟩
theorem withyref09_Outer_ev : evFun Try.prog [withyref09_in] [⟨[4, 3], [], ⟨[], [], 0⟩, [], [], [(1, []), (2, [3])], []⟩] Try.f55 (codeOf Try.f55) withyref09_Outer_e = withyref09_Outer.fn := by kernel_rfl
theorem withyref09_Outer_ok : FunOk Try.prog withyref09_Outer := fun_ok (opers_ok (oks_cons withyref09_in_ok oks_nil)) Try.call55 Try.func55 (by kernel_rfl) fun x _ => (congrFun withyref09_Outer_ev x).symm

/- withy/withyref09.Bound -/
noncomputable def withyref09_Bound_l0 (a1 : ((List Int) × (List (Int × (Int × (Int × (Int × Bool))))))) (s0 : HL [.int .i64, (.fl (.row (.prod (.int .i64) (.prod (.int .i64) (.int .i64)))))]) : Bool × Bool × HL [.int .i64, (.fl (.row (.prod (.int .i64) (.prod (.int .i64) (.int .i64)))))] × HL [.bool, (.fl (.row (.prod (.int .i64) (.prod (.int .i64) (.int .i64)))))] :=
  let c1 := (withyref09_Inner_r a1)
  let c4 := c1.2
  let c5 := c4.length
  let c7 := (decide (s0.1 < (c5 : Int)))
  let c9 := (Int.toNat s0.1)
  let c10 := (decide (c9 < c5))
  let c12 := (((decide ((0 : Int) ≤ s0.1)) && c10) && c10)
  let c13 := ((c4[c9]?).getD ((0 : Int), ((0 : Int), ((0 : Int), ((0 : Int), false)))))
  let c17 := c13.2.2.2.2
  let c18 := (withyref09_Edge_r c13)
  let c25 := (c18.2 :: ([] : List (Int × (Int × Int))))
  ((cond c7 (c12 && (cond c17 ((c12 && c18.1) && (decide ((s0.2.1.length + c25.length) * 24 ≤ 140737488355328))) true)) true), c7, ((IntKind.i64.wrap (s0.1 + (1 : Int))), (cond c17 (s0.2.1 ++ c25) s0.2.1), ()), ((!c7), s0.2.1, ()))
noncomputable def withyref09_Bound_r (a1 : ((List Int) × (List (Int × (Int × (Int × (Int × Bool))))))) : Bool × ((List (Int × (Int × Int)))) :=
  let c1 := (withyref09_Inner_r a1)
  let c40 := (loopD 0 [.int .i64, (.fl (.row (.prod (.int .i64) (.prod (.int .i64) (.int .i64)))))] [.bool, (.fl (.row (.prod (.int .i64) (.prod (.int .i64) (.int .i64)))))] (withyref09_Bound_l0 a1) ((0 : Int), ([] : List (Int × (Int × Int))), ()))
  ((c1.1 && c40.1), (c40.2.2.1))
def withyref09_Bound_e : Ent := ⟨57, [], [(.pure (.row (.prod (.fl (.int .i64)) (.fl (.row (.prod (.int .i64) (.prod (.int .i64) (.prod (.int .i64) (.prod (.int .i64) .bool)))))))) (Ty.dflt _))], [(0, (.arr (.row (.prod (.int .i64) (.prod (.int .i64) (.int .i64)))) [] false))], [(.own 0 3)], []⟩
noncomputable def withyref09_Bound : Fun := ⟨withyref09_Bound_e, fun x => let r := withyref09_Bound_r x.1; (r.1, (r.2, ()))⟩
theorem withyref09_Bound_ev : evFun Try.prog [withyref09_Inner, withyref09_Edge] [⟨[5, 4], [], ⟨[], [], 0⟩, [], [], [(1, []), (2, [4])], []⟩] Try.f57 (codeOf Try.f57) withyref09_Bound_e = withyref09_Bound.fn := by kernel_rfl
theorem withyref09_Bound_ok : FunOk Try.prog withyref09_Bound := fun_ok (opers_ok (oks_cons withyref09_Inner_ok (oks_cons withyref09_Edge_ok oks_nil))) Try.call57 Try.func57 (by kernel_rfl) fun x _ => (congrFun withyref09_Bound_ev x).symm

/- withy/withyref05.Same -/
noncomputable def withyref05_Same_l0 (a1 : (List (Int × (Int × Int)))) (a2 : (List (Int × (Int × Int)))) (s0 : HL [.int .i64]) : Bool × Bool × HL [.int .i64] × HL [.bool, .bool, .bool] :=
  let c9 := (decide (s0.1 < (a1.length : Int)))
  let c10 := (decide ((0 : Int) ≤ s0.1))
  let c11 := (Int.toNat s0.1)
  let c12 := (decide (c11 < a1.length))
  let c15 := (decide (c11 < a2.length))
  let c21 := ((a1[c11]?).getD ((0 : Int), ((0 : Int), (0 : Int))))
  let c23 := ((a2[c11]?).getD ((0 : Int), ((0 : Int), (0 : Int))))
  let c26 := c21.2
  let c28 := c23.2
  let c36 := (!((c21.1 == c23.1) && ((c26.1 == c28.1) && (c26.2 == c28.2))))
  ((cond c9 ((((c10 && c12) && c12) && (c10 && c15)) && c15) true), (c9 && (!c36)), ((IntKind.i64.wrap (s0.1 + (1 : Int))), ()), ((c9 && c36), false, (!c9), ()))
noncomputable def withyref05_Same_r (a1 : (List (Int × (Int × Int)))) (a2 : (List (Int × (Int × Int)))) : Bool × (Bool) :=
  let c7 := (!((a1.length : Int) != (a2.length : Int)))
  let c45 := (loopD 0 [.int .i64] [.bool, .bool, .bool] (withyref05_Same_l0 a1 a2) ((0 : Int), ()))
  ((cond c7 c45.1 true), ((cond c7 (cond c45.2.2.2.1 true c45.2.2.1) false)))
def withyref05_Same_e : Ent := ⟨56, [], [(.pure (.fl (.row (.prod (.int .i64) (.prod (.int .i64) (.int .i64))))) (Ty.dflt _)), (.pure (.fl (.row (.prod (.int .i64) (.prod (.int .i64) (.int .i64))))) (Ty.dflt _))], [], [(.pure .bool (Ty.dflt _))], []⟩
noncomputable def withyref05_Same : Fun := ⟨withyref05_Same_e, fun x => let r := withyref05_Same_r x.1 x.2.1; (r.1, (r.2, ()))⟩
theorem withyref05_Same_ev : evFun Try.prog [] [⟨[5], [], ⟨[], [], 0⟩, [], [], [(1, [4]), (2, [])], []⟩] Try.f56 (codeOf Try.f56) withyref05_Same_e = withyref05_Same.fn := by kernel_rfl
theorem withyref05_Same_ok : FunOk Try.prog withyref05_Same := fun_ok (opers_ok oks_nil) Try.call56 Try.func56 (by kernel_rfl) fun x _ => (congrFun withyref05_Same_ev x).symm

/- withy/withylaw09.ViewLinks -/
noncomputable def withylaw09_ViewLinks_l0 (a1 : ((List Int) × (List (Int × (Int × (Int × (Int × Bool))))))) (s0 : HL [.int .i64]) : Bool × Bool × HL [.int .i64] × HL [.bool, .bool, .bool] :=
  let c74 := (decide (s0.1 < (a1.2.length : Int)))
  let c76 := (Int.toNat s0.1)
  let c77 := (decide (c76 < a1.2.length))
  let c78 := ((decide ((0 : Int) ≤ s0.1)) && c77)
  let c80 := ((a1.2[c76]?).getD ((0 : Int), ((0 : Int), ((0 : Int), ((0 : Int), false)))))
  let c81 := (view_Edge_r c80)
  let c86 := (withyref09_Edge_r c80)
  let c90 := c81.2
  let c92 := c86.2
  let c95 := c90.2
  let c97 := c92.2
  let c105 := (!((c90.1 == c92.1) && ((c95.1 == c97.1) && (c95.2 == c97.2))))
  ((cond c74 (((((c78 && c77) && c81.1) && c78) && c77) && c86.1) true), (c74 && (!c105)), ((IntKind.i64.wrap (s0.1 + (1 : Int))), ()), ((c74 && c105), false, (!c74), ()))
noncomputable def withylaw09_ViewLinks_r (a1 : ((List Int) × (List (Int × (Int × (Int × (Int × Bool))))))) : Bool × (Bool) :=
  let c1 := (withylaw09_light_r a1)
  let c4 := (!c1.2)
  let c5 := (withylaw09_awake_r)
  let c6 := c5.1
  let c10 := (!c4)
  let c11 := (view_Inner_r a1)
  let c13 := (view_Outer_r a1)
  let c15 := (view_Bound_r a1)
  let c17 := (withyref09_May_r a1)
  let c20 := (!c17.2)
  let c21 := c11.2.1
  let c23 := (c21 == (1 : Int))
  let c24 := (cond c23 c23 true)
  let c26 := c13.2.2.2.1
  let c29 := (cond c23 (c26 == (1 : Int)) false)
  let c30 := (cond c29 c29 true)
  let c33 := c15.2.1
  let c35 := (cond c29 (c33 == (1 : Int)) false)
  let c36 := (cond c35 c35 true)
  let c40 := c11.2.2
  let c45 := (cond c35 ((c40.length : Int) == (0 : Int)) false)
  let c46 := (cond c45 c45 true)
  let c50 := c13.2.2.1
  let c53 := (cond c45 ((c50 : Int) == (0 : Int)) false)
  let c54 := (cond c53 c53 true)
  let c58 := c15.2.2
  let c62 := (cond c53 ((c58.length : Int) == (0 : Int)) false)
  let c69 := (!c20)
  let c111 := (loopD 0 [.int .i64] [.bool, .bool, .bool] (withylaw09_ViewLinks_l0 a1) ((0 : Int), ()))
  let c113 := c111.2.2.2.1
  let c114 := (c21 == (0 : Int))
  let c115 := (cond c114 c114 true)
  let c118 := (cond c114 (c26 == (0 : Int)) false)
  let c119 := (cond c118 c118 true)
  let c123 := (cond c118 (c33 == (0 : Int)) false)
  let c124 := (withyref09_Inner_r a1)
  let c131 := (withyref09_Links_r c40 c124.2)
  let c140 := (cond c123 c131.2 false)
  let c141 := (withyref09_Outer_r a1)
  let c152 := (withyref09_Links_r ((c13.2.2.2.2.drop c13.2.1).take c50) c141.2)
  let c161 := (cond c140 c152.2 false)
  let c162 := (withyref09_Bound_r a1)
  let c169 := (withyref05_Same_r c58 c162.2)
  let c178 := (cond c161 c169.2 false)
  let c192 := c5.2
  (((c1.1 && (cond c4 c6 true)) && (cond c10 (c11.1 && (c13.1 && (c15.1 && ((c17.1 && (cond c20 ((((((((((((((c24 && c24) && c30) && c30) && c36) && c36) && c36) && c46) && c46) && c46) && c54) && c54) && c54) && (cond c62 c6 true)) && (cond c62 c62 true)) true)) && (cond c69 (c111.1 && (cond c113 ((((((((((((((c115 && c115) && c119) && c119) && (cond c123 (c123 && c124.1) true)) && (cond c123 (c123 && ((c123 && c123) && c131.1)) true)) && (cond c123 c123 true)) && (cond c140 (c140 && c141.1) true)) && (cond c140 (c140 && ((c140 && c140) && c152.1)) true)) && (cond c140 c140 true)) && (cond c161 (c161 && c162.1) true)) && (cond c161 (c161 && ((c161 && c161) && c169.1)) true)) && (cond c161 c161 true)) && (cond c178 c6 true)) && (cond c178 c178 true)) true)) true))))) true)), ((cond c10 (cond c69 (cond c113 (cond c178 c192 false) c111.2.2.1) (cond c62 c192 false)) c192)))
def withylaw09_ViewLinks_e : Ent := ⟨13, [], [(.pure (.row (.prod (.fl (.int .i64)) (.fl (.row (.prod (.int .i64) (.prod (.int .i64) (.prod (.int .i64) (.prod (.int .i64) .bool)))))))) (Ty.dflt _))], [], [(.pure .bool (Ty.dflt _))], []⟩
noncomputable def withylaw09_ViewLinks : Fun := ⟨withylaw09_ViewLinks_e, fun x => let r := withylaw09_ViewLinks_r x.1; (r.1, (r.2, ()))⟩
theorem withylaw09_ViewLinks_ev : evFun Try.prog [withylaw09_light, withylaw09_awake, view_Inner, view_Outer, view_Bound, withyref09_May, view_Edge, withyref09_Edge, withyref09_Inner, withyref09_Links, withyref09_Outer, withyref09_Bound, withyref05_Same] [⟨[9], [], ⟨[], [], 0⟩, [], [], [(1, [2]), (2, [])], []⟩] Try.f13 (codeOf Try.f13) withylaw09_ViewLinks_e = withylaw09_ViewLinks.fn := by kernel_rfl
theorem withylaw09_ViewLinks_ok : FunOk Try.prog withylaw09_ViewLinks := fun_ok (opers_ok (oks_cons withylaw09_light_ok (oks_cons withylaw09_awake_ok (oks_cons view_Inner_ok (oks_cons view_Outer_ok (oks_cons view_Bound_ok (oks_cons withyref09_May_ok (oks_cons view_Edge_ok (oks_cons withyref09_Edge_ok (oks_cons withyref09_Inner_ok (oks_cons withyref09_Links_ok (oks_cons withyref09_Outer_ok (oks_cons withyref09_Bound_ok (oks_cons withyref05_Same_ok oks_nil)))))))))))))) Try.call13 Try.func13 (by kernel_rfl) fun x _ => (congrFun withylaw09_ViewLinks_ev x).symm

/- withy/withylaw09.ViewTells -/
noncomputable def withylaw09_ViewTells_l1 (a1 : ((List Int) × (List (Int × (Int × (Int × (Int × Bool))))))) (s0 : HL [.int .i64]) (s1 : HL [.int .i64, .int .i64]) : Bool × Bool × HL [.int .i64, .int .i64] × HL [.bool, .int .i64] :=
  let c24 := (view_Inner_r a1)
  let c60 := c24.2.2
  let c61 := c60.length
  let c92 := (decide (s1.1 < (a1.2.length : Int)))
  let c94 := (Int.toNat s1.1)
  let c95 := (decide (c94 < a1.2.length))
  let c98 := ((a1.2[c94]?).getD ((0 : Int), ((0 : Int), ((0 : Int), ((0 : Int), false)))))
  let c99 := (withyref09_Edge_r c98)
  let c102 := (Int.toNat s0.1)
  let c103 := (decide (c102 < c61))
  let c104 := ((decide ((0 : Int) ≤ s0.1)) && c103)
  let c107 := ((c60[c102]?).getD ((0 : Int), ((0 : Int), ((0 : Int), ((0 : Int), false)))))
  let c108 := (withyref09_Edge_r c107)
  let c111 := c99.2
  let c113 := c108.2
  let c116 := c111.2
  let c118 := c113.2
  let c125 := ((c111.1 == c113.1) && ((c116.1 == c118.1) && (c116.2 == c118.2)))
  let c126 := (cond c125 c125 true)
  let c148 := c107.2
  ((cond c92 ((((decide ((0 : Int) ≤ s1.1)) && c95) && c95) && (((((((((c99.1 && c104) && c103) && c108.1) && c126) && (cond c125 (c125 && (c125 && c104)) true)) && c126) && (cond c125 (c125 && c103) true)) && (cond c125 (c125 && c125) true)) && c126)) true), c92, ((IntKind.i64.wrap (s1.1 + (1 : Int))), (cond (cond c125 (c98.2.2.2.1 == c148.2.2.1) false) (IntKind.i64.wrap (s1.2.1 + (1 : Int))) s1.2.1), ()), ((!c92), s1.2.1, ()))
noncomputable def withylaw09_ViewTells_l0 (a1 : ((List Int) × (List (Int × (Int × (Int × (Int × Bool))))))) (s0 : HL [.int .i64]) : Bool × Bool × HL [.int .i64] × HL [.bool, .bool, .bool] :=
  let c24 := (view_Inner_r a1)
  let c60 := c24.2.2
  let c61 := c60.length
  let c62 := (c61 : Int)
  let c90 := (decide (s0.1 < c62))
  let c102 := (Int.toNat s0.1)
  let c103 := (decide (c102 < c61))
  let c104 := ((decide ((0 : Int) ≤ s0.1)) && c103)
  let c107 := ((c60[c102]?).getD ((0 : Int), ((0 : Int), ((0 : Int), ((0 : Int), false)))))
  let c148 := c107.2
  let c159 := (loopD 1 [.int .i64, .int .i64] [.bool, .int .i64] (withylaw09_ViewTells_l1 a1 s0) ((0 : Int), (0 : Int), ()))
  let c162 := (c159.2.2.1 != (2 : Int))
  let c163 := (!c162)
  let c166 := (cond c163 (c163 && (c163 && c104)) true)
  let c167 := (cond c163 c163 true)
  let c170 := (cond c163 (c163 && c103) true)
  let c185 := (cond c162 true (decide (c107.1 ≥ c148.1)))
  ((cond c90 (c159.1 && (((((((c166 && c167) && c170) && c166) && c167) && c170) && (cond c163 (c163 && c163) true)) && (cond c162 true c163))) true), (c90 && (!c185)), ((IntKind.i64.wrap (s0.1 + (1 : Int))), ()), ((c90 && c185), false, (!c90), ()))
noncomputable def withylaw09_ViewTells_r (a1 : ((List Int) × (List (Int × (Int × (Int × (Int × Bool))))))) : Bool × (Bool) :=
  let c1 := (withylaw09_light_r a1)
  let c4 := (!c1.2)
  let c5 := (!c4)
  let c6 := (withyref09_May_r a1)
  let c18 := (cond c4 true (!c6.2))
  let c19 := (withylaw09_awake_r)
  let c20 := c19.1
  let c23 := (!c18)
  let c24 := (view_Inner_r a1)
  let c26 := (view_Outer_r a1)
  let c28 := (view_Bound_r a1)
  let c32 := (c24.2.1 != (0 : Int))
  let c33 := (!c32)
  let c39 := (cond c32 true (c26.2.2.2.1 != (0 : Int)))
  let c40 := (!c39)
  let c47 := (cond c39 true (c28.2.1 != (0 : Int)))
  let c48 := (!c47)
  let c49 := (cond c48 c48 true)
  let c60 := c24.2.2
  let c61 := c60.length
  let c62 := (c61 : Int)
  let c64 := (cond c47 true (decide ((c28.2.2.length : Int) > c62)))
  let c65 := (!c64)
  let c66 := (cond c65 c65 true)
  let c71 := (cond c65 (c65 && c65) true)
  let c88 := (!(cond c64 true (decide ((IntKind.i64.wrap ((IntKind.i64.wrap ((2 : Int) * c62)) + (c26.2.2.1 : Int))) > (a1.2.length : Int)))))
  let c191 := (loopD 0 [.int .i64] [.bool, .bool, .bool] (withylaw09_ViewTells_l0 a1) ((0 : Int), ()))
  let c193 := c191.2.2.2.1
  let c203 := c19.2
  ((((((c1.1 && (cond c5 (c5 && c6.1) true)) && (cond c5 c5 true)) && (cond c4 true c5)) && (cond c18 c20 true)) && (cond c23 (c24.1 && (c26.1 && (c28.1 && (((((((((((((((((cond c33 c33 true) && (cond c32 true c33)) && (cond c40 c40 true)) && (cond c39 true c40)) && c49) && c49) && (cond c48 (c48 && c48) true)) && (cond c47 true c48)) && c66) && c66) && c66) && c71) && c66) && c66) && c71) && (cond c64 true c65)) && (cond c88 (c191.1 && (cond c193 c20 true)) true))))) true)), ((cond c23 (cond c88 (cond c193 c203 c191.2.2.1) false) c203)))
def withylaw09_ViewTells_e : Ent := ⟨14, [], [(.pure (.row (.prod (.fl (.int .i64)) (.fl (.row (.prod (.int .i64) (.prod (.int .i64) (.prod (.int .i64) (.prod (.int .i64) .bool)))))))) (Ty.dflt _))], [], [(.pure .bool (Ty.dflt _))], []⟩
noncomputable def withylaw09_ViewTells : Fun := ⟨withylaw09_ViewTells_e, fun x => let r := withylaw09_ViewTells_r x.1; (r.1, (r.2, ()))⟩
theorem withylaw09_ViewTells_ev : evFun Try.prog [withylaw09_light, withyref09_May, withylaw09_awake, view_Inner, view_Outer, view_Bound, withyref09_Edge] [⟨[9], [], ⟨[], [], 0⟩, [], [], [(1, [2]), (2, [])], []⟩, ⟨[11, 10], [], ⟨[], [], 0⟩, [], [], [(1, []), (4, [10])], []⟩] Try.f14 (codeOf Try.f14) withylaw09_ViewTells_e = withylaw09_ViewTells.fn := by kernel_rfl
theorem withylaw09_ViewTells_ok : FunOk Try.prog withylaw09_ViewTells := fun_ok (opers_ok (oks_cons withylaw09_light_ok (oks_cons withyref09_May_ok (oks_cons withylaw09_awake_ok (oks_cons view_Inner_ok (oks_cons view_Outer_ok (oks_cons view_Bound_ok (oks_cons withyref09_Edge_ok oks_nil)))))))) Try.call14 Try.func14 (by kernel_rfl) fun x _ => (congrFun withylaw09_ViewTells_ev x).symm

end Go.Proofs.Ytjeeofakogoboaa.T
