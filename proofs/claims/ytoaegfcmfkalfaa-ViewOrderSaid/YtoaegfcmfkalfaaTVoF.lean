/- What functions come to. -/
import Derived.Test.YtoaegfcmfkalfaaTr4
import Derived.KernelRfl
import Derived.Lib.AppendZerosOnto
import Derived.Lib.Walk
import Derived.Lib.SliceRun
import Derived.WalkKit
import Derived.Test.YtoaegfcmfkalfaaRows
namespace Go.Proofs.Ytoaegfcmfkalfaa.T
open Go.Vm Go.Tm
set_option linter.unusedVariables false
noncomputable def withylaw09_light_r (a1:((List Int) × (List (Int × (Int × (Int × (Int × Bool))))))):Bool × (Bool):=
 let c5:=(decide ((a1.1.length:Int)≤(70:Int)))
 let c7:=(cond c5 c5 true)
 ((((c7 && c7) && c7) && c7),((cond c5 (decide ((a1.2.length:Int)≤(200:Int))) false)))
def withylaw09_light_e:Ent:=⟨6,[],[(.pure (.row (.prod (.fl (.int .i64)) (.fl (.row (.prod (.int .i64) (.prod (.int .i64) (.prod (.int .i64) (.prod (.int .i64) .bool)))))))) (Ty.dflt _))],[],[(.pure .bool (Ty.dflt _))],[]⟩
noncomputable def withylaw09_light:Fun:=⟨withylaw09_light_e,fun x=>let r:=withylaw09_light_r x.1; (r.1,(r.2,()))⟩
theorem withylaw09_light_ev:evFun Try.prog [] [] Try.f6 (codeOf Try.f6) withylaw09_light_e=(withylaw09_light).fn:=by kernel_rfl
theorem withylaw09_light_ok:FunOk Try.prog (withylaw09_light):=fun_ok (opers_ok oks_nil) Try.call6 Try.func6 (by kernel_rfl) fun x _=>(congrFun (withylaw09_light_ev) x).symm
noncomputable def edge_Node_r (a1:Int):Bool × (Bool):=
 let c2:=(decide (a1≥(1:Int)))
 let c4:=(cond c2 c2 true)
 ((c4 && c4),((cond c2 (decide (a1≤(64:Int))) false)))
def edge_Node_e:Ent:=⟨31,[],[(.pure (.int .i64) (Ty.dflt _))],[],[(.pure .bool (Ty.dflt _))],[]⟩
noncomputable def edge_Node:Fun:=⟨edge_Node_e,fun x=>let r:=edge_Node_r x.1; (r.1,(r.2,()))⟩
theorem edge_Node_ev:evFun Try.prog [] [] Try.f31 (codeOf Try.f31) edge_Node_e=(edge_Node).fn:=by kernel_rfl
theorem edge_Node_ok:FunOk Try.prog (edge_Node):=fun_ok (opers_ok oks_nil) Try.call31 Try.func31 (by kernel_rfl) fun x _=>(congrFun (edge_Node_ev) x).symm
noncomputable def slices_Index_int_l0 (a1:(List Int)) (a2:Int) (s0:HL [.int .i64]):Bool × Bool × HL [.int .i64] × HL [.bool,.int .i64,.bool]:=
 let c4:=(decide (s0.1<(a1.length:Int)))
 let c6:=(Int.toNat s0.1)
 let c7:=(decide (c6<a1.length))
 let c14:=(a2==((a1[c6]?).getD (0:Int)))
 ((cond c4 (((decide ((0:Int)≤s0.1)) && c7) && c7) true),(c4 && (!c14)),((IntKind.i64.wrap (s0.1+(1:Int))),()),((c4 && c14),s0.1,(!c4),()))
noncomputable def slices_Index_int_r (a1:(List Int)) (a2:Int):Bool × (Int):=
 let c22:=(loopD 0 [.int .i64] [.bool,.int .i64,.bool] (slices_Index_int_l0 a1 a2) ((0:Int),()))
 (c22.1,((cond c22.2.2.2.1 (-1:Int) c22.2.2.1)))
def slices_Index_int_e:Ent:=⟨62,[],[(.pure (.fl (.int .i64)) (Ty.dflt _)),(.pure (.int .i64) (Ty.dflt _))],[],[(.pure (.int .i64) (Ty.dflt _))],[]⟩
noncomputable def slices_Index_int:Fun:=⟨slices_Index_int_e,fun x=>let r:=slices_Index_int_r x.1 x.2.1; (r.1,(r.2,()))⟩
theorem slices_Index_int_ev:evFun Try.prog [] [⟨[8],[],⟨[],[],0⟩,[],[],[(1,[4]),(2,[])],[]⟩,⟨[],[],⟨[],[],0⟩,[],[],[],[(1000003,([8],[]))]⟩] Try.f62 (codeOf Try.f62) slices_Index_int_e=(slices_Index_int).fn:=by kernel_rfl
theorem slices_Index_int_ok:FunOk Try.prog (slices_Index_int):=fun_ok (opers_ok oks_nil) Try.call62 Try.func62 (by kernel_rfl) fun x _=>(congrFun (slices_Index_int_ev) x).symm
noncomputable def slices_Contains_int_r (a1:(List Int)) (a2:Int):Bool × (Bool):=
 let c2:=(slices_Index_int_r a1 a2)
 (c2.1,((decide (c2.2≥(0:Int)))))
def slices_Contains_int_e:Ent:=⟨32,[],[(.pure (.fl (.int .i64)) (Ty.dflt _)),(.pure (.int .i64) (Ty.dflt _))],[],[(.pure .bool (Ty.dflt _))],[]⟩
noncomputable def slices_Contains_int:Fun:=⟨slices_Contains_int_e,fun x=>let r:=slices_Contains_int_r x.1 x.2.1; (r.1,(r.2,()))⟩
theorem slices_Contains_int_ev:evFun Try.prog [slices_Index_int] [] Try.f32 (codeOf Try.f32) slices_Contains_int_e=(slices_Contains_int).fn:=by kernel_rfl
theorem slices_Contains_int_ok:FunOk Try.prog (slices_Contains_int):=fun_ok (opers_ok (oks_cons slices_Index_int_ok oks_nil)) Try.call32 Try.func32 (by kernel_rfl) fun x _=>(congrFun (slices_Contains_int_ev) x).symm
noncomputable def cmp_isNaN_int_r (a1:Int):Bool × (Bool):=
 (true,((a1 !=a1)))
def cmp_isNaN_int_e:Ent:=⟨94,[],[(.pure (.int .i64) (Ty.dflt _))],[],[(.pure .bool (Ty.dflt _))],[]⟩
noncomputable def cmp_isNaN_int:Fun:=⟨cmp_isNaN_int_e,fun x=>let r:=cmp_isNaN_int_r x.1; (r.1,(r.2,()))⟩
theorem cmp_isNaN_int_ev:evFun Try.prog [] [] Try.f94 (codeOf Try.f94) cmp_isNaN_int_e=(cmp_isNaN_int).fn:=by kernel_rfl
theorem cmp_isNaN_int_ok:FunOk Try.prog (cmp_isNaN_int):=fun_ok (opers_ok oks_nil) Try.call94 Try.func94 (by kernel_rfl) fun x _=>(congrFun (cmp_isNaN_int_ev) x).symm
noncomputable def cmp_Compare_int_r (a1:Int) (a2:Int):Bool × (Int):=
 let c1:=(cmp_isNaN_int_r a1)
 let c4:=(cmp_isNaN_int_r a2)
 let c10:=(!c4.2)
 ((c1.1 && c4.1),((cond (!c1.2) (cond c10 (cond (!(decide (a1<a2))) (cond (!(decide (a1>a2))) (0:Int) (1:Int)) (-1:Int)) (1:Int)) (cond c10 (-1:Int) (0:Int)))))
def cmp_Compare_int_e:Ent:=⟨61,[],[(.pure (.int .i64) (Ty.dflt _)),(.pure (.int .i64) (Ty.dflt _))],[],[(.pure (.int .i64) (Ty.dflt _))],[]⟩
noncomputable def cmp_Compare_int:Fun:=⟨cmp_Compare_int_e,fun x=>let r:=cmp_Compare_int_r x.1 x.2.1; (r.1,(r.2,()))⟩
theorem cmp_Compare_int_ev:evFun Try.prog [cmp_isNaN_int] [] Try.f61 (codeOf Try.f61) cmp_Compare_int_e=(cmp_Compare_int).fn:=by kernel_rfl
theorem cmp_Compare_int_ok:FunOk Try.prog (cmp_Compare_int):=fun_ok (opers_ok (oks_cons cmp_isNaN_int_ok oks_nil)) Try.call61 Try.func61 (by kernel_rfl) fun x _=>(congrFun (cmp_Compare_int_ev) x).symm
noncomputable def cmp_Or_int_l0 (a1:(List Int)) (s0:HL [.int .i64]):Bool × Bool × HL [.int .i64] × HL [.bool,.int .i64,.bool]:=
 let c4:=(decide (s0.1<(a1.length:Int)))
 let c6:=(Int.toNat s0.1)
 let c7:=(decide (c6<a1.length))
 let c12:=((a1[c6]?).getD (0:Int))
 let c14:=(c12 !=(0:Int))
 ((cond c4 (((decide ((0:Int)≤s0.1)) && c7) && c7) true),(c4 && (!c14)),((IntKind.i64.wrap (s0.1+(1:Int))),()),((c4 && c14),c12,(!c4),()))
noncomputable def cmp_Or_int_r (a1:(List Int)):Bool × (Int):=
 let c21:=(loopD 0 [.int .i64] [.bool,.int .i64,.bool] (cmp_Or_int_l0 a1) ((0:Int),()))
 (c21.1,((cond c21.2.2.2.1 (0:Int) c21.2.2.1)))
def cmp_Or_int_e:Ent:=⟨60,[],[(.pure (.fl (.int .i64)) (Ty.dflt _))],[],[(.pure (.int .i64) (Ty.dflt _))],[]⟩
noncomputable def cmp_Or_int:Fun:=⟨cmp_Or_int_e,fun x=>let r:=cmp_Or_int_r x.1; (r.1,(r.2,()))⟩
theorem cmp_Or_int_ev:evFun Try.prog [] [⟨[8],[],⟨[],[],0⟩,[],[],[(1,[2]),(2,[])],[]⟩,⟨[],[],⟨[],[],0⟩,[],[],[],[(1000003,([8],[]))]⟩] Try.f60 (codeOf Try.f60) cmp_Or_int_e=(cmp_Or_int).fn:=by kernel_rfl
theorem cmp_Or_int_ok:FunOk Try.prog (cmp_Or_int):=fun_ok (opers_ok oks_nil) Try.call60 Try.func60 (by kernel_rfl) fun x _=>(congrFun (cmp_Or_int_ev) x).symm
noncomputable def view_order_r (a1:(Int × (Int × (Int × (Int × Bool))))) (a2:(Int × (Int × (Int × (Int × Bool))))):Bool × (Int):=
 let c4:=(cmp_Compare_int_r a1.1 a2.1)
 let c10:=(cmp_Compare_int_r a1.2.1 a2.2.1)
 let c18:=(cmp_Or_int_r (c4.2::(c10.2::([]:List Int))))
 (((c4.1 && c10.1) && c18.1),(c18.2))
def view_order_e:Ent:=⟨28,[],[(.pure (.row (.prod (.int .i64) (.prod (.int .i64) (.prod (.int .i64) (.prod (.int .i64) .bool))))) (Ty.dflt _)),(.pure (.row (.prod (.int .i64) (.prod (.int .i64) (.prod (.int .i64) (.prod (.int .i64) .bool))))) (Ty.dflt _))],[],[(.pure (.int .i64) (Ty.dflt _))],[]⟩
noncomputable def view_order:Fun:=⟨view_order_e,fun x=>let r:=view_order_r x.1 x.2.1; (r.1,(r.2,()))⟩
theorem view_order_ev:evFun Try.prog [cmp_Compare_int,cmp_Or_int] [] Try.f28 (codeOf Try.f28) view_order_e=(view_order).fn:=by kernel_rfl
theorem view_order_ok:FunOk Try.prog (view_order):=fun_ok (opers_ok (oks_cons cmp_Compare_int_ok (oks_cons cmp_Or_int_ok oks_nil))) Try.call28 Try.func28 (by kernel_rfl) fun x _=>(congrFun (view_order_ev) x).symm
noncomputable def view_Check_l0 (a1:((List Int) × (List (Int × (Int × (Int × (Int × Bool))))))) (s0:HL [.int .i64]):Bool × Bool × HL [.int .i64] × HL [.bool,.int .i64,.bool]:=
 let c5:=(decide (s0.1<(a1.1.length:Int)))
 let c7:=(Int.toNat s0.1)
 let c8:=(decide (c7<a1.1.length))
 let c11:=((a1.1[c7]?).getD (0:Int))
 let c12:=(edge_Node_r c11)
 let c15:=(!c12.2)
 let c16:=(!c15)
 let c20:=(c16 && c16)
 let c22:=(decide (s0.1>(0:Int)))
 let c23:=(c20 && c22)
 let c24:=(cond c23 c23 true)
 let c28:=(IntKind.i64.wrap (s0.1 - (1:Int)))
 let c30:=(Int.toNat c28)
 let c31:=(decide (c30<a1.1.length))
 let c55:=(cond c15 true (cond c22 (decide (c11≤((a1.1[c30]?).getD (0:Int)))) false))
 ((cond c5 ((((decide ((0:Int)≤s0.1)) && c8) && c8) && ((((((((c12.1 && (cond c16 c16 true)) && c24) && c24) && (cond c23 (c23 && (c23 && ((decide ((0:Int)≤c28)) && c31))) true)) && (cond c23 (c23 && c31) true)) && (cond c23 (c23 && c23) true)) && (cond c16 (c20 && (cond c22 c23 true)) true)) && (cond c15 true c16))) true),(c5 && (!c55)),((IntKind.i64.wrap (s0.1+(1:Int))),()),((c5 && c55),(1:Int),(!c5),()))
noncomputable def view_Check_l1 (a1:((List Int) × (List (Int × (Int × (Int × (Int × Bool))))))) (s1:HL [.int .i64]):Bool × Bool × HL [.int .i64] × HL [.bool,.int .i64,.bool]:=
 let c68:=(decide (s1.1<(a1.2.length:Int)))
 let c70:=(Int.toNat s1.1)
 let c71:=(decide (c70<a1.2.length))
 let c74:=((a1.2[c70]?).getD ((0:Int),((0:Int),((0:Int),((0:Int),false)))))
 let c75:=c74.2
 let c76:=c75.1
 let c77:=(edge_Node_r c76)
 let c80:=(!c77.2)
 let c81:=(!c80)
 let c82:=(cond c81 c81 true)
 let c90:=c74.1
 let c92:=(cond c80 true (c76==c90))
 let c93:=(!c92)
 let c94:=(cond c93 c93 true)
 let c99:=c75.2
 let c100:=c99.1
 let c102:=(cond c92 true (decide (c100<(0:Int))))
 let c103:=(!c102)
 let c104:=(cond c103 c103 true)
 let c111:=(cond c102 true (decide (c100>(2147483647:Int))))
 let c112:=(!c111)
 let c113:=(cond c112 c112 true)
 let c119:=c99.2.1
 let c121:=(cond c111 true (decide (c119<(1:Int))))
 let c122:=(!c121)
 let c123:=(cond c122 c122 true)
 let c129:=(cond c121 true (decide (c119>(2147483647:Int))))
 let c130:=(!c129)
 let c131:=(cond c130 c130 true)
 let c135:=(slices_Contains_int_r a1.1 c90)
 let c145:=(cond c129 true (!c135.2))
 let c146:=(!c145)
 let c149:=(c146 && c146)
 let c150:=(decide (s1.1>(0:Int)))
 let c151:=(c149 && c150)
 let c152:=(cond c151 c151 true)
 let c155:=(IntKind.i64.wrap (s1.1 - (1:Int)))
 let c157:=(Int.toNat c155)
 let c158:=(decide (c157<a1.2.length))
 let c169:=(view_order_r ((a1.2[c157]?).getD ((0:Int),((0:Int),((0:Int),((0:Int),false))))) c74)
 let c186:=(cond c145 true (cond c150 (decide (c169.2≥(0:Int))) false))
 ((cond c68 ((((decide ((0:Int)≤s1.1)) && c71) && c71) && ((((((((((((((((((((((((((((((c77.1 && c82) && c82) && (cond c81 (c81 && c81) true)) && (cond c80 true c81)) && c94) && c94) && (cond c92 true c93)) && c104) && c104) && (cond c102 true c103)) && c113) && c113) && (cond c111 true c112)) && c123) && c123) && (cond c121 true c122)) && c131) && c131) && (cond c130 ((c130 && c130) && c135.1) true)) && c131) && (cond c129 true c130)) && (cond c146 c146 true)) && c152) && c152) && (cond c151 (c151 && (c151 && ((decide ((0:Int)≤c155)) && c158))) true)) && (cond c151 (c151 && c158) true)) && (cond c151 ((c151 && c151) && c169.1) true)) && c152) && (cond c146 (c149 && (cond c150 c151 true)) true)) && (cond c145 true c146))) true),(c68 && (!c186)),((IntKind.i64.wrap (s1.1+(1:Int))),()),((c68 && c186),(1:Int),(!c68),()))
noncomputable def view_Check_r (a1:((List Int) × (List (Int × (Int × (Int × (Int × Bool))))))):Bool × (Int):=
 let c61:=(loopD 0 [.int .i64] [.bool,.int .i64,.bool] (view_Check_l0 a1) ((0:Int),()))
 let c63:=c61.2.2.2.1
 let c192:=(loopD 1 [.int .i64] [.bool,.int .i64,.bool] (view_Check_l1 a1) ((0:Int),()))
 ((c61.1 && (cond c63 c192.1 true)),((cond c63 (cond c192.2.2.2.1 (0:Int) c192.2.2.1) c61.2.2.1)))
def view_Check_e:Ent:=⟨11,[],[(.pure (.row (.prod (.fl (.int .i64)) (.fl (.row (.prod (.int .i64) (.prod (.int .i64) (.prod (.int .i64) (.prod (.int .i64) .bool)))))))) (Ty.dflt _))],[],[(.pure (.int .i64) (Ty.dflt _))],[]⟩
noncomputable def view_Check:Fun:=⟨view_Check_e,fun x=>let r:=view_Check_r x.1; (r.1,(r.2,()))⟩
theorem view_Check_ev:evFun Try.prog [edge_Node,slices_Contains_int,view_order] [⟨[10],[],⟨[],[],0⟩,[],[],[(1,[2]),(2,[])],[]⟩,⟨[36],[],⟨[],[],0⟩,[],[],[(1,[2]),(4,[])],[]⟩,⟨[],[],⟨[],[],0⟩,[],[],[],[(1000003,([10,36],[]))]⟩] Try.f11 (codeOf Try.f11) view_Check_e=(view_Check).fn:=by kernel_rfl
theorem view_Check_ok:FunOk Try.prog (view_Check):=fun_ok (opers_ok (oks_cons edge_Node_ok (oks_cons slices_Contains_int_ok (oks_cons view_order_ok oks_nil)))) Try.call11 Try.func11 (by kernel_rfl) fun x _=>(congrFun (view_Check_ev) x).symm
noncomputable def slices_BinarySearchFunc_api_Known_l0 (a1:(List (Int × (Int × (Int × (Int × Bool)))))) (a2:(Int × (Int × (Int × (Int × Bool))))) (a3:Unit) (s0:HL [.int .i64,.int .i64]):Bool × Bool × HL [.int .i64,.int .i64] × HL [.bool,.int .i64]:=
 let c2:=(decide (s0.2.1<s0.1))
 let c8:=(IntKind.i64.wrap ((iShr .u64 .u64 (IntKind.u64.wrap ((IntKind.i64.wrap (s0.2.1+s0.1)))) (1:Int))))
 let c10:=(Int.toNat c8)
 let c13:=(decide (c10<a1.length))
 let c18:=(view_order_r ((a1[c10]?).getD ((0:Int),((0:Int),((0:Int),((0:Int),false))))) a2)
 let c26:=(decide (c18.2<(0:Int)))
 ((cond c2 ((decide ((0:Int)≤(1:Int))) && ((((decide ((0:Int)≤c8)) && c13) && c13) && c18.1)) true),c2,((cond c26 s0.1 c8),(cond c26 (IntKind.i64.wrap (c8+(1:Int))) s0.2.1),()),((!c2),s0.2.1,()))
noncomputable def slices_BinarySearchFunc_api_Known_r (a1:(List (Int × (Int × (Int × (Int × Bool)))))) (a2:(Int × (Int × (Int × (Int × Bool))))) (a3:Unit):Bool × (Int × Bool):=
 let c32:=(loopD 0 [.int .i64,.int .i64] [.bool,.int .i64] (slices_BinarySearchFunc_api_Known_l0 a1 a2 a3) ((a1.length:Int),(0:Int),()))
 let c34:=c32.2.2.1
 let c35:=(decide (c34<(a1.length:Int)))
 let c37:=(Int.toNat c34)
 let c38:=(decide (c37<a1.length))
 let c48:=(view_order_r ((a1[c37]?).getD ((0:Int),((0:Int),((0:Int),((0:Int),false))))) a2)
 let c54:=(cond c35 c35 true)
 ((c32.1 && (((((cond c35 (c35 && (c35 && ((decide ((0:Int)≤c34)) && c38))) true) && (cond c35 (c35 && c38) true)) && (cond c35 (c35 && ((c35 && c35) && c48.1)) true)) && c54) && c54)),(c34,(cond c35 (c48.2==(0:Int)) false)))
def slices_BinarySearchFunc_api_Known_e:Ent:=⟨30,[],[(.pure (.fl (.row (.prod (.int .i64) (.prod (.int .i64) (.prod (.int .i64) (.prod (.int .i64) .bool)))))) (Ty.dflt _)),(.pure (.row (.prod (.int .i64) (.prod (.int .i64) (.prod (.int .i64) (.prod (.int .i64) .bool))))) (Ty.dflt _)),(.fn 28 (.pure .unit (Ty.dflt _)))],[],[(.pure (.int .i64) (Ty.dflt _)),(.pure .bool (Ty.dflt _))],[]⟩
noncomputable def slices_BinarySearchFunc_api_Known:Fun:=⟨slices_BinarySearchFunc_api_Known_e,fun x=>let r:=slices_BinarySearchFunc_api_Known_r x.1 x.2.1 x.2.2.1; (r.1,(r.2.1,r.2.2,()))⟩
theorem slices_BinarySearchFunc_api_Known_ev:evFun Try.prog [view_order] [⟨[10,9],[],⟨[],[],0⟩,[],[],[(1,[]),(2,[9])],[]⟩] Try.f30 (codeOf Try.f30) slices_BinarySearchFunc_api_Known_e=(slices_BinarySearchFunc_api_Known).fn:=by kernel_rfl
theorem slices_BinarySearchFunc_api_Known_ok:FunOk Try.prog (slices_BinarySearchFunc_api_Known):=fun_ok (opers_ok (oks_cons view_order_ok oks_nil)) Try.call30 Try.func30 (by kernel_rfl) fun x _=>(congrFun (slices_BinarySearchFunc_api_Known_ev) x).symm
noncomputable def view_Inner_l0 (a1:((List Int) × (List (Int × (Int × (Int × (Int × Bool))))))) (s0:HL [.int .i64,(.fl (.row (.prod (.int .i64) (.prod (.int .i64) (.prod (.int .i64) (.prod (.int .i64) .bool))))))]):Bool × Bool × HL [.int .i64,(.fl (.row (.prod (.int .i64) (.prod (.int .i64) (.prod (.int .i64) (.prod (.int .i64) .bool))))))] × HL [.bool,(.fl (.row (.prod (.int .i64) (.prod (.int .i64) (.prod (.int .i64) (.prod (.int .i64) .bool))))))]:=
 let c11:=(decide (s0.1<(a1.2.length:Int)))
 let c13:=(Int.toNat s0.1)
 let c14:=(decide (c13<a1.2.length))
 let c17:=((a1.2[c13]?).getD ((0:Int),((0:Int),((0:Int),((0:Int),false)))))
 let c18:=c17.2
 let c19:=c18.1
 let c20:=c17.1
 let c27:=(slices_BinarySearchFunc_api_Known_r a1.2 (c19,(c20,((0:Int),((0:Int),false)))) ())
 let c29:=(decide (c20>c19))
 let c30:=(!c29)
 let c37:=(cond c29 true (!c27.2.2))
 let c38:=(!c37)
 let c39:=(cond c38 c38 true)
 let c41:=c27.2.1
 let c43:=(Int.toNat c41)
 let c44:=(decide (c43<a1.2.length))
 let c45:=((decide ((0:Int)≤c41)) && c44)
 let c62:=((a1.2[c43]?).getD ((0:Int),((0:Int),((0:Int),((0:Int),false))))).2.2
 let c64:=c18.2
 let c65:=c64.1
 let c67:=(cond c37 true (c62.1 !=c65))
 let c68:=(!c67)
 let c69:=(cond c68 c68 true)
 let c85:=c62.2
 let c87:=c64.2
 let c88:=c87.1
 let c91:=(!(cond c67 true (c85.1 !=c88)))
 let c92:=c87.2
 let c93:=(cond c92 c92 true)
 let c112:=((c20,(c19,(c65,(c88,(cond c92 c85.2 false)))))::([]:List (Int × (Int × (Int × (Int × Bool))))))
 ((cond c11 ((((decide ((0:Int)≤s0.1)) && c14) && c14) && (c27.1 && (((((((((((((((((cond c30 c30 true) && (cond c29 true c30)) && c39) && (cond c38 (c38 && (c38 && c45)) true)) && c39) && (cond c38 (c38 && c44) true)) && c39) && (cond c38 (c38 && c38) true)) && (cond c37 true c38)) && c69) && (cond c68 (c68 && (c68 && c45)) true)) && c69) && (cond c68 (c68 && c44) true)) && c69) && (cond c68 (c68 && c68) true)) && (cond c67 true c68)) && (cond c91 (((((c93 && (cond c92 (c92 && (c92 && c45)) true)) && c93) && (cond c92 (c92 && c44) true)) && c93) && (decide ((s0.2.1.length+c112.length)*40≤140737488355328))) true)))) true),c11,((IntKind.i64.wrap (s0.1+(1:Int))),(cond c91 (s0.2.1++c112) s0.2.1),()),((!c11),s0.2.1,()))
noncomputable def view_Inner_r (a1:((List Int) × (List (Int × (Int × (Int × (Int × Bool))))))):Bool × (Int × (List (Int × (Int × (Int × (Int × Bool)))))):=
 let c1:=(view_Check_r a1)
 let c3:=c1.2
 let c6:=(!(c3 !=(0:Int)))
 let c127:=(loopD 0 [.int .i64,(.fl (.row (.prod (.int .i64) (.prod (.int .i64) (.prod (.int .i64) (.prod (.int .i64) .bool))))))] [.bool,(.fl (.row (.prod (.int .i64) (.prod (.int .i64) (.prod (.int .i64) (.prod (.int .i64) .bool))))))] (view_Inner_l0 a1) ((0:Int),([]:List (Int × (Int × (Int × (Int × Bool))))),()))
 ((c1.1 && (cond c6 c127.1 true)),((cond c6 (0:Int) c3),(cond c6 c127.2.2.1 ([]:List (Int × (Int × (Int × (Int × Bool))))))))
def view_Inner_e:Ent:=⟨10,[],[(.pure (.row (.prod (.fl (.int .i64)) (.fl (.row (.prod (.int .i64) (.prod (.int .i64) (.prod (.int .i64) (.prod (.int .i64) .bool)))))))) (Ty.dflt _))],[(0,(.arr (.row (.prod (.int .i64) (.prod (.int .i64) (.prod (.int .i64) (.prod (.int .i64) .bool))))) [] false))],[(.own 0 5),(.pure (.int .i64) (Ty.dflt _))],[]⟩
noncomputable def view_Inner:Fun:=⟨view_Inner_e,fun x=>let r:=view_Inner_r x.1; (r.1,(r.2.1,r.2.2,()))⟩
theorem view_Inner_ev:evFun Try.prog [view_Check,slices_BinarySearchFunc_api_Known] [⟨[18,5],[],⟨[(5,(.own 5058 5))],[(5058,⟨.tt,(.arr (.row (.prod (.int .i64) (.prod (.int .i64) (.prod (.int .i64) (.prod (.int .i64) .bool))))) [] false)⟩)],0⟩,[5],[],[(1,[]),(2,[5])],[]⟩,⟨[],[],⟨[],[],0⟩,[],[],[],[(1000003,([5,18],[]))]⟩] Try.f10 (codeOf Try.f10) view_Inner_e=(view_Inner).fn:=by kernel_rfl
theorem view_Inner_ok:FunOk Try.prog (view_Inner):=fun_ok (opers_ok (oks_cons view_Check_ok (oks_cons slices_BinarySearchFunc_api_Known_ok oks_nil))) Try.call10 Try.func10 (by kernel_rfl) fun x _=>(congrFun (view_Inner_ev) x).symm
def slices_Clone_api_Known_r (a1:List (Int × (Int × (Int × (Int × Bool))))):Bool × (List (Int × (Int × (Int × (Int × Bool))))):=(decide (a1.length*40≤140737488355328),a1)
noncomputable def slices_Clone_api_Known:Fun:=cloneF 53 (.row (.prod (.int .i64) (.prod (.int .i64) (.prod (.int .i64) (.prod (.int .i64) .bool))))) 40
theorem slices_Clone_api_Known_ok:FunOk Try.prog slices_Clone_api_Known:=clone_ok (fn:=Try.f53) (c:=codeOf Try.f53) (opers_ok oks_nil) Try.call53 Try.func53 (by kernel_rfl) (by kernel_rfl) (by kernel_rfl) (fun _ _=>by kernel_rfl)
noncomputable def view_Outer_1_r (a1:(Int × (Int × (Int × (Int × Bool))))) (a2:((List Int) × (List (Int × (Int × (Int × (Int × Bool))))))):Bool × (Bool):=
 let c5:=(slices_Contains_int_r a2.1 a1.2.1)
 (c5.1,(c5.2))
def view_Outer_1_e:Ent:=⟨54,[(0,(.var 25 (.pure (.row (.prod (.fl (.int .i64)) (.fl (.row (.prod (.int .i64) (.prod (.int .i64) (.prod (.int .i64) (.prod (.int .i64) .bool)))))))) (Ty.dflt _))))],[(.pure (.row (.prod (.int .i64) (.prod (.int .i64) (.prod (.int .i64) (.prod (.int .i64) .bool))))) (Ty.dflt _)),(.ptr 0 [])],[],[(.pure .bool (Ty.dflt _))],[0]⟩
noncomputable def view_Outer_1:Fun:=⟨view_Outer_1_e,fun x=>let r:=view_Outer_1_r x.1 x.2.1; (r.1,(r.2,()))⟩
theorem view_Outer_1_ev:evFun Try.prog [slices_Contains_int] [] Try.f54 (codeOf Try.f54) view_Outer_1_e=(view_Outer_1).fn:=by kernel_rfl
theorem view_Outer_1_ok:FunOk Try.prog (view_Outer_1):=fun_ok (opers_ok (oks_cons slices_Contains_int_ok oks_nil)) Try.call54 Try.func54 (by kernel_rfl) fun x _=>(congrFun (view_Outer_1_ev) x).symm
noncomputable def slices_IndexFunc_api_Known_l0 (a1:Unit) (a2:(List (Int × (Int × (Int × (Int × Bool)))))) (a3:((List Int) × (List (Int × (Int × (Int × (Int × Bool))))))) (s0:HL [.int .i64]):Bool × Bool × HL [.int .i64] × HL [.bool,.int .i64,.bool]:=
 let c4:=(decide (s0.1<(a2.length:Int)))
 let c6:=(Int.toNat s0.1)
 let c7:=(decide (c6<a2.length))
 let c12:=(view_Outer_1_r ((a2[c6]?).getD ((0:Int),((0:Int),((0:Int),((0:Int),false))))) a3)
 let c17:=c12.2
 ((cond c4 ((((decide ((0:Int)≤s0.1)) && c7) && c7) && c12.1) true),(c4 && (!c17)),((IntKind.i64.wrap (s0.1+(1:Int))),()),((c4 && c17),s0.1,(!c4),()))
noncomputable def slices_IndexFunc_api_Known_r (a1:Unit) (a2:(List (Int × (Int × (Int × (Int × Bool)))))) (a3:((List Int) × (List (Int × (Int × (Int × (Int × Bool))))))):Bool × (Int):=
 let c25:=(loopD 0 [.int .i64] [.bool,.int .i64,.bool] (slices_IndexFunc_api_Known_l0 a1 a2 a3) ((0:Int),()))
 (c25.1,((cond c25.2.2.2.1 (-1:Int) c25.2.2.1)))
def slices_IndexFunc_api_Known_e:Ent:=⟨74,[(0,(.arr (.row (.prod (.int .i64) (.prod (.int .i64) (.prod (.int .i64) (.prod (.int .i64) .bool))))) [] false)),(1,(.var 25 (.pure (.row (.prod (.fl (.int .i64)) (.fl (.row (.prod (.int .i64) (.prod (.int .i64) (.prod (.int .i64) (.prod (.int .i64) .bool)))))))) (Ty.dflt _))))],[(.own 0 5),(.fn 54 (.pair (.ptr 1 []) (.pure .unit (Ty.dflt _))))],[],[(.pure (.int .i64) (Ty.dflt _))],[0,1]⟩
noncomputable def slices_IndexFunc_api_Known:Fun:=⟨slices_IndexFunc_api_Known_e,fun x=>let r:=slices_IndexFunc_api_Known_r x.1 x.2.1 x.2.2.1; (r.1,(r.2,()))⟩
theorem slices_IndexFunc_api_Known_ev:evFun Try.prog [view_Outer_1] [⟨[8],[],⟨[],[],0⟩,[],[],[(1,[4]),(2,[])],[]⟩,⟨[],[],⟨[],[],0⟩,[],[],[],[(1000003,([8],[]))]⟩] Try.f74 (codeOf Try.f74) slices_IndexFunc_api_Known_e=(slices_IndexFunc_api_Known).fn:=by kernel_rfl
theorem slices_IndexFunc_api_Known_ok:FunOk Try.prog (slices_IndexFunc_api_Known):=fun_ok (opers_ok (oks_cons view_Outer_1_ok oks_nil)) Try.call74 Try.func74 (by kernel_rfl) fun x _=>(congrFun (slices_IndexFunc_api_Known_ev) x).symm
noncomputable def slices_DeleteFunc_api_Known_l0 (a1:Unit) (a2:(List (Int × (Int × (Int × (Int × Bool)))))) (a3:((List Int) × (List (Int × (Int × (Int × (Int × Bool))))))) (s0:HL [.int .i64,.int .i64,(.fl (.row (.prod (.int .i64) (.prod (.int .i64) (.prod (.int .i64) (.prod (.int .i64) .bool))))))]):Bool × Bool × HL [.int .i64,.int .i64,(.fl (.row (.prod (.int .i64) (.prod (.int .i64) (.prod (.int .i64) (.prod (.int .i64) .bool))))))] × HL [.bool,.int .i64,(.fl (.row (.prod (.int .i64) (.prod (.int .i64) (.prod (.int .i64) (.prod (.int .i64) .bool))))))]:=
 let c13:=(decide (s0.1<(s0.2.2.1.length:Int)))
 let c15:=(Int.toNat s0.1)
 let c16:=(decide (c15<s0.2.2.1.length))
 let c19:=((s0.2.2.1[c15]?).getD ((0:Int),((0:Int),((0:Int),((0:Int),false)))))
 let c20:=(view_Outer_1_r c19 a3)
 let c23:=(!c20.2)
 let c26:=(Int.toNat s0.2.1)
 let c27:=(decide (c26<s0.2.2.1.length))
 ((cond c13 ((((decide ((0:Int)≤s0.1)) && c16) && c16) && (c20.1 && (cond c23 (((decide ((0:Int)≤s0.2.1)) && c27) && c27) true))) true),c13,((IntKind.i64.wrap (s0.1+(1:Int))),(cond c23 (IntKind.i64.wrap (s0.2.1+(1:Int))) s0.2.1),(cond c23 (s0.2.2.1.set c26 c19) s0.2.2.1),()),((!c13),s0.2.1,s0.2.2.1,()))
noncomputable def slices_DeleteFunc_api_Known_r (a1:Unit) (a2:(List (Int × (Int × (Int × (Int × Bool)))))) (a3:((List Int) × (List (Int × (Int × (Int × (Int × Bool))))))):Bool × (Nat × Nat × (List (Int × (Int × (Int × (Int × Bool)))))):=
 let c3:=(slices_IndexFunc_api_Known_r a1 a2 a3)
 let c5:=c3.2
 let c8:=(!(c5==(-1:Int)))
 let c43:=(loopD 0 [.int .i64,.int .i64,(.fl (.row (.prod (.int .i64) (.prod (.int .i64) (.prod (.int .i64) (.prod (.int .i64) .bool))))))] [.bool,.int .i64,(.fl (.row (.prod (.int .i64) (.prod (.int .i64) (.prod (.int .i64) (.prod (.int .i64) .bool))))))] (slices_DeleteFunc_api_Known_l0 a1 a2 a3) ((IntKind.i64.wrap (c5+(1:Int))),c5,a2,()))
 let c45:=c43.2.2.1
 let c46:=(decide ((0:Int)≤c45))
 let c47:=(Int.toNat c45)
 let c48:=c43.2.2.2.1
 let c49:=c48.length
 let c60:=(c48.take c47++((List.replicate (c49 - c47) ((0:Int),((0:Int),((0:Int),((0:Int),false)))))++c48.drop (c47+(List.replicate (c49 - c47) ((0:Int),((0:Int),((0:Int),((0:Int),false))))).length)))
 ((c3.1 && (cond c8 (c43.1 && ((c46 && (decide (c47≤c49))) && (c46 && (decide (c47≤c60.length))))) true)),((cond c8 0 0),(cond c8 c47 a2.length),(cond c8 c60 a2)))
def slices_DeleteFunc_api_Known_e:Ent:=⟨52,[(0,(.arr (.row (.prod (.int .i64) (.prod (.int .i64) (.prod (.int .i64) (.prod (.int .i64) .bool))))) [] false)),(1,(.var 25 (.pure (.row (.prod (.fl (.int .i64)) (.fl (.row (.prod (.int .i64) (.prod (.int .i64) (.prod (.int .i64) (.prod (.int .i64) .bool)))))))) (Ty.dflt _))))],[(.own 0 5),(.fn 54 (.pair (.ptr 1 []) (.pure .unit (Ty.dflt _))))],[(0,(.arr (.row (.prod (.int .i64) (.prod (.int .i64) (.prod (.int .i64) (.prod (.int .i64) .bool))))) [] false))],[(.sref 0 5 0 0)],[1]⟩
noncomputable def slices_DeleteFunc_api_Known:Fun:=⟨slices_DeleteFunc_api_Known_e,fun x=>let r:=slices_DeleteFunc_api_Known_r x.1 x.2.1 x.2.2.1; (r.1,(r.2.1,r.2.2.1,r.2.2.2,()))⟩
theorem slices_DeleteFunc_api_Known_ev:evFun Try.prog [slices_IndexFunc_api_Known,view_Outer_1] [⟨[6,5],[0],⟨[],[],0⟩,[],[],[(1,[]),(2,[5])],[]⟩,⟨[],[],⟨[],[],0⟩,[],[],[],[(1000003,([5,6],[]))]⟩] Try.f52 (codeOf Try.f52) slices_DeleteFunc_api_Known_e=(slices_DeleteFunc_api_Known).fn:=by kernel_rfl
theorem slices_DeleteFunc_api_Known_ok:FunOk Try.prog (slices_DeleteFunc_api_Known):=fun_ok (opers_ok (oks_cons slices_IndexFunc_api_Known_ok (oks_cons view_Outer_1_ok oks_nil))) Try.call52 Try.func52 (by kernel_rfl) fun x _=>(congrFun (slices_DeleteFunc_api_Known_ev) x).symm
noncomputable def view_Outer_r (a1:((List Int) × (List (Int × (Int × (Int × (Int × Bool))))))):Bool × (Nat × Nat × Int × (List (Int × (Int × (Int × (Int × Bool)))))):=
 let c1:=(view_Check_r a1)
 let c3:=c1.2
 let c6:=(!(c3 !=(0:Int)))
 let c8:=(slices_Clone_api_Known_r a1.2)
 let c12:=(slices_DeleteFunc_api_Known_r () c8.2 a1)
 ((c1.1 && (cond c6 (c8.1 && c12.1) true)),((cond c6 c12.2.1 0),(cond c6 c12.2.2.1 0),(cond c6 (0:Int) c3),(cond c6 c12.2.2.2 ([]:List (Int × (Int × (Int × (Int × Bool))))))))
def view_Outer_e:Ent:=⟨23,[],[(.pure (.row (.prod (.fl (.int .i64)) (.fl (.row (.prod (.int .i64) (.prod (.int .i64) (.prod (.int .i64) (.prod (.int .i64) .bool)))))))) (Ty.dflt _))],[(0,(.arr (.row (.prod (.int .i64) (.prod (.int .i64) (.prod (.int .i64) (.prod (.int .i64) .bool))))) [] false))],[(.sref 0 5 0 0),(.pure (.int .i64) (Ty.dflt _))],[]⟩
noncomputable def view_Outer:Fun:=⟨view_Outer_e,fun x=>let r:=view_Outer_r x.1; (r.1,(r.2.1,r.2.2.1,r.2.2.2.1,r.2.2.2.2,()))⟩
theorem view_Outer_ev:evFun Try.prog [view_Check,slices_Clone_api_Known,slices_DeleteFunc_api_Known] [] Try.f23 (codeOf Try.f23) view_Outer_e=(view_Outer).fn:=by kernel_rfl
theorem view_Outer_ok:FunOk Try.prog (view_Outer):=fun_ok (opers_ok (oks_cons view_Check_ok (oks_cons slices_Clone_api_Known_ok (oks_cons slices_DeleteFunc_api_Known_ok oks_nil)))) Try.call23 Try.func23 (by kernel_rfl) fun x _=>(congrFun (view_Outer_ev) x).symm
noncomputable def withylaw09_awake_r:Bool × (Bool):=
 let c9:=((0:Int),((5:Int),false))
 let c23:=(((1:Int)::((2:Int)::([]:List Int))),(((1:Int),((2:Int),c9))::(((2:Int),((1:Int),c9))::(((2:Int),((3:Int),((0:Int),((1:Int),false))))::([]:List (Int × (Int × (Int × (Int × Bool)))))))))
 let c24:=(view_Inner_r c23)
 let c26:=(view_Outer_r c23)
 let c29:=(c24.2.1==(0:Int))
 let c31:=(cond c29 c29 true)
 let c38:=(cond c29 ((c24.2.2.length:Int)==(1:Int)) false)
 let c39:=(cond c38 c38 true)
 let c44:=(cond c38 (c26.2.2.2.1==(0:Int)) false)
 let c45:=(cond c44 c44 true)
 let c49:=c26.2.2.1
 let c52:=(cond c44 ((c49:Int)==(1:Int)) false)
 let c54:=(Int.toNat (0:Int))
 let c60:=(cond c52 c52 true)
 let c63:=(c54+c26.2.1)
 let c64:=c26.2.2.2.2
 ((c24.1 && (c26.1 && ((((((((((((c31 && c31) && c31) && c39) && c39) && c45) && c45) && c45) && (cond c52 (c52 && ((decide ((0:Int)≤(0:Int))) && (decide (c54<c49)))) true)) && c60) && (cond c52 (c52 && (decide (c63<c64.length))) true)) && c60) && c60))),((cond c52 (((c64[c63]?).getD ((0:Int),((0:Int),((0:Int),((0:Int),false))))).2.1==(3:Int)) false)))
def withylaw09_awake_e:Ent:=⟨7,[],[],[],[(.pure .bool (Ty.dflt _))],[]⟩
noncomputable def withylaw09_awake:Fun:=⟨withylaw09_awake_e,fun x=>let r:=withylaw09_awake_r; (r.1,(r.2,()))⟩
theorem withylaw09_awake_ev:evFun Try.prog [view_Inner,view_Outer] [] Try.f7 (codeOf Try.f7) withylaw09_awake_e=(withylaw09_awake).fn:=by kernel_rfl
theorem withylaw09_awake_ok:FunOk Try.prog (withylaw09_awake):=fun_ok (opers_ok (oks_cons view_Inner_ok (oks_cons view_Outer_ok oks_nil))) Try.call7 Try.func7 (by kernel_rfl) fun x _=>(congrFun (withylaw09_awake_ev) x).symm
open Go.RowKit Go.Lib in
set_option linter.unusedSimpArgs false in
set_option maxHeartbeats 4000000 in
set_option maxRecDepth 100000 in
theorem slices_Grow_int_run (n:Nat) (w:World) (hn:n*8≤140737488355328):Calls Try.prog 55 #[.slice none 0 0,.int .i64 (n:Int)] w fun e w'=>Room 1 w e w':=by
 have h1:¬ ((n:Int)<0):=by omega
 have h3:wrap64 (n:Int)=(n:Int):=by unfold wrap64; omega
 by_cases h0:n=0
 ·subst h0
  go_enter Try.func55,Try.ntmps55
  go_wp2
  all_goals (go_ret; exact .inl ⟨rfl,rfl⟩)
 ·have h4:(n:Int)>0:=by omega
  obtain ⟨i0,z0,hi0,hz0,hc0,hs0,hb0⟩:=kindOk_some (P:=Try.prog) (e:=3) (sz:=1) (k:=8) (by kernel_rfl)
  have hrz:∀ ty,(Builtin.append_ #[22,3] ty #[.slice none 0 0,.int .i64 (n:Int)]).run Try.prog w=_:=fun ty=>
   Lib.run_append_grow_zeros w 22 3 ty 3 i0 _ .i64 .i64 (by kernel_rfl) (by kernel_rfl) hi0 hz0 none 0 0 [] (run_firstCells_none w.drew i0.size 0 0 0) n (by omega) (by omega) (by omega) (by omega) (by rw [hb0]; omega)
    (growslice_fits (by omega) (by rw [hb0]; omega))
  have hGn:=grownCap_ge w (0+n) 0 3
  have hG63:grownCap w (0+n) 0 3≤9223372036854775807:=by
   have:=grownCap_le_maxLen w (0+n) 0 3 (by unfold maxLen; omega)
   unfold maxLen at this
   omega
  have hsz:([].toArray++Builtin.zeroCells z0.cells n++Builtin.zeroCells z0.cells (grownCap w (0+n) 0 3 - (0+n))).size=grownCap w (0+n) 0 3*1:=by
   simp only [Array.size_append,size_zeroCells,hc0,List.size_toArray,List.length_nil,← Nat.add_mul]
   omega
  generalize ([].toArray++Builtin.zeroCells z0.cells n++Builtin.zeroCells z0.cells (grownCap w (0+n) 0 3 - (0+n)))=arr at hrz hsz
  generalize grownCap w (0+n) 0 3=G at hrz hsz hGn hG63
  go_enter Try.func55,Try.ntmps55
  go_wp2_with (at_builtin; refine Lib.wpList_append_run _ rfl _ _ _ _ rfl _ _ rfl rfl _ _ (hrz _) ?_)
  all_goals (go_ret; exact .inr ⟨_,_,_,rfl,rfl,by rw [hsz]; exact Nat.le_refl _⟩)
def slices_Grow_int_r (a1:Int):Bool × (List Int):=((decide ((0:Int)≤a1)) && (decide ((Int.toNat a1)*8≤140737488355328)),[])
noncomputable def slices_Grow_int:Fun:=growF 55 (.int .i64) 8
theorem slices_Grow_int_ok:FunOk Try.prog slices_Grow_int:=grow_ok (f:=55) (t:=.int .i64) (k:=8) (by decide) Try.call55 slices_Grow_int_run
noncomputable def slices_Concat_int_l0 (a1:(List (List Int))) (s0:HL [.int .i64,.int .i64]):Bool × Bool × HL [.int .i64,.int .i64] × HL [.bool,.int .i64]:=
 let c4:=(decide (s0.1<(a1.length:Int)))
 let c6:=(Int.toNat s0.1)
 let c7:=(decide (c6<a1.length))
 let c14:=(IntKind.i64.wrap (s0.2.1+(((a1[c6]?).getD ([]:List Int)).length:Int)))
 ((cond c4 ((((decide ((0:Int)≤s0.1)) && c7) && c7) && (!(decide (c14<(0:Int))))) true),c4,((IntKind.i64.wrap (s0.1+(1:Int))),c14,()),((!c4),s0.2.1,()))
noncomputable def slices_Concat_int_l1 (a1:(List (List Int))) (s1:HL [.int .i64,(.fl (.int .i64))]):Bool × Bool × HL [.int .i64,(.fl (.int .i64))] × HL [.bool,(.fl (.int .i64))]:=
 let c30:=(decide (s1.1<(a1.length:Int)))
 let c32:=(Int.toNat s1.1)
 let c33:=(decide (c32<a1.length))
 let c38:=((a1[c32]?).getD ([]:List Int))
 ((cond c30 ((((decide ((0:Int)≤s1.1)) && c33) && c33) && (decide ((s1.2.1.length+c38.length)*8≤140737488355328))) true),c30,((IntKind.i64.wrap (s1.1+(1:Int))),(s1.2.1++c38),()),((!c30),s1.2.1,()))
noncomputable def slices_Concat_int_r (a1:(List (List Int))):Bool × ((List Int)):=
 let c24:=(loopD 0 [.int .i64,.int .i64] [.bool,.int .i64] (slices_Concat_int_l0 a1) ((0:Int),(0:Int),()))
 let c27:=(slices_Grow_int_r c24.2.2.1)
 let c48:=(loopD 1 [.int .i64,(.fl (.int .i64))] [.bool,(.fl (.int .i64))] (slices_Concat_int_l1 a1) ((0:Int),c27.2,()))
 ((c24.1 && (c27.1 && c48.1)),(c48.2.2.1))
def slices_Concat_int_e:Ent:=⟨24,[],[(.pure (.fl (.fl (.int .i64))) (Ty.dflt _))],[(0,(.arr (.int .i64) [] false))],[(.own 0 1)],[]⟩
noncomputable def slices_Concat_int:Fun:=⟨slices_Concat_int_e,fun x=>let r:=slices_Concat_int_r x.1; (r.1,(r.2,()))⟩
theorem slices_Concat_int_ev:evFun Try.prog [slices_Grow_int] [⟨[11,3],[],⟨[],[],0⟩,[],[],[(1,[]),(2,[3])],[]⟩,⟨[27,6],[],⟨[],[],0⟩,[],[],[(1,[]),(4,[6])],[]⟩] Try.f24 (codeOf Try.f24) slices_Concat_int_e=(slices_Concat_int).fn:=by kernel_rfl
theorem slices_Concat_int_ok:FunOk Try.prog (slices_Concat_int):=fun_ok (opers_ok (oks_cons slices_Grow_int_ok oks_nil)) Try.call24 Try.func24 (by kernel_rfl) fun x _=>(congrFun (slices_Concat_int_ev) x).symm
open Go.RowKit Go.Lib in
set_option linter.unusedSimpArgs false in
set_option maxHeartbeats 4000000 in
set_option maxRecDepth 100000 in
theorem slices_Grow_api_Known_run (n:Nat) (w:World) (hn:n*40≤140737488355328):Calls Try.prog 56 #[.slice none 0 0,.int .i64 (n:Int)] w fun e w'=>Room 5 w e w':=by
 have h1:¬ ((n:Int)<0):=by omega
 have h3:wrap64 (n:Int)=(n:Int):=by unfold wrap64; omega
 by_cases h0:n=0
 ·subst h0
  go_enter Try.func56,Try.ntmps56
  go_wp2
  all_goals (go_ret; exact .inl ⟨rfl,rfl⟩)
 ·have h4:(n:Int)>0:=by omega
  obtain ⟨i0,z0,hi0,hz0,hc0,hs0,hb0⟩:=kindOk_some (P:=Try.prog) (e:=35) (sz:=5) (k:=40) (by kernel_rfl)
  have hrz:∀ ty,(Builtin.append_ #[23,3] ty #[.slice none 0 0,.int .i64 (n:Int)]).run Try.prog w=_:=fun ty=>
   Lib.run_append_grow_zeros w 23 3 ty 35 i0 _ .i64 .i64 (by kernel_rfl) (by kernel_rfl) hi0 hz0 none 0 0 [] (run_firstCells_none w.drew i0.size 0 0 0) n (by omega) (by omega) (by omega) (by omega) (by rw [hb0]; omega)
    (growslice_fits (by omega) (by rw [hb0]; omega))
  have hGn:=grownCap_ge w (0+n) 0 35
  have hG63:grownCap w (0+n) 0 35≤9223372036854775807:=by
   have:=grownCap_le_maxLen w (0+n) 0 35 (by unfold maxLen; omega)
   unfold maxLen at this
   omega
  have hsz:([].toArray++Builtin.zeroCells z0.cells n++Builtin.zeroCells z0.cells (grownCap w (0+n) 0 35 - (0+n))).size=grownCap w (0+n) 0 35*5:=by
   simp only [Array.size_append,size_zeroCells,hc0,List.size_toArray,List.length_nil,← Nat.add_mul]
   omega
  generalize ([].toArray++Builtin.zeroCells z0.cells n++Builtin.zeroCells z0.cells (grownCap w (0+n) 0 35 - (0+n)))=arr at hrz hsz
  generalize grownCap w (0+n) 0 35=G at hrz hsz hGn hG63
  go_enter Try.func56,Try.ntmps56
  go_wp2_with (at_builtin; refine Lib.wpList_append_run _ rfl _ _ _ _ rfl _ _ rfl rfl _ _ (hrz _) ?_)
  all_goals (go_ret; exact .inr ⟨_,_,_,rfl,rfl,by rw [hsz]; exact Nat.le_refl _⟩)
def slices_Grow_api_Known_r (a1:Int):Bool × (List (Int × (Int × (Int × (Int × Bool))))):=((decide ((0:Int)≤a1)) && (decide ((Int.toNat a1)*40≤140737488355328)),[])
noncomputable def slices_Grow_api_Known:Fun:=growF 56 ((.row (.prod (.int .i64) (.prod (.int .i64) (.prod (.int .i64) (.prod (.int .i64) .bool)))))) 40
theorem slices_Grow_api_Known_ok:FunOk Try.prog slices_Grow_api_Known:=grow_ok (f:=56) (t:=(.row (.prod (.int .i64) (.prod (.int .i64) (.prod (.int .i64) (.prod (.int .i64) .bool)))))) (k:=40) (by decide) Try.call56 slices_Grow_api_Known_run
noncomputable def slices_Concat_api_Known_l0 (a1:(List (List (Int × (Int × (Int × (Int × Bool))))))) (s0:HL [.int .i64,.int .i64]):Bool × Bool × HL [.int .i64,.int .i64] × HL [.bool,.int .i64]:=
 let c4:=(decide (s0.1<(a1.length:Int)))
 let c6:=(Int.toNat s0.1)
 let c7:=(decide (c6<a1.length))
 let c14:=(IntKind.i64.wrap (s0.2.1+(((a1[c6]?).getD ([]:List (Int × (Int × (Int × (Int × Bool)))))).length:Int)))
 ((cond c4 ((((decide ((0:Int)≤s0.1)) && c7) && c7) && (!(decide (c14<(0:Int))))) true),c4,((IntKind.i64.wrap (s0.1+(1:Int))),c14,()),((!c4),s0.2.1,()))
noncomputable def slices_Concat_api_Known_l1 (a1:(List (List (Int × (Int × (Int × (Int × Bool))))))) (s1:HL [.int .i64,(.fl (.row (.prod (.int .i64) (.prod (.int .i64) (.prod (.int .i64) (.prod (.int .i64) .bool))))))]):Bool × Bool × HL [.int .i64,(.fl (.row (.prod (.int .i64) (.prod (.int .i64) (.prod (.int .i64) (.prod (.int .i64) .bool))))))] × HL [.bool,(.fl (.row (.prod (.int .i64) (.prod (.int .i64) (.prod (.int .i64) (.prod (.int .i64) .bool))))))]:=
 let c30:=(decide (s1.1<(a1.length:Int)))
 let c32:=(Int.toNat s1.1)
 let c33:=(decide (c32<a1.length))
 let c38:=((a1[c32]?).getD ([]:List (Int × (Int × (Int × (Int × Bool))))))
 ((cond c30 ((((decide ((0:Int)≤s1.1)) && c33) && c33) && (decide ((s1.2.1.length+c38.length)*40≤140737488355328))) true),c30,((IntKind.i64.wrap (s1.1+(1:Int))),(s1.2.1++c38),()),((!c30),s1.2.1,()))
noncomputable def slices_Concat_api_Known_r (a1:(List (List (Int × (Int × (Int × (Int × Bool))))))):Bool × ((List (Int × (Int × (Int × (Int × Bool)))))):=
 let c24:=(loopD 0 [.int .i64,.int .i64] [.bool,.int .i64] (slices_Concat_api_Known_l0 a1) ((0:Int),(0:Int),()))
 let c27:=(slices_Grow_api_Known_r c24.2.2.1)
 let c48:=(loopD 1 [.int .i64,(.fl (.row (.prod (.int .i64) (.prod (.int .i64) (.prod (.int .i64) (.prod (.int .i64) .bool))))))] [.bool,(.fl (.row (.prod (.int .i64) (.prod (.int .i64) (.prod (.int .i64) (.prod (.int .i64) .bool))))))] (slices_Concat_api_Known_l1 a1) ((0:Int),c27.2,()))
 ((c24.1 && (c27.1 && c48.1)),(c48.2.2.1))
def slices_Concat_api_Known_e:Ent:=⟨25,[],[(.pure (.fl (.fl (.row (.prod (.int .i64) (.prod (.int .i64) (.prod (.int .i64) (.prod (.int .i64) .bool))))))) (Ty.dflt _))],[(0,(.arr (.row (.prod (.int .i64) (.prod (.int .i64) (.prod (.int .i64) (.prod (.int .i64) .bool))))) [] false))],[(.own 0 5)],[]⟩
noncomputable def slices_Concat_api_Known:Fun:=⟨slices_Concat_api_Known_e,fun x=>let r:=slices_Concat_api_Known_r x.1; (r.1,(r.2,()))⟩
theorem slices_Concat_api_Known_ev:evFun Try.prog [slices_Grow_api_Known] [⟨[11,3],[],⟨[],[],0⟩,[],[],[(1,[]),(2,[3])],[]⟩,⟨[27,6],[],⟨[],[],0⟩,[],[],[(1,[]),(4,[6])],[]⟩] Try.f25 (codeOf Try.f25) slices_Concat_api_Known_e=(slices_Concat_api_Known).fn:=by kernel_rfl
theorem slices_Concat_api_Known_ok:FunOk Try.prog (slices_Concat_api_Known):=fun_ok (opers_ok (oks_cons slices_Grow_api_Known_ok oks_nil)) Try.call25 Try.func25 (by kernel_rfl) fun x _=>(congrFun (slices_Concat_api_Known_ev) x).symm
noncomputable def bits_Len32_r (a1:Int):Bool × (Int):=
 let c2:=(decide (a1≥(65536:Int)))
 let c8:=(cond c2 (iShr .u32 .u64 a1 (16:Int)) a1)
 let c10:=(decide (c8≥(256:Int)))
 let c16:=(IntKind.u8.wrap ((cond c10 (iShr .u32 .u64 c8 (8:Int)) c8)))
 let c18:=(Int.toNat c16)
 let c26:=(cond c2 (16:Int) (0:Int))
 (((cond c2 (decide ((0:Int)≤(16:Int))) true) && ((cond c10 (decide ((0:Int)≤(8:Int))) true) && ((decide ((0:Int)≤c16)) && (decide (c18<(ByteArray.mk #[0,1,2,2,3,3,3,3,4,4,4,4,4,4,4,4,5,5,5,5,5,5,5,5,5,5,5,5,5,5,5,5,6,6,6,6,6,6,6,6,6,6,6,6,6,6,6,6,6,6,6,6,6,6,6,6,6,6,6,6,6,6,6,6,7,7,7,7,7,7,7,7,7,7,7,7,7,7,7,7,7,7,7,7,7,7,7,7,7,7,7,7,7,7,7,7,7,7,7,7,7,7,7,7,7,7,7,7,7,7,7,7,7,7,7,7,7,7,7,7,7,7,7,7,7,7,7,7,8,8,8,8,8,8,8,8,8,8,8,8,8,8,8,8,8,8,8,8,8,8,8,8,8,8,8,8,8,8,8,8,8,8,8,8,8,8,8,8,8,8,8,8,8,8,8,8,8,8,8,8,8,8,8,8,8,8,8,8,8,8,8,8,8,8,8,8,8,8,8,8,8,8,8,8,8,8,8,8,8,8,8,8,8,8,8,8,8,8,8,8,8,8,8,8,8,8,8,8,8,8,8,8,8,8,8,8,8,8,8,8,8,8,8,8,8,8,8,8,8,8,8,8,8,8,8,8]).size))))),((IntKind.i64.wrap ((cond c10 (IntKind.i64.wrap (c26+(8:Int))) c26)+(IntKind.i64.wrap ((sAt (ByteArray.mk #[0,1,2,2,3,3,3,3,4,4,4,4,4,4,4,4,5,5,5,5,5,5,5,5,5,5,5,5,5,5,5,5,6,6,6,6,6,6,6,6,6,6,6,6,6,6,6,6,6,6,6,6,6,6,6,6,6,6,6,6,6,6,6,6,7,7,7,7,7,7,7,7,7,7,7,7,7,7,7,7,7,7,7,7,7,7,7,7,7,7,7,7,7,7,7,7,7,7,7,7,7,7,7,7,7,7,7,7,7,7,7,7,7,7,7,7,7,7,7,7,7,7,7,7,7,7,7,7,8,8,8,8,8,8,8,8,8,8,8,8,8,8,8,8,8,8,8,8,8,8,8,8,8,8,8,8,8,8,8,8,8,8,8,8,8,8,8,8,8,8,8,8,8,8,8,8,8,8,8,8,8,8,8,8,8,8,8,8,8,8,8,8,8,8,8,8,8,8,8,8,8,8,8,8,8,8,8,8,8,8,8,8,8,8,8,8,8,8,8,8,8,8,8,8,8,8,8,8,8,8,8,8,8,8,8,8,8,8,8,8,8,8,8,8,8,8,8,8,8,8,8,8,8,8,8,8]) c18)))))))
def bits_Len32_e:Ent:=⟨84,[],[(.pure (.int .u32) (Ty.dflt _))],[],[(.pure (.int .i64) (Ty.dflt _))],[]⟩
noncomputable def bits_Len32:Fun:=⟨bits_Len32_e,fun x=>let r:=bits_Len32_r x.1; (r.1,(r.2,()))⟩
theorem bits_Len32_ev:evFun Try.prog [] [] Try.f84 (codeOf Try.f84) bits_Len32_e=(bits_Len32).fn:=by kernel_rfl
theorem bits_Len32_ok:FunOk Try.prog (bits_Len32):=fun_ok (opers_ok oks_nil) Try.call84 Try.func84 (by kernel_rfl) fun x _=>(congrFun (bits_Len32_ev) x).symm
noncomputable def bits_Len64_r (a1:Int):Bool × (Int):=
 let c2:=(decide (a1≥(4294967296:Int)))
 let c8:=(cond c2 (iShr .u64 .u64 a1 (32:Int)) a1)
 let c10:=(decide (c8≥(65536:Int)))
 let c15:=(cond c10 (iShr .u64 .u64 c8 (16:Int)) c8)
 let c17:=(decide (c15≥(256:Int)))
 let c23:=(IntKind.u8.wrap ((cond c17 (iShr .u64 .u64 c15 (8:Int)) c15)))
 let c25:=(Int.toNat c23)
 let c34:=(cond c2 (32:Int) (0:Int))
 let c36:=(cond c10 (IntKind.i64.wrap (c34+(16:Int))) c34)
 (((cond c2 (decide ((0:Int)≤(32:Int))) true) && ((cond c10 (decide ((0:Int)≤(16:Int))) true) && ((cond c17 (decide ((0:Int)≤(8:Int))) true) && ((decide ((0:Int)≤c23)) && (decide (c25<(ByteArray.mk #[0,1,2,2,3,3,3,3,4,4,4,4,4,4,4,4,5,5,5,5,5,5,5,5,5,5,5,5,5,5,5,5,6,6,6,6,6,6,6,6,6,6,6,6,6,6,6,6,6,6,6,6,6,6,6,6,6,6,6,6,6,6,6,6,7,7,7,7,7,7,7,7,7,7,7,7,7,7,7,7,7,7,7,7,7,7,7,7,7,7,7,7,7,7,7,7,7,7,7,7,7,7,7,7,7,7,7,7,7,7,7,7,7,7,7,7,7,7,7,7,7,7,7,7,7,7,7,7,8,8,8,8,8,8,8,8,8,8,8,8,8,8,8,8,8,8,8,8,8,8,8,8,8,8,8,8,8,8,8,8,8,8,8,8,8,8,8,8,8,8,8,8,8,8,8,8,8,8,8,8,8,8,8,8,8,8,8,8,8,8,8,8,8,8,8,8,8,8,8,8,8,8,8,8,8,8,8,8,8,8,8,8,8,8,8,8,8,8,8,8,8,8,8,8,8,8,8,8,8,8,8,8,8,8,8,8,8,8,8,8,8,8,8,8,8,8,8,8,8,8,8,8,8,8,8,8]).size)))))),((IntKind.i64.wrap ((cond c17 (IntKind.i64.wrap (c36+(8:Int))) c36)+(IntKind.i64.wrap ((sAt (ByteArray.mk #[0,1,2,2,3,3,3,3,4,4,4,4,4,4,4,4,5,5,5,5,5,5,5,5,5,5,5,5,5,5,5,5,6,6,6,6,6,6,6,6,6,6,6,6,6,6,6,6,6,6,6,6,6,6,6,6,6,6,6,6,6,6,6,6,7,7,7,7,7,7,7,7,7,7,7,7,7,7,7,7,7,7,7,7,7,7,7,7,7,7,7,7,7,7,7,7,7,7,7,7,7,7,7,7,7,7,7,7,7,7,7,7,7,7,7,7,7,7,7,7,7,7,7,7,7,7,7,7,8,8,8,8,8,8,8,8,8,8,8,8,8,8,8,8,8,8,8,8,8,8,8,8,8,8,8,8,8,8,8,8,8,8,8,8,8,8,8,8,8,8,8,8,8,8,8,8,8,8,8,8,8,8,8,8,8,8,8,8,8,8,8,8,8,8,8,8,8,8,8,8,8,8,8,8,8,8,8,8,8,8,8,8,8,8,8,8,8,8,8,8,8,8,8,8,8,8,8,8,8,8,8,8,8,8,8,8,8,8,8,8,8,8,8,8,8,8,8,8,8,8,8,8,8,8,8,8]) c25)))))))
def bits_Len64_e:Ent:=⟨85,[],[(.pure (.int .u64) (Ty.dflt _))],[],[(.pure (.int .i64) (Ty.dflt _))],[]⟩
noncomputable def bits_Len64:Fun:=⟨bits_Len64_e,fun x=>let r:=bits_Len64_r x.1; (r.1,(r.2,()))⟩
theorem bits_Len64_ev:evFun Try.prog [] [] Try.f85 (codeOf Try.f85) bits_Len64_e=(bits_Len64).fn:=by kernel_rfl
theorem bits_Len64_ok:FunOk Try.prog (bits_Len64):=fun_ok (opers_ok oks_nil) Try.call85 Try.func85 (by kernel_rfl) fun x _=>(congrFun (bits_Len64_ev) x).symm
noncomputable def bits_Len_r (a1:Int):Bool × (Int):=
 let c3:=(bits_Len32_r (IntKind.u32.wrap (a1)))
 let c7:=(!false)
 let c8:=(bits_Len64_r a1)
 (((cond false c3.1 true) && (cond c7 c8.1 true)),((cond c7 c8.2 c3.2)))
def bits_Len_e:Ent:=⟨58,[],[(.pure (.int .u64) (Ty.dflt _))],[],[(.pure (.int .i64) (Ty.dflt _))],[]⟩
noncomputable def bits_Len:Fun:=⟨bits_Len_e,fun x=>let r:=bits_Len_r x.1; (r.1,(r.2,()))⟩
theorem bits_Len_ev:evFun Try.prog [bits_Len32,bits_Len64] [] Try.f58 (codeOf Try.f58) bits_Len_e=(bits_Len).fn:=by kernel_rfl
theorem bits_Len_ok:FunOk Try.prog (bits_Len):=fun_ok (opers_ok (oks_cons bits_Len32_ok (oks_cons bits_Len64_ok oks_nil))) Try.call58 Try.func58 (by kernel_rfl) fun x _=>(congrFun (bits_Len_ev) x).symm
def slices_pdqsortOrdered_int_e:Ent:=⟨57,[(0,(.arr (.int .i64) [] false))],[(.own 0 1),(.pure (.int .i64) (Ty.dflt _)),(.pure (.int .i64) (Ty.dflt _)),(.pure (.int .i64) (Ty.dflt _))],[(0,(.arr (.int .i64) [] false))],[],[]⟩
noncomputable def cmp_Less_int_r (a1:Int) (a2:Int):Bool × (Bool):=
 let c1:=(cmp_isNaN_int_r a1)
 let c3:=c1.2
 let c5:=(cmp_isNaN_int_r a2)
 let c11:=(cond c3 c3 true)
 let c17:=(cond c3 (!c5.2) false)
 let c18:=(!c17)
 ((((((c1.1 && (cond c3 (c3 && c5.1) true)) && c11) && c11) && (cond c18 (c18 && c18) true)) && (cond c17 true c18)),((cond c17 true (decide (a1<a2)))))
def cmp_Less_int_e:Ent:=⟨81,[],[(.pure (.int .i64) (Ty.dflt _)),(.pure (.int .i64) (Ty.dflt _))],[],[(.pure .bool (Ty.dflt _))],[]⟩
noncomputable def cmp_Less_int:Fun:=⟨cmp_Less_int_e,fun x=>let r:=cmp_Less_int_r x.1 x.2.1; (r.1,(r.2,()))⟩
theorem cmp_Less_int_ev:evFun Try.prog [cmp_isNaN_int] [] Try.f81 (codeOf Try.f81) cmp_Less_int_e=(cmp_Less_int).fn:=by kernel_rfl
theorem cmp_Less_int_ok:FunOk Try.prog (cmp_Less_int):=fun_ok (opers_ok (oks_cons cmp_isNaN_int_ok oks_nil)) Try.call81 Try.func81 (by kernel_rfl) fun x _=>(congrFun (cmp_Less_int_ev) x).symm
noncomputable def slices_insertionSortOrdered_int_l1 (a1:Int) (a2:Int) (a3:(List Int)) (s1:HL [.int .i64,(.fl (.int .i64))]):Bool × Bool × HL [.int .i64,(.fl (.int .i64))] × HL [.bool,(.fl (.int .i64))]:=
 let c5:=(decide (s1.1>a1))
 let c7:=(Int.toNat s1.1)
 let c10:=(decide (c7<s1.2.1.length))
 let c11:=((decide ((0:Int)≤s1.1)) && c10)
 let c19:=(cond c5 c5 true)
 let c22:=(IntKind.i64.wrap (s1.1 - (1:Int)))
 let c23:=(decide ((0:Int)≤c22))
 let c24:=(Int.toNat c22)
 let c25:=(decide (c24<s1.2.1.length))
 let c26:=(c23 && c25)
 let c35:=((s1.2.1[c7]?).getD (0:Int))
 let c36:=((s1.2.1[c24]?).getD (0:Int))
 let c37:=(cmp_Less_int_r c35 c36)
 let c45:=(cond c5 c37.2 false)
 let c51:=(s1.2.1.set c7 c36)
 let c53:=(decide (c24<c51.length))
 (((((((((cond c5 (c5 && (c5 && c11)) true) && (cond c5 (c5 && c10) true)) && c19) && (cond c5 (c5 && (c5 && c26)) true)) && (cond c5 (c5 && c25) true)) && (cond c5 ((c5 && c5) && c37.1) true)) && c19) && (cond c45 (((((((c26 && c25) && c11) && c10) && c11) && c10) && (c23 && c53)) && c53) true)),c45,(c22,(c51.set c24 c35),()),((!c45),s1.2.1,()))
noncomputable def slices_insertionSortOrdered_int_l0 (a1:Int) (a2:Int) (a3:(List Int)) (s0:HL [.int .i64,(.fl (.int .i64))]):Bool × Bool × HL [.int .i64,(.fl (.int .i64))] × HL [.bool,(.fl (.int .i64))]:=
 let c2:=(decide (s0.1<a2))
 let c62:=(loopD 1 [.int .i64,(.fl (.int .i64))] [.bool,(.fl (.int .i64))] (slices_insertionSortOrdered_int_l1 a1 a2 a3) (s0.1,s0.2.1,()))
 ((cond c2 c62.1 true),c2,((IntKind.i64.wrap (s0.1+(1:Int))),c62.2.2.1,()),((!c2),s0.2.1,()))
noncomputable def slices_insertionSortOrdered_int_r (a1:Int) (a2:Int) (a3:(List Int)):Bool × ((List Int)):=
 let c70:=(loopD 0 [.int .i64,(.fl (.int .i64))] [.bool,(.fl (.int .i64))] (slices_insertionSortOrdered_int_l0 a1 a2 a3) ((IntKind.i64.wrap (a1+(1:Int))),a3,()))
 (c70.1,(c70.2.2.1))
def slices_insertionSortOrdered_int_e:Ent:=⟨75,[(0,(.arr (.int .i64) [] false))],[(.own 0 1),(.pure (.int .i64) (Ty.dflt _)),(.pure (.int .i64) (Ty.dflt _))],[(0,(.arr (.int .i64) [] false))],[],[]⟩
noncomputable def slices_insertionSortOrdered_int:Fun:=⟨slices_insertionSortOrdered_int_e,fun x=>let r:=slices_insertionSortOrdered_int_r x.1 x.2.1 x.2.2.1; (r.1,(r.2,()))⟩
theorem slices_insertionSortOrdered_int_ev:evFun Try.prog [cmp_Less_int] [⟨[6],[0],⟨[],[],0⟩,[],[],[(1,[]),(2,[])],[]⟩,⟨[7],[0],⟨[],[],0⟩,[],[],[(1,[]),(4,[])],[]⟩] Try.f75 (codeOf Try.f75) slices_insertionSortOrdered_int_e=(slices_insertionSortOrdered_int).fn:=by kernel_rfl
theorem slices_insertionSortOrdered_int_ok:FunOk Try.prog (slices_insertionSortOrdered_int):=fun_ok (opers_ok (oks_cons cmp_Less_int_ok oks_nil)) Try.call75 Try.func75 (by kernel_rfl) fun x _=>(congrFun (slices_insertionSortOrdered_int_ev) x).symm
noncomputable def slices_siftDownOrdered_int_l0 (a1:Int) (a2:Int) (a3:Int) (a4:(List Int)) (s0:HL [.int .i64,(.fl (.int .i64))]):Bool × Bool × HL [.int .i64,(.fl (.int .i64))] × HL [.bool,(.fl (.int .i64)),.bool,(.fl (.int .i64))]:=
 let c4:=(IntKind.i64.wrap ((IntKind.i64.wrap ((2:Int)*s0.1))+(1:Int)))
 let c6:=(decide (c4≥a2))
 let c7:=(!c6)
 let c8:=(IntKind.i64.wrap (c4+(1:Int)))
 let c9:=(decide (c8<a2))
 let c10:=(c9 && c9)
 let c12:=(cond c9 c10 true)
 let c14:=(IntKind.i64.wrap (a3+c4))
 let c16:=(Int.toNat c14)
 let c19:=(decide (c16<s0.2.1.length))
 let c29:=(cond c9 c9 true)
 let c31:=(IntKind.i64.wrap (c14+(1:Int)))
 let c33:=(Int.toNat c31)
 let c34:=(decide (c33<s0.2.1.length))
 let c45:=(cmp_Less_int_r ((s0.2.1[c16]?).getD (0:Int)) ((s0.2.1[c33]?).getD (0:Int)))
 let c51:=(IntKind.i64.wrap (a3+s0.1))
 let c53:=(Int.toNat c51)
 let c54:=(decide (c53<s0.2.1.length))
 let c55:=((decide ((0:Int)≤c51)) && c54)
 let c60:=(cond (cond c9 c45.2 false) c8 c4)
 let c61:=(IntKind.i64.wrap (a3+c60))
 let c62:=(decide ((0:Int)≤c61))
 let c63:=(Int.toNat c61)
 let c64:=(decide (c63<s0.2.1.length))
 let c65:=(c62 && c64)
 let c68:=((s0.2.1[c53]?).getD (0:Int))
 let c69:=((s0.2.1[c63]?).getD (0:Int))
 let c70:=(cmp_Less_int_r c68 c69)
 let c74:=(!c70.2)
 let c75:=(!c74)
 let c81:=(s0.2.1.set c53 c69)
 let c83:=(decide (c63<c81.length))
 ((cond c7 (((((((((c12 && (cond c9 (c9 && (c9 && ((decide ((0:Int)≤c14)) && c19))) true)) && (cond c9 (c9 && c19) true)) && c12) && c29) && (cond c9 (c9 && (c9 && ((decide ((0:Int)≤c31)) && c34))) true)) && (cond c9 (c9 && c34) true)) && (cond c9 (c10 && c45.1) true)) && c29) && (((((c55 && c54) && c65) && c64) && c70.1) && (cond c75 (((((((c65 && c64) && c55) && c54) && c55) && c54) && (c62 && c83)) && c83) true))) true),(c7 && c75),(c60,(c81.set c63 c68),()),((c7 && c74),s0.2.1,c6,s0.2.1,()))
noncomputable def slices_siftDownOrdered_int_r (a1:Int) (a2:Int) (a3:Int) (a4:(List Int)):Bool × ((List Int)):=
 let c96:=(loopD 0 [.int .i64,(.fl (.int .i64))] [.bool,(.fl (.int .i64)),.bool,(.fl (.int .i64))] (slices_siftDownOrdered_int_l0 a1 a2 a3 a4) (a1,a4,()))
 (c96.1,((cond c96.2.2.2.1 c96.2.2.2.2.1 c96.2.2.1)))
def slices_siftDownOrdered_int_e:Ent:=⟨100,[(0,(.arr (.int .i64) [] false))],[(.own 0 1),(.pure (.int .i64) (Ty.dflt _)),(.pure (.int .i64) (Ty.dflt _)),(.pure (.int .i64) (Ty.dflt _))],[(0,(.arr (.int .i64) [] false))],[],[]⟩
noncomputable def slices_siftDownOrdered_int:Fun:=⟨slices_siftDownOrdered_int_e,fun x=>let r:=slices_siftDownOrdered_int_r x.1 x.2.1 x.2.2.1 x.2.2.2.1; (r.1,(r.2,()))⟩
theorem slices_siftDownOrdered_int_ev:evFun Try.prog [cmp_Less_int] [⟨[8],[0],⟨[],[],0⟩,[],[],[(1,[]),(2,[])],[]⟩] Try.f100 (codeOf Try.f100) slices_siftDownOrdered_int_e=(slices_siftDownOrdered_int).fn:=by kernel_rfl
theorem slices_siftDownOrdered_int_ok:FunOk Try.prog (slices_siftDownOrdered_int):=fun_ok (opers_ok (oks_cons cmp_Less_int_ok oks_nil)) Try.call100 Try.func100 (by kernel_rfl) fun x _=>(congrFun (slices_siftDownOrdered_int_ev) x).symm
noncomputable def slices_heapSortOrdered_int_l0 (a1:Int) (a2:Int) (a3:(List Int)) (s0:HL [.int .i64,(.fl (.int .i64))]):Bool × Bool × HL [.int .i64,(.fl (.int .i64))] × HL [.bool,(.fl (.int .i64))]:=
 let c4:=(decide (s0.1≥(0:Int)))
 let c7:=(IntKind.i64.wrap (a2 - a1))
 let c9:=(slices_siftDownOrdered_int_r s0.1 c7 a1 s0.2.1)
 ((cond c4 c9.1 true),c4,((IntKind.i64.wrap (s0.1 - (1:Int))),c9.2,()),((!c4),s0.2.1,()))
noncomputable def slices_heapSortOrdered_int_l1 (a1:Int) (a2:Int) (a3:(List Int)) (s1:HL [.int .i64,(.fl (.int .i64))]):Bool × Bool × HL [.int .i64,(.fl (.int .i64))] × HL [.bool,(.fl (.int .i64))]:=
 let c24:=(decide (s1.1≥(0:Int)))
 let c25:=(IntKind.i64.wrap (a1+s1.1))
 let c26:=(decide ((0:Int)≤c25))
 let c27:=(Int.toNat c25)
 let c30:=(decide (c27<s1.2.1.length))
 let c34:=(Int.toNat a1)
 let c35:=(decide (c34<s1.2.1.length))
 let c36:=((decide ((0:Int)≤a1)) && c35)
 let c42:=(s1.2.1.set c34 ((s1.2.1[c27]?).getD (0:Int)))
 let c44:=(decide (c27<c42.length))
 let c50:=(slices_siftDownOrdered_int_r (0:Int) s1.1 a1 (c42.set c27 ((s1.2.1[c34]?).getD (0:Int))))
 ((cond c24 (((((((((c26 && c30) && c30) && c36) && c35) && c36) && c35) && (c26 && c44)) && c44) && c50.1) true),c24,((IntKind.i64.wrap (s1.1 - (1:Int))),c50.2,()),((!c24),s1.2.1,()))
noncomputable def slices_heapSortOrdered_int_r (a1:Int) (a2:Int) (a3:(List Int)):Bool × ((List Int)):=
 let c7:=(IntKind.i64.wrap (a2 - a1))
 let c17:=(IntKind.i64.wrap (c7 - (1:Int)))
 let c20:=(loopD 0 [.int .i64,(.fl (.int .i64))] [.bool,(.fl (.int .i64))] (slices_heapSortOrdered_int_l0 a1 a2 a3) ((IntKind.i64.wrap (Int.tdiv c17 (2:Int))),a3,()))
 let c58:=(loopD 1 [.int .i64,(.fl (.int .i64))] [.bool,(.fl (.int .i64))] (slices_heapSortOrdered_int_l1 a1 a2 a3) (c17,c20.2.2.1,()))
 (((((2:Int) !=(0:Int)) && c20.1) && c58.1),(c58.2.2.1))
def slices_heapSortOrdered_int_e:Ent:=⟨76,[(0,(.arr (.int .i64) [] false))],[(.own 0 1),(.pure (.int .i64) (Ty.dflt _)),(.pure (.int .i64) (Ty.dflt _))],[(0,(.arr (.int .i64) [] false))],[],[]⟩
noncomputable def slices_heapSortOrdered_int:Fun:=⟨slices_heapSortOrdered_int_e,fun x=>let r:=slices_heapSortOrdered_int_r x.1 x.2.1 x.2.2.1; (r.1,(r.2,()))⟩
theorem slices_heapSortOrdered_int_ev:evFun Try.prog [slices_siftDownOrdered_int] [⟨[9],[0],⟨[],[],0⟩,[],[],[(1,[]),(2,[])],[]⟩,⟨[10],[0],⟨[],[],0⟩,[],[],[(1,[]),(4,[])],[]⟩] Try.f76 (codeOf Try.f76) slices_heapSortOrdered_int_e=(slices_heapSortOrdered_int).fn:=by kernel_rfl
theorem slices_heapSortOrdered_int_ok:FunOk Try.prog (slices_heapSortOrdered_int):=fun_ok (opers_ok (oks_cons slices_siftDownOrdered_int_ok oks_nil)) Try.call76 Try.func76 (by kernel_rfl) fun x _=>(congrFun (slices_heapSortOrdered_int_ev) x).symm
noncomputable def slices_nextPowerOfTwo_r (a1:Int):Bool × (Int):=
 let c2:=(bits_Len_r (IntKind.u64.wrap (a1)))
 let c4:=c2.2
 ((c2.1 && (decide ((0:Int)≤c4))),((iShl .u64 .i64 (1:Int) c4)))
def slices_nextPowerOfTwo_e:Ent:=⟨101,[],[(.pure (.int .i64) (Ty.dflt _))],[],[(.pure (.int .u64) (Ty.dflt _))],[]⟩
noncomputable def slices_nextPowerOfTwo:Fun:=⟨slices_nextPowerOfTwo_e,fun x=>let r:=slices_nextPowerOfTwo_r x.1; (r.1,(r.2,()))⟩
theorem slices_nextPowerOfTwo_ev:evFun Try.prog [bits_Len] [] Try.f101 (codeOf Try.f101) slices_nextPowerOfTwo_e=(slices_nextPowerOfTwo).fn:=by kernel_rfl
theorem slices_nextPowerOfTwo_ok:FunOk Try.prog (slices_nextPowerOfTwo):=fun_ok (opers_ok (oks_cons bits_Len_ok oks_nil)) Try.call101 Try.func101 (by kernel_rfl) fun x _=>(congrFun (slices_nextPowerOfTwo_ev) x).symm
noncomputable def __slices_xorshift__Next_r (a1:Int):Bool × (Int × Int):=
 let c10:=(iBxor .u64 a1 (iShl .u64 .u64 a1 (13:Int)))
 let c12:=(iBxor .u64 c10 (iShr .u64 .u64 c10 (7:Int)))
 let c14:=(iBxor .u64 c12 (iShl .u64 .u64 c12 (17:Int)))
 (((decide ((0:Int)≤(13:Int))) && ((decide ((0:Int)≤(7:Int))) && (decide ((0:Int)≤(17:Int))))),(c14,c14))
def __slices_xorshift__Next_e:Ent:=⟨102,[(0,(.var 123 (.pure (.int .u64) (Ty.dflt _))))],[(.ptr 0 [])],[(0,(.var 123 (.pure (.int .u64) (Ty.dflt _))))],[(.pure (.int .u64) (Ty.dflt _))],[]⟩
noncomputable def __slices_xorshift__Next:Fun:=⟨__slices_xorshift__Next_e,fun x=>let r:=__slices_xorshift__Next_r x.1; (r.1,(r.2.1,r.2.2,()))⟩
theorem __slices_xorshift__Next_ev:evFun Try.prog [] [] Try.f102 (codeOf Try.f102) __slices_xorshift__Next_e=(__slices_xorshift__Next).fn:=by kernel_rfl
theorem __slices_xorshift__Next_ok:FunOk Try.prog (__slices_xorshift__Next):=fun_ok (opers_ok oks_nil) Try.call102 Try.func102 (by kernel_rfl) fun x _=>(congrFun (__slices_xorshift__Next_ev) x).symm
noncomputable def slices_breakPatternsOrdered_int_l0 (a1:Int) (a2:Int) (a3:(List Int)) (s0:HL [.int .i64,(.fl (.int .i64)),.int .u64]):Bool × Bool × HL [.int .i64,(.fl (.int .i64)),.int .u64] × HL [.bool,(.fl (.int .i64)),.int .u64]:=
 let c2:=(IntKind.i64.wrap (a2 - a1))
 let c5:=(slices_nextPowerOfTwo_r c2)
 let c8:=((4:Int) !=(0:Int))
 let c13:=(IntKind.i64.wrap (a1+(IntKind.i64.wrap ((IntKind.i64.wrap (Int.tdiv c2 (4:Int)))*(2:Int)))))
 let c16:=(decide (s0.1≤(IntKind.i64.wrap (c13+(1:Int)))))
 let c18:=(__slices_xorshift__Next_r s0.2.2.1)
 let c24:=(IntKind.i64.wrap ((iBand .u64 c18.2.1 (IntKind.u64.wrap (c5.2 - (1:Int))))))
 let c28:=(IntKind.i64.wrap (a1+(cond (decide (c24≥c2)) (IntKind.i64.wrap (c24 - c2)) c24)))
 let c29:=(decide ((0:Int)≤c28))
 let c30:=(Int.toNat c28)
 let c33:=(decide (c30<s0.2.1.length))
 let c37:=(Int.toNat s0.1)
 let c38:=(decide (c37<s0.2.1.length))
 let c39:=((decide ((0:Int)≤s0.1)) && c38)
 let c45:=(s0.2.1.set c37 ((s0.2.1[c30]?).getD (0:Int)))
 let c47:=(decide (c30<c45.length))
 ((c8 && (cond c16 (c18.1 && ((((((((c29 && c33) && c33) && c39) && c38) && c39) && c38) && (c29 && c47)) && c47)) true)),c16,((IntKind.i64.wrap (s0.1+(1:Int))),(c45.set c30 ((s0.2.1[c37]?).getD (0:Int))),c18.2.2,()),((!c16),s0.2.1,s0.2.2.1,()))
noncomputable def slices_breakPatternsOrdered_int_r (a1:Int) (a2:Int) (a3:(List Int)):Bool × ((List Int)):=
 let c2:=(IntKind.i64.wrap (a2 - a1))
 let c4:=(decide (c2≥(8:Int)))
 let c5:=(slices_nextPowerOfTwo_r c2)
 let c8:=((4:Int) !=(0:Int))
 let c13:=(IntKind.i64.wrap (a1+(IntKind.i64.wrap ((IntKind.i64.wrap (Int.tdiv c2 (4:Int)))*(2:Int)))))
 let c63:=(loopD 0 [.int .i64,(.fl (.int .i64)),.int .u64] [.bool,(.fl (.int .i64)),.int .u64] (slices_breakPatternsOrdered_int_l0 a1 a2 a3) ((IntKind.i64.wrap (c13 - (1:Int))),a3,(IntKind.u64.wrap (c2)),()))
 ((cond c4 (c5.1 && (c8 && c63.1)) true),((cond c4 c63.2.2.1 a3)))
def slices_breakPatternsOrdered_int_e:Ent:=⟨77,[(0,(.arr (.int .i64) [] false))],[(.own 0 1),(.pure (.int .i64) (Ty.dflt _)),(.pure (.int .i64) (Ty.dflt _))],[(0,(.arr (.int .i64) [] false))],[],[]⟩
noncomputable def slices_breakPatternsOrdered_int:Fun:=⟨slices_breakPatternsOrdered_int_e,fun x=>let r:=slices_breakPatternsOrdered_int_r x.1 x.2.1 x.2.2.1; (r.1,(r.2,()))⟩
theorem slices_breakPatternsOrdered_int_ev:evFun Try.prog [slices_nextPowerOfTwo,__slices_xorshift__Next] [⟨[9],[0,513],⟨[],[],0⟩,[],[],[(1,[]),(2,[])],[]⟩] Try.f77 (codeOf Try.f77) slices_breakPatternsOrdered_int_e=(slices_breakPatternsOrdered_int).fn:=by kernel_rfl
theorem slices_breakPatternsOrdered_int_ok:FunOk Try.prog (slices_breakPatternsOrdered_int):=fun_ok (opers_ok (oks_cons slices_nextPowerOfTwo_ok (oks_cons __slices_xorshift__Next_ok oks_nil))) Try.call77 Try.func77 (by kernel_rfl) fun x _=>(congrFun (slices_breakPatternsOrdered_int_ev) x).symm
noncomputable def slices_order2Ordered_int_r (a1:Int) (a2:Int) (a3:(List Int)) (a4:Int):Bool × (Int × Int × Int):=
 let c2:=(Int.toNat a2)
 let c5:=(decide (c2<a3.length))
 let c10:=(Int.toNat a1)
 let c11:=(decide (c10<a3.length))
 let c17:=(cmp_Less_int_r ((a3[c2]?).getD (0:Int)) ((a3[c10]?).getD (0:Int)))
 let c21:=(!c17.2)
 (((((((decide ((0:Int)≤a2)) && c5) && c5) && ((decide ((0:Int)≤a1)) && c11)) && c11) && c17.1),((cond c21 a1 a2),(cond c21 a2 a1),(cond c21 a4 (IntKind.i64.wrap (a4+(1:Int))))))
def slices_order2Ordered_int_e:Ent:=⟨109,[(0,(.arr (.int .i64) [] false)),(1,(.var 3 (.pure (.int .i64) (Ty.dflt _))))],[(.own 0 1),(.pure (.int .i64) (Ty.dflt _)),(.pure (.int .i64) (Ty.dflt _)),(.ptr 1 [])],[(1,(.var 3 (.pure (.int .i64) (Ty.dflt _))))],[(.pure (.int .i64) (Ty.dflt _)),(.pure (.int .i64) (Ty.dflt _))],[0]⟩
noncomputable def slices_order2Ordered_int:Fun:=⟨slices_order2Ordered_int_e,fun x=>let r:=slices_order2Ordered_int_r x.1 x.2.1 x.2.2.1 x.2.2.2.1; (r.1,(r.2.1,r.2.2.1,r.2.2.2,()))⟩
theorem slices_order2Ordered_int_ev:evFun Try.prog [cmp_Less_int] [] Try.f109 (codeOf Try.f109) slices_order2Ordered_int_e=(slices_order2Ordered_int).fn:=by kernel_rfl
theorem slices_order2Ordered_int_ok:FunOk Try.prog (slices_order2Ordered_int):=fun_ok (opers_ok (oks_cons cmp_Less_int_ok oks_nil)) Try.call109 Try.func109 (by kernel_rfl) fun x _=>(congrFun (slices_order2Ordered_int_ev) x).symm
noncomputable def slices_medianOrdered_int_r (a1:Int) (a2:Int) (a3:Int) (a4:(List Int)) (a5:Int):Bool × (Int × Int):=
 let c4:=(slices_order2Ordered_int_r a1 a2 a4 a5)
 let c9:=(slices_order2Ordered_int_r c4.2.2.1 a3 a4 c4.2.2.2)
 let c14:=(slices_order2Ordered_int_r c4.2.1 c9.2.1 a4 c9.2.2.2)
 ((c4.1 && (c9.1 && c14.1)),(c14.2.2.1,c14.2.2.2))
def slices_medianOrdered_int_e:Ent:=⟨104,[(0,(.arr (.int .i64) [] false)),(1,(.var 3 (.pure (.int .i64) (Ty.dflt _))))],[(.own 0 1),(.pure (.int .i64) (Ty.dflt _)),(.pure (.int .i64) (Ty.dflt _)),(.pure (.int .i64) (Ty.dflt _)),(.ptr 1 [])],[(1,(.var 3 (.pure (.int .i64) (Ty.dflt _))))],[(.pure (.int .i64) (Ty.dflt _))],[0]⟩
noncomputable def slices_medianOrdered_int:Fun:=⟨slices_medianOrdered_int_e,fun x=>let r:=slices_medianOrdered_int_r x.1 x.2.1 x.2.2.1 x.2.2.2.1 x.2.2.2.2.1; (r.1,(r.2.1,r.2.2,()))⟩
theorem slices_medianOrdered_int_ev:evFun Try.prog [slices_order2Ordered_int] [] Try.f104 (codeOf Try.f104) slices_medianOrdered_int_e=(slices_medianOrdered_int).fn:=by kernel_rfl
theorem slices_medianOrdered_int_ok:FunOk Try.prog (slices_medianOrdered_int):=fun_ok (opers_ok (oks_cons slices_order2Ordered_int_ok oks_nil)) Try.call104 Try.func104 (by kernel_rfl) fun x _=>(congrFun (slices_medianOrdered_int_ev) x).symm
noncomputable def slices_medianAdjacentOrdered_int_r (a1:Int) (a2:(List Int)) (a3:Int):Bool × (Int × Int):=
 let c6:=(slices_medianOrdered_int_r (IntKind.i64.wrap (a1 - (1:Int))) a1 (IntKind.i64.wrap (a1+(1:Int))) a2 a3)
 (c6.1,(c6.2.1,c6.2.2))
def slices_medianAdjacentOrdered_int_e:Ent:=⟨103,[(0,(.arr (.int .i64) [] false)),(1,(.var 3 (.pure (.int .i64) (Ty.dflt _))))],[(.own 0 1),(.pure (.int .i64) (Ty.dflt _)),(.ptr 1 [])],[(1,(.var 3 (.pure (.int .i64) (Ty.dflt _))))],[(.pure (.int .i64) (Ty.dflt _))],[0]⟩
noncomputable def slices_medianAdjacentOrdered_int:Fun:=⟨slices_medianAdjacentOrdered_int_e,fun x=>let r:=slices_medianAdjacentOrdered_int_r x.1 x.2.1 x.2.2.1; (r.1,(r.2.1,r.2.2,()))⟩
theorem slices_medianAdjacentOrdered_int_ev:evFun Try.prog [slices_medianOrdered_int] [] Try.f103 (codeOf Try.f103) slices_medianAdjacentOrdered_int_e=(slices_medianAdjacentOrdered_int).fn:=by kernel_rfl
theorem slices_medianAdjacentOrdered_int_ok:FunOk Try.prog (slices_medianAdjacentOrdered_int):=fun_ok (opers_ok (oks_cons slices_medianOrdered_int_ok oks_nil)) Try.call103 Try.func103 (by kernel_rfl) fun x _=>(congrFun (slices_medianAdjacentOrdered_int_ev) x).symm
noncomputable def slices_choosePivotOrdered_int_r (a1:Int) (a2:Int) (a3:(List Int)):Bool × (Int × Int):=
 let c1:=((4:Int) !=(0:Int))
 let c4:=(IntKind.i64.wrap (a2 - a1))
 let c6:=(decide (c4≥(8:Int)))
 let c8:=(decide (c4≥(50:Int)))
 let c9:=(IntKind.i64.wrap (Int.tdiv c4 (4:Int)))
 let c12:=(IntKind.i64.wrap (a1+(IntKind.i64.wrap (c9*(1:Int)))))
 let c15:=(slices_medianAdjacentOrdered_int_r c12 a3 (0:Int))
 let c19:=(IntKind.i64.wrap (a1+(IntKind.i64.wrap (c9*(2:Int)))))
 let c21:=(slices_medianAdjacentOrdered_int_r c19 a3 c15.2.2)
 let c25:=(IntKind.i64.wrap (a1+(IntKind.i64.wrap (c9*(3:Int)))))
 let c27:=(slices_medianAdjacentOrdered_int_r c25 a3 c21.2.2)
 let c41:=(slices_medianOrdered_int_r (cond c8 c15.2.1 c12) (cond c8 c21.2.1 c19) (cond c8 c27.2.1 c25) a3 (cond c8 c27.2.2 (0:Int)))
 let c49:=(cond c6 c41.2.2 (0:Int))
 let c50:=(c49==(0:Int))
 let c52:=(cond c6 c41.2.1 c19)
 let c54:=(c49==(12:Int))
 ((c1 && (c1 && (c1 && (cond c6 ((cond c8 (c15.1 && (c21.1 && c27.1)) true) && c41.1) true)))),((cond c50 c52 (cond c54 c52 c52)),(cond c50 (1:Int) (cond c54 (2:Int) (0:Int)))))
def slices_choosePivotOrdered_int_e:Ent:=⟨78,[(0,(.arr (.int .i64) [] false))],[(.own 0 1),(.pure (.int .i64) (Ty.dflt _)),(.pure (.int .i64) (Ty.dflt _))],[],[(.pure (.int .i64) (Ty.dflt _)),(.pure (.int .i64) (Ty.dflt _))],[0]⟩
noncomputable def slices_choosePivotOrdered_int:Fun:=⟨slices_choosePivotOrdered_int_e,fun x=>let r:=slices_choosePivotOrdered_int_r x.1 x.2.1 x.2.2.1; (r.1,(r.2.1,r.2.2,()))⟩
theorem slices_choosePivotOrdered_int_ev:evFun Try.prog [slices_medianAdjacentOrdered_int,slices_medianOrdered_int] [⟨[],[],⟨[],[],0⟩,[],[],[],[(1000003,([10,11,12],[]))]⟩] Try.f78 (codeOf Try.f78) slices_choosePivotOrdered_int_e=(slices_choosePivotOrdered_int).fn:=by kernel_rfl
theorem slices_choosePivotOrdered_int_ok:FunOk Try.prog (slices_choosePivotOrdered_int):=fun_ok (opers_ok (oks_cons slices_medianAdjacentOrdered_int_ok (oks_cons slices_medianOrdered_int_ok oks_nil))) Try.call78 Try.func78 (by kernel_rfl) fun x _=>(congrFun (slices_choosePivotOrdered_int_ev) x).symm
noncomputable def slices_reverseRangeOrdered_int_l0 (a1:Int) (a2:Int) (a3:(List Int)) (s0:HL [.int .i64,.int .i64,(.fl (.int .i64))]):Bool × Bool × HL [.int .i64,.int .i64,(.fl (.int .i64))] × HL [.bool,(.fl (.int .i64))]:=
 let c2:=(decide (s0.2.1<s0.1))
 let c3:=(decide ((0:Int)≤s0.1))
 let c4:=(Int.toNat s0.1)
 let c7:=(decide (c4<s0.2.2.1.length))
 let c11:=(Int.toNat s0.2.1)
 let c12:=(decide (c11<s0.2.2.1.length))
 let c13:=((decide ((0:Int)≤s0.2.1)) && c12)
 let c19:=(s0.2.2.1.set c11 ((s0.2.2.1[c4]?).getD (0:Int)))
 let c21:=(decide (c4<c19.length))
 ((cond c2 ((((((((c3 && c7) && c7) && c13) && c12) && c13) && c12) && (c3 && c21)) && c21) true),c2,((IntKind.i64.wrap (s0.1 - (1:Int))),(IntKind.i64.wrap (s0.2.1+(1:Int))),(c19.set c4 ((s0.2.2.1[c11]?).getD (0:Int))),()),((!c2),s0.2.2.1,()))
noncomputable def slices_reverseRangeOrdered_int_r (a1:Int) (a2:Int) (a3:(List Int)):Bool × ((List Int)):=
 let c37:=(loopD 0 [.int .i64,.int .i64,(.fl (.int .i64))] [.bool,(.fl (.int .i64))] (slices_reverseRangeOrdered_int_l0 a1 a2 a3) ((IntKind.i64.wrap (a2 - (1:Int))),a1,a3,()))
 (c37.1,(c37.2.2.1))
def slices_reverseRangeOrdered_int_e:Ent:=⟨79,[(0,(.arr (.int .i64) [] false))],[(.own 0 1),(.pure (.int .i64) (Ty.dflt _)),(.pure (.int .i64) (Ty.dflt _))],[(0,(.arr (.int .i64) [] false))],[],[]⟩
noncomputable def slices_reverseRangeOrdered_int:Fun:=⟨slices_reverseRangeOrdered_int_e,fun x=>let r:=slices_reverseRangeOrdered_int_r x.1 x.2.1 x.2.2.1; (r.1,(r.2,()))⟩
theorem slices_reverseRangeOrdered_int_ev:evFun Try.prog [] [⟨[7,6],[0],⟨[],[],0⟩,[],[],[(1,[]),(2,[])],[]⟩] Try.f79 (codeOf Try.f79) slices_reverseRangeOrdered_int_e=(slices_reverseRangeOrdered_int).fn:=by kernel_rfl
theorem slices_reverseRangeOrdered_int_ok:FunOk Try.prog (slices_reverseRangeOrdered_int):=fun_ok (opers_ok oks_nil) Try.call79 Try.func79 (by kernel_rfl) fun x _=>(congrFun (slices_reverseRangeOrdered_int_ev) x).symm
noncomputable def slices_partialInsertionSortOrdered_int_l1 (a1:Int) (a2:Int) (a3:(List Int)) (s0:HL [.int .i64,.int .i64,(.fl (.int .i64))]) (s1:HL [.int .i64]):Bool × Bool × HL [.int .i64] × HL [.bool,.int .i64]:=
 let c5:=(decide (s1.1<a2))
 let c7:=(Int.toNat s1.1)
 let c10:=(decide (c7<s0.2.2.1.length))
 let c19:=(cond c5 c5 true)
 let c22:=(IntKind.i64.wrap (s1.1 - (1:Int)))
 let c24:=(Int.toNat c22)
 let c25:=(decide (c24<s0.2.2.1.length))
 let c37:=(cmp_Less_int_r ((s0.2.2.1[c7]?).getD (0:Int)) ((s0.2.2.1[c24]?).getD (0:Int)))
 let c47:=(cond c5 (!c37.2) false)
 (((((((((cond c5 (c5 && (c5 && ((decide ((0:Int)≤s1.1)) && c10))) true) && (cond c5 (c5 && c10) true)) && c19) && (cond c5 (c5 && (c5 && ((decide ((0:Int)≤c22)) && c25))) true)) && (cond c5 (c5 && c25) true)) && (cond c5 ((c5 && c5) && c37.1) true)) && c19) && c19),c47,((IntKind.i64.wrap (s1.1+(1:Int))),()),((!c47),s1.1,()))
noncomputable def slices_partialInsertionSortOrdered_int_l2 (a1:Int) (a2:Int) (a3:(List Int)) (s2:HL [.int .i64,(.fl (.int .i64))]):Bool × Bool × HL [.int .i64,(.fl (.int .i64))] × HL [.bool,(.fl (.int .i64))]:=
 let c86:=(decide (s2.1≥(1:Int)))
 let c88:=(Int.toNat s2.1)
 let c91:=(decide (c88<s2.2.1.length))
 let c92:=((decide ((0:Int)≤s2.1)) && c91)
 let c94:=(IntKind.i64.wrap (s2.1 - (1:Int)))
 let c95:=(decide ((0:Int)≤c94))
 let c96:=(Int.toNat c94)
 let c97:=(decide (c96<s2.2.1.length))
 let c98:=(c95 && c97)
 let c101:=((s2.2.1[c88]?).getD (0:Int))
 let c102:=((s2.2.1[c96]?).getD (0:Int))
 let c103:=(cmp_Less_int_r c101 c102)
 let c107:=(!c103.2)
 let c108:=(!c107)
 let c114:=(s2.2.1.set c88 c102)
 let c116:=(decide (c96<c114.length))
 ((cond c86 (((((c92 && c91) && c98) && c97) && c103.1) && (cond c108 (((((((c98 && c97) && c92) && c91) && c92) && c91) && (c95 && c116)) && c116) true)) true),(c86 && c108),(c94,(c114.set c96 c101),()),((cond c86 c107 (!c86)),s2.2.1,()))
noncomputable def slices_partialInsertionSortOrdered_int_l3 (a1:Int) (a2:Int) (a3:(List Int)) (s3:HL [.int .i64,(.fl (.int .i64))]):Bool × Bool × HL [.int .i64,(.fl (.int .i64))] × HL [.bool,(.fl (.int .i64))]:=
 let c135:=(decide (s3.1<a2))
 let c137:=(Int.toNat s3.1)
 let c140:=(decide (c137<s3.2.1.length))
 let c141:=((decide ((0:Int)≤s3.1)) && c140)
 let c143:=(IntKind.i64.wrap (s3.1 - (1:Int)))
 let c144:=(decide ((0:Int)≤c143))
 let c145:=(Int.toNat c143)
 let c146:=(decide (c145<s3.2.1.length))
 let c147:=(c144 && c146)
 let c150:=((s3.2.1[c137]?).getD (0:Int))
 let c151:=((s3.2.1[c145]?).getD (0:Int))
 let c152:=(cmp_Less_int_r c150 c151)
 let c156:=(!c152.2)
 let c157:=(!c156)
 let c163:=(s3.2.1.set c137 c151)
 let c165:=(decide (c145<c163.length))
 ((cond c135 (((((c141 && c140) && c147) && c146) && c152.1) && (cond c157 (((((((c147 && c146) && c141) && c140) && c141) && c140) && (c144 && c165)) && c165) true)) true),(c135 && c157),((IntKind.i64.wrap (s3.1+(1:Int))),(c163.set c145 c150),()),((cond c135 c156 (!c135)),s3.2.1,()))
noncomputable def slices_partialInsertionSortOrdered_int_l0 (a1:Int) (a2:Int) (a3:(List Int)) (s0:HL [.int .i64,.int .i64,(.fl (.int .i64))]):Bool × Bool × HL [.int .i64,.int .i64,(.fl (.int .i64))] × HL [.bool,.bool,(.fl (.int .i64)),.bool,(.fl (.int .i64))]:=
 let c2:=(decide (s0.2.1<(5:Int)))
 let c51:=(loopD 1 [.int .i64] [.bool,.int .i64] (slices_partialInsertionSortOrdered_int_l1 a1 a2 a3 s0) (s0.1,()))
 let c53:=c51.2.2.1
 let c54:=(c53==a2)
 let c55:=(!c54)
 let c59:=(decide ((IntKind.i64.wrap (a2 - a1))<(50:Int)))
 let c60:=(!c59)
 let c61:=(IntKind.i64.wrap (c53 - (1:Int)))
 let c62:=(decide ((0:Int)≤c61))
 let c63:=(Int.toNat c61)
 let c64:=(decide (c63<s0.2.2.1.length))
 let c68:=(Int.toNat c53)
 let c69:=(decide (c68<s0.2.2.1.length))
 let c70:=((decide ((0:Int)≤c53)) && c69)
 let c76:=(s0.2.2.1.set c68 ((s0.2.2.1[c63]?).getD (0:Int)))
 let c78:=(decide (c63<c76.length))
 let c84:=(decide ((IntKind.i64.wrap (c53 - a1))≥(2:Int)))
 let c128:=(c76.set c63 ((s0.2.2.1[c68]?).getD (0:Int)))
 let c129:=(loopD 2 [.int .i64,(.fl (.int .i64))] [.bool,(.fl (.int .i64))] (slices_partialInsertionSortOrdered_int_l2 a1 a2 a3) (c61,c128,()))
 let c133:=(decide ((IntKind.i64.wrap (a2 - c53))≥(2:Int)))
 let c179:=(cond c84 c129.2.2.1 c128)
 let c180:=(loopD 3 [.int .i64,(.fl (.int .i64))] [.bool,(.fl (.int .i64))] (slices_partialInsertionSortOrdered_int_l3 a1 a2 a3) ((IntKind.i64.wrap (c53+(1:Int))),c179,()))
 ((cond c2 (c51.1 && (cond c55 (cond c60 (((((((((c62 && c64) && c64) && c70) && c69) && c70) && c69) && (c62 && c78)) && c78) && ((cond c84 c129.1 true) && (cond c133 c180.1 true))) true) true)) true),(c2 && (c55 && c60)),(c53,(IntKind.i64.wrap (s0.2.1+(1:Int))),(cond c133 c180.2.2.1 c179),()),((c2 && (cond c55 c59 c54)),(cond c55 false true),s0.2.2.1,(!c2),s0.2.2.1,()))
noncomputable def slices_partialInsertionSortOrdered_int_r (a1:Int) (a2:Int) (a3:(List Int)):Bool × (Bool × (List Int)):=
 let c201:=(loopD 0 [.int .i64,.int .i64,(.fl (.int .i64))] [.bool,.bool,(.fl (.int .i64)),.bool,(.fl (.int .i64))] (slices_partialInsertionSortOrdered_int_l0 a1 a2 a3) ((IntKind.i64.wrap (a1+(1:Int))),(0:Int),a3,()))
 let c203:=c201.2.2.2.2.1
 (c201.1,((cond c203 false c201.2.2.1),(cond c203 c201.2.2.2.2.2.1 c201.2.2.2.1)))
def slices_partialInsertionSortOrdered_int_e:Ent:=⟨80,[(0,(.arr (.int .i64) [] false))],[(.own 0 1),(.pure (.int .i64) (Ty.dflt _)),(.pure (.int .i64) (Ty.dflt _))],[(0,(.arr (.int .i64) [] false))],[(.pure .bool (Ty.dflt _))],[]⟩
noncomputable def slices_partialInsertionSortOrdered_int:Fun:=⟨slices_partialInsertionSortOrdered_int_e,fun x=>let r:=slices_partialInsertionSortOrdered_int_r x.1 x.2.1 x.2.2.1; (r.1,(r.2.1,r.2.2,()))⟩
theorem slices_partialInsertionSortOrdered_int_ev:evFun Try.prog [cmp_Less_int] [⟨[7,8],[0],⟨[],[],0⟩,[],[],[(1,[6]),(2,[])],[]⟩,⟨[7],[],⟨[],[],0⟩,[],[],[(1,[]),(4,[7])],[]⟩,⟨[9],[0],⟨[],[],0⟩,[],[],[(1,[]),(6,[])],[]⟩,⟨[10],[0],⟨[],[],0⟩,[],[],[(1,[]),(8,[])],[]⟩,⟨[],[],⟨[],[],0⟩,[],[],[],[(1000003,([7,8,9,10],[]))]⟩] Try.f80 (codeOf Try.f80) slices_partialInsertionSortOrdered_int_e=(slices_partialInsertionSortOrdered_int).fn:=by kernel_rfl
theorem slices_partialInsertionSortOrdered_int_ok:FunOk Try.prog (slices_partialInsertionSortOrdered_int):=fun_ok (opers_ok (oks_cons cmp_Less_int_ok oks_nil)) Try.call80 Try.func80 (by kernel_rfl) fun x _=>(congrFun (slices_partialInsertionSortOrdered_int_ev) x).symm
noncomputable def slices_partitionEqualOrdered_int_l1 (a1:Int) (a2:Int) (a3:Int) (a4:(List Int)) (s0:HL [.int .i64,.int .i64,(.fl (.int .i64))]) (s1:HL [.int .i64]):Bool × Bool × HL [.int .i64] × HL [.bool,.int .i64]:=
 let c9:=(decide ((0:Int)≤a1))
 let c10:=(Int.toNat a1)
 let c26:=(decide (s1.1≤s0.2.1))
 let c29:=(decide (c10<s0.2.2.1.length))
 let c30:=(c9 && c29)
 let c39:=(Int.toNat s1.1)
 let c40:=(decide (c39<s0.2.2.1.length))
 let c50:=((s0.2.2.1[c10]?).getD (0:Int))
 let c52:=(cmp_Less_int_r c50 ((s0.2.2.1[c39]?).getD (0:Int)))
 let c57:=(cond c26 c26 true)
 let c63:=(cond c26 (!c52.2) false)
 ((((((((cond c26 (c26 && (c26 && c30)) true) && (cond c26 (c26 && c29) true)) && (cond c26 (c26 && (c26 && ((decide ((0:Int)≤s1.1)) && c40))) true)) && (cond c26 (c26 && c40) true)) && (cond c26 ((c26 && c26) && c52.1) true)) && c57) && c57),c63,((IntKind.i64.wrap (s1.1+(1:Int))),()),((!c63),s1.1,()))
noncomputable def slices_partitionEqualOrdered_int_l2 (a1:Int) (a2:Int) (a3:Int) (a4:(List Int)) (s0:HL [.int .i64,.int .i64,(.fl (.int .i64))]) (s2:HL [.int .i64]):Bool × Bool × HL [.int .i64] × HL [.bool,.int .i64]:=
 let c9:=(decide ((0:Int)≤a1))
 let c10:=(Int.toNat a1)
 let c29:=(decide (c10<s0.2.2.1.length))
 let c30:=(c9 && c29)
 let c50:=((s0.2.2.1[c10]?).getD (0:Int))
 let c68:=(loopD 1 [.int .i64] [.bool,.int .i64] (slices_partitionEqualOrdered_int_l1 a1 a2 a3 a4 s0) (s0.1,()))
 let c70:=c68.2.2.1
 let c72:=(decide (c70≤s2.1))
 let c80:=(Int.toNat s2.1)
 let c81:=(decide (c80<s0.2.2.1.length))
 let c92:=(cmp_Less_int_r c50 ((s0.2.2.1[c80]?).getD (0:Int)))
 let c100:=(cond c72 c92.2 false)
 (((((((cond c72 (c72 && (c72 && c30)) true) && (cond c72 (c72 && c29) true)) && (cond c72 (c72 && (c72 && ((decide ((0:Int)≤s2.1)) && c81))) true)) && (cond c72 (c72 && c81) true)) && (cond c72 ((c72 && c72) && c92.1) true)) && (cond c72 c72 true)),c100,((IntKind.i64.wrap (s2.1 - (1:Int))),()),((!c100),s2.1,()))
noncomputable def slices_partitionEqualOrdered_int_l0 (a1:Int) (a2:Int) (a3:Int) (a4:(List Int)) (s0:HL [.int .i64,.int .i64,(.fl (.int .i64))]):Bool × Bool × HL [.int .i64,.int .i64,(.fl (.int .i64))] × HL [.bool,.int .i64,(.fl (.int .i64))]:=
 let c68:=(loopD 1 [.int .i64] [.bool,.int .i64] (slices_partitionEqualOrdered_int_l1 a1 a2 a3 a4 s0) (s0.1,()))
 let c70:=c68.2.2.1
 let c103:=(loopD 2 [.int .i64] [.bool,.int .i64] (slices_partitionEqualOrdered_int_l2 a1 a2 a3 a4 s0) (s0.2.1,()))
 let c105:=c103.2.2.1
 let c106:=(decide (c70>c105))
 let c107:=(!c106)
 let c108:=(decide ((0:Int)≤c105))
 let c109:=(Int.toNat c105)
 let c110:=(decide (c109<s0.2.2.1.length))
 let c114:=(Int.toNat c70)
 let c115:=(decide (c114<s0.2.2.1.length))
 let c116:=((decide ((0:Int)≤c70)) && c115)
 let c122:=(s0.2.2.1.set c114 ((s0.2.2.1[c109]?).getD (0:Int)))
 let c124:=(decide (c109<c122.length))
 ((c68.1 && (c103.1 && (cond c107 ((((((((c108 && c110) && c110) && c116) && c115) && c116) && c115) && (c108 && c124)) && c124) true))),c107,((IntKind.i64.wrap (c70+(1:Int))),(IntKind.i64.wrap (c105 - (1:Int))),(c122.set c109 ((s0.2.2.1[c114]?).getD (0:Int))),()),(c106,c70,s0.2.2.1,()))
noncomputable def slices_partitionEqualOrdered_int_r (a1:Int) (a2:Int) (a3:Int) (a4:(List Int)):Bool × (Int × (List Int)):=
 let c1:=(decide ((0:Int)≤a3))
 let c2:=(Int.toNat a3)
 let c5:=(decide (c2<a4.length))
 let c9:=(decide ((0:Int)≤a1))
 let c10:=(Int.toNat a1)
 let c11:=(decide (c10<a4.length))
 let c12:=(c9 && c11)
 let c18:=(a4.set c10 ((a4[c2]?).getD (0:Int)))
 let c20:=(decide (c2<c18.length))
 let c140:=(loopD 0 [.int .i64,.int .i64,(.fl (.int .i64))] [.bool,.int .i64,(.fl (.int .i64))] (slices_partitionEqualOrdered_int_l0 a1 a2 a3 a4) ((IntKind.i64.wrap (a1+(1:Int))),(IntKind.i64.wrap (a2 - (1:Int))),(c18.set c2 ((a4[c10]?).getD (0:Int))),()))
 ((((((((((c1 && c5) && c5) && c12) && c11) && c12) && c11) && (c1 && c20)) && c20) && c140.1),(c140.2.2.1,c140.2.2.2.1))
def slices_partitionEqualOrdered_int_e:Ent:=⟨82,[(0,(.arr (.int .i64) [] false))],[(.own 0 1),(.pure (.int .i64) (Ty.dflt _)),(.pure (.int .i64) (Ty.dflt _)),(.pure (.int .i64) (Ty.dflt _))],[(0,(.arr (.int .i64) [] false))],[(.pure (.int .i64) (Ty.dflt _))],[]⟩
noncomputable def slices_partitionEqualOrdered_int:Fun:=⟨slices_partitionEqualOrdered_int_e,fun x=>let r:=slices_partitionEqualOrdered_int_r x.1 x.2.1 x.2.2.1 x.2.2.2.1; (r.1,(r.2.1,r.2.2,()))⟩
theorem slices_partitionEqualOrdered_int_ev:evFun Try.prog [cmp_Less_int] [⟨[9,10],[0],⟨[],[],0⟩,[],[],[(1,[]),(2,[9])],[]⟩,⟨[9],[],⟨[],[],0⟩,[],[],[(1,[]),(4,[9])],[]⟩,⟨[10],[],⟨[],[],0⟩,[],[],[(1,[]),(6,[10])],[]⟩] Try.f82 (codeOf Try.f82) slices_partitionEqualOrdered_int_e=(slices_partitionEqualOrdered_int).fn:=by kernel_rfl
theorem slices_partitionEqualOrdered_int_ok:FunOk Try.prog (slices_partitionEqualOrdered_int):=fun_ok (opers_ok (oks_cons cmp_Less_int_ok oks_nil)) Try.call82 Try.func82 (by kernel_rfl) fun x _=>(congrFun (slices_partitionEqualOrdered_int_ev) x).symm
noncomputable def slices_partitionOrdered_int_l0 (a1:Int) (a2:Int) (a3:Int) (a4:(List Int)) (s0:HL [.int .i64]):Bool × Bool × HL [.int .i64] × HL [.bool,.int .i64]:=
 let c2:=(Int.toNat a3)
 let c9:=(decide ((0:Int)≤a1))
 let c10:=(Int.toNat a1)
 let c18:=(a4.set c10 ((a4[c2]?).getD (0:Int)))
 let c27:=(IntKind.i64.wrap (a2 - (1:Int)))
 let c28:=(decide (s0.1≤c27))
 let c30:=(Int.toNat s0.1)
 let c32:=(c18.set c2 ((a4[c10]?).getD (0:Int)))
 let c33:=c32.length
 let c34:=(decide (c30<c33))
 let c43:=(decide (c10<c33))
 let c44:=(c9 && c43)
 let c54:=((c32[c10]?).getD (0:Int))
 let c55:=(cmp_Less_int_r ((c32[c30]?).getD (0:Int)) c54)
 let c64:=(cond c28 c55.2 false)
 (((((((cond c28 (c28 && (c28 && ((decide ((0:Int)≤s0.1)) && c34))) true) && (cond c28 (c28 && c34) true)) && (cond c28 (c28 && (c28 && c44)) true)) && (cond c28 (c28 && c43) true)) && (cond c28 ((c28 && c28) && c55.1) true)) && (cond c28 c28 true)),c64,((IntKind.i64.wrap (s0.1+(1:Int))),()),((!c64),s0.1,()))
noncomputable def slices_partitionOrdered_int_l1 (a1:Int) (a2:Int) (a3:Int) (a4:(List Int)) (s1:HL [.int .i64]):Bool × Bool × HL [.int .i64] × HL [.bool,.int .i64]:=
 let c2:=(Int.toNat a3)
 let c9:=(decide ((0:Int)≤a1))
 let c10:=(Int.toNat a1)
 let c18:=(a4.set c10 ((a4[c2]?).getD (0:Int)))
 let c32:=(c18.set c2 ((a4[c10]?).getD (0:Int)))
 let c33:=c32.length
 let c43:=(decide (c10<c33))
 let c44:=(c9 && c43)
 let c54:=((c32[c10]?).getD (0:Int))
 let c68:=(loopD 0 [.int .i64] [.bool,.int .i64] (slices_partitionOrdered_int_l0 a1 a2 a3 a4) ((IntKind.i64.wrap (a1+(1:Int))),()))
 let c70:=c68.2.2.1
 let c72:=(decide (c70≤s1.1))
 let c74:=(Int.toNat s1.1)
 let c75:=(decide (c74<c33))
 let c92:=(cmp_Less_int_r ((c32[c74]?).getD (0:Int)) c54)
 let c97:=(cond c72 c72 true)
 let c102:=(cond c72 (!c92.2) false)
 ((((((((cond c72 (c72 && (c72 && ((decide ((0:Int)≤s1.1)) && c75))) true) && (cond c72 (c72 && c75) true)) && (cond c72 (c72 && (c72 && c44)) true)) && (cond c72 (c72 && c43) true)) && (cond c72 ((c72 && c72) && c92.1) true)) && c97) && c97),c102,((IntKind.i64.wrap (s1.1 - (1:Int))),()),((!c102),s1.1,()))
noncomputable def slices_partitionOrdered_int_l3 (a1:Int) (a2:Int) (a3:Int) (a4:(List Int)) (s2:HL [.int .i64,.int .i64,(.fl (.int .i64))]) (s3:HL [.int .i64]):Bool × Bool × HL [.int .i64] × HL [.bool,.int .i64]:=
 let c9:=(decide ((0:Int)≤a1))
 let c10:=(Int.toNat a1)
 let c144:=(decide (s3.1≤s2.2.1))
 let c146:=(Int.toNat s3.1)
 let c149:=(decide (c146<s2.2.2.1.length))
 let c157:=(decide (c10<s2.2.2.1.length))
 let c158:=(c9 && c157)
 let c168:=((s2.2.2.1[c10]?).getD (0:Int))
 let c169:=(cmp_Less_int_r ((s2.2.2.1[c146]?).getD (0:Int)) c168)
 let c177:=(cond c144 c169.2 false)
 (((((((cond c144 (c144 && (c144 && ((decide ((0:Int)≤s3.1)) && c149))) true) && (cond c144 (c144 && c149) true)) && (cond c144 (c144 && (c144 && c158)) true)) && (cond c144 (c144 && c157) true)) && (cond c144 ((c144 && c144) && c169.1) true)) && (cond c144 c144 true)),c177,((IntKind.i64.wrap (s3.1+(1:Int))),()),((!c177),s3.1,()))
noncomputable def slices_partitionOrdered_int_l4 (a1:Int) (a2:Int) (a3:Int) (a4:(List Int)) (s2:HL [.int .i64,.int .i64,(.fl (.int .i64))]) (s4:HL [.int .i64]):Bool × Bool × HL [.int .i64] × HL [.bool,.int .i64]:=
 let c9:=(decide ((0:Int)≤a1))
 let c10:=(Int.toNat a1)
 let c157:=(decide (c10<s2.2.2.1.length))
 let c158:=(c9 && c157)
 let c168:=((s2.2.2.1[c10]?).getD (0:Int))
 let c181:=(loopD 3 [.int .i64] [.bool,.int .i64] (slices_partitionOrdered_int_l3 a1 a2 a3 a4 s2) (s2.1,()))
 let c183:=c181.2.2.1
 let c185:=(decide (c183≤s4.1))
 let c187:=(Int.toNat s4.1)
 let c188:=(decide (c187<s2.2.2.1.length))
 let c205:=(cmp_Less_int_r ((s2.2.2.1[c187]?).getD (0:Int)) c168)
 let c210:=(cond c185 c185 true)
 let c215:=(cond c185 (!c205.2) false)
 ((((((((cond c185 (c185 && (c185 && ((decide ((0:Int)≤s4.1)) && c188))) true) && (cond c185 (c185 && c188) true)) && (cond c185 (c185 && (c185 && c158)) true)) && (cond c185 (c185 && c157) true)) && (cond c185 ((c185 && c185) && c205.1) true)) && c210) && c210),c215,((IntKind.i64.wrap (s4.1 - (1:Int))),()),((!c215),s4.1,()))
noncomputable def slices_partitionOrdered_int_l2 (a1:Int) (a2:Int) (a3:Int) (a4:(List Int)) (s2:HL [.int .i64,.int .i64,(.fl (.int .i64))]):Bool × Bool × HL [.int .i64,.int .i64,(.fl (.int .i64))] × HL [.bool,.int .i64,(.fl (.int .i64))]:=
 let c181:=(loopD 3 [.int .i64] [.bool,.int .i64] (slices_partitionOrdered_int_l3 a1 a2 a3 a4 s2) (s2.1,()))
 let c183:=c181.2.2.1
 let c218:=(loopD 4 [.int .i64] [.bool,.int .i64] (slices_partitionOrdered_int_l4 a1 a2 a3 a4 s2) (s2.2.1,()))
 let c220:=c218.2.2.1
 let c221:=(decide (c183>c220))
 let c222:=(!c221)
 let c223:=(decide ((0:Int)≤c220))
 let c224:=(Int.toNat c220)
 let c225:=(decide (c224<s2.2.2.1.length))
 let c229:=(Int.toNat c183)
 let c230:=(decide (c229<s2.2.2.1.length))
 let c231:=((decide ((0:Int)≤c183)) && c230)
 let c237:=(s2.2.2.1.set c229 ((s2.2.2.1[c224]?).getD (0:Int)))
 let c239:=(decide (c224<c237.length))
 ((c181.1 && (c218.1 && (cond c222 ((((((((c223 && c225) && c225) && c231) && c230) && c231) && c230) && (c223 && c239)) && c239) true))),c222,((IntKind.i64.wrap (c183+(1:Int))),(IntKind.i64.wrap (c220 - (1:Int))),(c237.set c224 ((s2.2.2.1[c229]?).getD (0:Int))),()),(c221,c220,s2.2.2.1,()))
noncomputable def slices_partitionOrdered_int_r (a1:Int) (a2:Int) (a3:Int) (a4:(List Int)):Bool × (Int × Bool × (List Int)):=
 let c1:=(decide ((0:Int)≤a3))
 let c2:=(Int.toNat a3)
 let c5:=(decide (c2<a4.length))
 let c9:=(decide ((0:Int)≤a1))
 let c10:=(Int.toNat a1)
 let c11:=(decide (c10<a4.length))
 let c12:=(c9 && c11)
 let c18:=(a4.set c10 ((a4[c2]?).getD (0:Int)))
 let c20:=(decide (c2<c18.length))
 let c27:=(IntKind.i64.wrap (a2 - (1:Int)))
 let c32:=(c18.set c2 ((a4[c10]?).getD (0:Int)))
 let c33:=c32.length
 let c43:=(decide (c10<c33))
 let c44:=(c9 && c43)
 let c54:=((c32[c10]?).getD (0:Int))
 let c68:=(loopD 0 [.int .i64] [.bool,.int .i64] (slices_partitionOrdered_int_l0 a1 a2 a3 a4) ((IntKind.i64.wrap (a1+(1:Int))),()))
 let c70:=c68.2.2.1
 let c105:=(loopD 1 [.int .i64] [.bool,.int .i64] (slices_partitionOrdered_int_l1 a1 a2 a3 a4) (c27,()))
 let c107:=c105.2.2.1
 let c108:=(decide (c70>c107))
 let c110:=(decide ((0:Int)≤c107))
 let c111:=(Int.toNat c107)
 let c112:=(decide (c111<c33))
 let c113:=(c110 && c112)
 let c118:=(c32.set c111 c54)
 let c120:=(decide (c10<c118.length))
 let c125:=(!c108)
 let c128:=(Int.toNat c70)
 let c129:=(decide (c128<c33))
 let c130:=((decide ((0:Int)≤c70)) && c129)
 let c135:=((c32[c111]?).getD (0:Int))
 let c136:=(c32.set c128 c135)
 let c138:=(decide (c111<c136.length))
 let c254:=(loopD 2 [.int .i64,.int .i64,(.fl (.int .i64))] [.bool,.int .i64,(.fl (.int .i64))] (slices_partitionOrdered_int_l2 a1 a2 a3 a4) ((IntKind.i64.wrap (c70+(1:Int))),(IntKind.i64.wrap (c107 - (1:Int))),(c136.set c111 ((c32[c128]?).getD (0:Int))),()))
 let c256:=c254.2.2.2.1
 let c257:=c256.length
 let c258:=(decide (c10<c257))
 let c261:=c254.2.2.1
 let c263:=(Int.toNat c261)
 let c264:=(decide (c263<c257))
 let c265:=((decide ((0:Int)≤c261)) && c264)
 let c271:=(c256.set c263 ((c256[c10]?).getD (0:Int)))
 let c273:=(decide (c10<c271.length))
 ((((((((((c1 && c5) && c5) && c12) && c11) && c12) && c11) && (c1 && c20)) && c20) && (c68.1 && (c105.1 && ((cond c108 (((((((c44 && c43) && c113) && c112) && c113) && c112) && (c9 && c120)) && c120) true) && (cond c125 ((((((((c113 && c112) && c130) && c129) && c130) && c129) && (c110 && c138)) && c138) && (c254.1 && ((((((((c9 && c258) && c258) && c265) && c264) && c265) && c264) && (c9 && c273)) && c273))) true))))),((cond c125 c261 c107),(cond c125 false true),(cond c125 (c271.set c10 ((c256[c263]?).getD (0:Int))) (c118.set c10 c135))))
def slices_partitionOrdered_int_e:Ent:=⟨83,[(0,(.arr (.int .i64) [] false))],[(.own 0 1),(.pure (.int .i64) (Ty.dflt _)),(.pure (.int .i64) (Ty.dflt _)),(.pure (.int .i64) (Ty.dflt _))],[(0,(.arr (.int .i64) [] false))],[(.pure (.int .i64) (Ty.dflt _)),(.pure .bool (Ty.dflt _))],[]⟩
noncomputable def slices_partitionOrdered_int:Fun:=⟨slices_partitionOrdered_int_e,fun x=>let r:=slices_partitionOrdered_int_r x.1 x.2.1 x.2.2.1 x.2.2.2.1; (r.1,(r.2.1,r.2.2.1,r.2.2.2,()))⟩
theorem slices_partitionOrdered_int_ev:evFun Try.prog [cmp_Less_int] [⟨[10],[],⟨[],[],0⟩,[],[],[(1,[]),(2,[10])],[]⟩,⟨[11],[],⟨[],[],0⟩,[],[],[(1,[]),(4,[11])],[]⟩,⟨[10,11],[0],⟨[],[],0⟩,[],[],[(1,[]),(6,[11])],[]⟩,⟨[10],[],⟨[],[],0⟩,[],[],[(1,[]),(8,[10])],[]⟩,⟨[11],[],⟨[],[],0⟩,[],[],[(1,[]),(10,[11])],[]⟩,⟨[],[],⟨[],[],0⟩,[],[],[],[(1000003,([10,11],[]))]⟩] Try.f83 (codeOf Try.f83) slices_partitionOrdered_int_e=(slices_partitionOrdered_int).fn:=by kernel_rfl
theorem slices_partitionOrdered_int_ok:FunOk Try.prog (slices_partitionOrdered_int):=fun_ok (opers_ok (oks_cons cmp_Less_int_ok oks_nil)) Try.call83 Try.func83 (by kernel_rfl) fun x _=>(congrFun (slices_partitionOrdered_int_ev) x).symm
noncomputable def slices_pdqsortOrdered_int_s_l0 (g_slices_pdqsortOrdered_int:HL slices_pdqsortOrdered_int_e.ins→Bool × HL slices_pdqsortOrdered_int_e.outs) (a1:Int) (a2:Int) (a3:Int) (a4:(List Int)) (s0:HL [.int .i64,.int .i64,.bool,.bool,.int .i64,(.fl (.int .i64))]):Bool × Bool × HL [.int .i64,.int .i64,.bool,.bool,.int .i64,(.fl (.int .i64))] × HL [.bool,(.fl (.int .i64))]:=
 let c2:=(IntKind.i64.wrap (s0.1 - s0.2.1))
 let c4:=(decide (c2≤(12:Int)))
 let c6:=(slices_insertionSortOrdered_int_r s0.2.1 s0.1 s0.2.2.2.2.2.1)
 let c10:=(!c4)
 let c13:=(s0.2.2.2.2.1==(0:Int))
 let c14:=(slices_heapSortOrdered_int_r s0.2.1 s0.1 s0.2.2.2.2.2.1)
 let c17:=(!c13)
 let c19:=(!s0.2.2.2.1)
 let c20:=(slices_breakPatternsOrdered_int_r s0.2.1 s0.1 s0.2.2.2.2.2.1)
 let c24:=(cond c19 c20.2 s0.2.2.2.2.2.1)
 let c25:=(slices_choosePivotOrdered_int_r s0.2.1 s0.1 c24)
 let c27:=c25.2.2
 let c29:=(c27==(2:Int))
 let c30:=(slices_reverseRangeOrdered_int_r s0.2.1 s0.1 c24)
 let c36:=(cond s0.2.2.2.1 s0.2.2.1 false)
 let c37:=(cond c36 c36 true)
 let c43:=(cond c36 ((cond c29 (1:Int) c27)==(1:Int)) false)
 let c45:=(cond c29 c30.2 c24)
 let c46:=(slices_partialInsertionSortOrdered_int_r s0.2.1 s0.1 c45)
 let c50:=c46.2.1
 let c52:=(cond c43 (!c50) true)
 let c53:=(decide (s0.2.1>(0:Int)))
 let c54:=(cond c53 c53 true)
 let c55:=(IntKind.i64.wrap (s0.2.1 - (1:Int)))
 let c57:=(Int.toNat c55)
 let c58:=c46.2.2
 let c59:=(cond c43 c58 c45)
 let c60:=c59.length
 let c61:=(decide (c57<c60))
 let c71:=c25.2.1
 let c74:=(cond c29 (IntKind.i64.wrap ((IntKind.i64.wrap (s0.1 - (1:Int))) - (IntKind.i64.wrap (c71 - s0.2.1)))) c71)
 let c76:=(Int.toNat c74)
 let c77:=(decide (c76<c60))
 let c89:=(cmp_Less_int_r ((c59[c57]?).getD (0:Int)) ((c59[c76]?).getD (0:Int)))
 let c98:=(cond c53 (!c89.2) false)
 let c99:=(slices_partitionEqualOrdered_int_r s0.2.1 s0.1 c74 c59)
 let c103:=(!c98)
 let c104:=(slices_partitionOrdered_int_r s0.2.1 s0.1 c74 c59)
 let c108:=c104.2.1
 let c109:=(IntKind.i64.wrap (c108 - s0.2.1))
 let c110:=(IntKind.i64.wrap (s0.1 - c108))
 let c111:=(decide (c109<c110))
 let c113:=(cond c19 (IntKind.i64.wrap (s0.2.2.2.2.1 - (1:Int))) s0.2.2.2.2.1)
 let c114:=c104.2.2.2
 let c115:=(g_slices_pdqsortOrdered_int (s0.2.1,c108,c113,c114,()))
 let c117:=(IntKind.i64.wrap (c108+(1:Int)))
 let c118:=(g_slices_pdqsortOrdered_int (c117,s0.1,c113,c114,()))
 let c136:=(c10 && (c17 && (c52 && c103)))
 let c148:=(IntKind.i64.wrap (Int.tdiv c2 (8:Int)))
 (((cond c4 c6.1 true) && (cond c10 ((cond c13 c14.1 true) && (cond c17 ((cond c19 c20.1 true) && (c25.1 && ((cond c29 c30.1 true) && (((((cond s0.2.2.2.1 s0.2.2.2.1 true) && c37) && c37) && (cond c43 c46.1 true)) && (cond c52 (((((((((c54 && (cond c53 (c53 && (c53 && ((decide ((0:Int)≤c55)) && c61))) true)) && (cond c53 (c53 && c61) true)) && (cond c53 (c53 && (c53 && ((decide ((0:Int)≤c74)) && c77))) true)) && (cond c53 (c53 && c77) true)) && (cond c53 ((c53 && c53) && c89.1) true)) && c54) && c54) && (cond c98 c99.1 true)) && (cond c103 (c104.1 && (((8:Int) !=(0:Int)) && (cond c111 c115.1 c118.1))) true)) true))))) true)) true)),(c136 || (c10 && (c17 && (c52 && c98)))),((cond c136 (cond c111 s0.1 c108) s0.1),(cond c136 (cond c111 c117 s0.2.1) c99.2.1),(cond c136 c104.2.2.1 s0.2.2.1),(cond c136 (cond c111 (decide (c109≥c148)) (decide (c110≥c148))) s0.2.2.2.1),(cond c136 c113 c113),(cond c136 (cond c111 c115.2.1 c118.2.1) c99.2.2),()),((cond c10 (cond c17 (c50 && c43) c13) c4),(cond c10 (cond c17 c58 c14.2) c6.2),()))
noncomputable def slices_pdqsortOrdered_int_s_r (g_slices_pdqsortOrdered_int:HL slices_pdqsortOrdered_int_e.ins→Bool × HL slices_pdqsortOrdered_int_e.outs) (a1:Int) (a2:Int) (a3:Int) (a4:(List Int)):Bool × ((List Int)):=
 let c170:=(loopD 0 [.int .i64,.int .i64,.bool,.bool,.int .i64,(.fl (.int .i64))] [.bool,(.fl (.int .i64))] (slices_pdqsortOrdered_int_s_l0 g_slices_pdqsortOrdered_int a1 a2 a3 a4) (a2,a1,true,true,a3,a4,()))
 (c170.1,(c170.2.2.1))
noncomputable def slices_pdqsortOrdered_int_s (g_slices_pdqsortOrdered_int:HL slices_pdqsortOrdered_int_e.ins→Bool × HL slices_pdqsortOrdered_int_e.outs):HL slices_pdqsortOrdered_int_e.ins→Bool × HL slices_pdqsortOrdered_int_e.outs:=fun x=>let r:=slices_pdqsortOrdered_int_s_r g_slices_pdqsortOrdered_int x.1 x.2.1 x.2.2.1 x.2.2.2.1; (r.1,(r.2,()))
theorem slices_pdqsortOrdered_int_ev (g_slices_pdqsortOrdered_int:HL slices_pdqsortOrdered_int_e.ins→Bool × HL slices_pdqsortOrdered_int_e.outs):evFun Try.prog [slices_insertionSortOrdered_int,slices_heapSortOrdered_int,slices_breakPatternsOrdered_int,slices_choosePivotOrdered_int,slices_reverseRangeOrdered_int,slices_partialInsertionSortOrdered_int,cmp_Less_int,slices_partitionEqualOrdered_int,slices_partitionOrdered_int,⟨slices_pdqsortOrdered_int_e,g_slices_pdqsortOrdered_int⟩] [⟨[2,1,9,8,3],[0],⟨[],[],0⟩,[],[],[(1,[])],[]⟩,⟨[],[],⟨[],[],0⟩,[],[],[],[(1000003,([8,9,3,11,12,1,2],[]))]⟩] Try.f57 (codeOf Try.f57) slices_pdqsortOrdered_int_e=slices_pdqsortOrdered_int_s g_slices_pdqsortOrdered_int:=by kernel_rfl
noncomputable def slices_pdqsortOrdered_int:Fun:=⟨slices_pdqsortOrdered_int_e,recF slices_pdqsortOrdered_int_e (slices_pdqsortOrdered_int_s)⟩
theorem slices_pdqsortOrdered_int_ok:FunOk Try.prog (slices_pdqsortOrdered_int):=rec_ok Try.call57 fun g_slices_pdqsortOrdered_int hg_slices_pdqsortOrdered_int=>fun_ok (F:=⟨slices_pdqsortOrdered_int_e,slices_pdqsortOrdered_int_s g_slices_pdqsortOrdered_int⟩) (opers_ok (oks_cons slices_insertionSortOrdered_int_ok (oks_cons slices_heapSortOrdered_int_ok (oks_cons slices_breakPatternsOrdered_int_ok (oks_cons slices_choosePivotOrdered_int_ok (oks_cons slices_reverseRangeOrdered_int_ok (oks_cons slices_partialInsertionSortOrdered_int_ok (oks_cons cmp_Less_int_ok (oks_cons slices_partitionEqualOrdered_int_ok (oks_cons slices_partitionOrdered_int_ok (oks_cons hg_slices_pdqsortOrdered_int oks_nil))))))))))) Try.call57 Try.func57 (by kernel_rfl) fun x _=>(congrFun (slices_pdqsortOrdered_int_ev g_slices_pdqsortOrdered_int) x).symm
noncomputable def slices_pdqsortOrdered_int_r (a1:Int) (a2:Int) (a3:Int) (a4:(List Int)):Bool × ((List Int)):=let r:=recF slices_pdqsortOrdered_int_e (slices_pdqsortOrdered_int_s) (a1,a2,a3,a4,()); (r.1,(r.2.1))
noncomputable def slices_Sort_int_r (a1:(List Int)):Bool × ((List Int)):=
 let c4:=(bits_Len_r (IntKind.u64.wrap ((a1.length:Int))))
 let c8:=(slices_pdqsortOrdered_int_r (0:Int) (a1.length:Int) c4.2 a1)
 ((c4.1 && c8.1),(c8.2))
def slices_Sort_int_e:Ent:=⟨26,[(0,(.arr (.int .i64) [] false))],[(.own 0 1)],[(0,(.arr (.int .i64) [] false))],[],[]⟩
noncomputable def slices_Sort_int:Fun:=⟨slices_Sort_int_e,fun x=>let r:=slices_Sort_int_r x.1; (r.1,(r.2,()))⟩
theorem slices_Sort_int_ev:evFun Try.prog [bits_Len,slices_pdqsortOrdered_int] [] Try.f26 (codeOf Try.f26) slices_Sort_int_e=(slices_Sort_int).fn:=by kernel_rfl
theorem slices_Sort_int_ok:FunOk Try.prog (slices_Sort_int):=fun_ok (opers_ok (oks_cons bits_Len_ok (oks_cons slices_pdqsortOrdered_int_ok oks_nil))) Try.call26 Try.func26 (by kernel_rfl) fun x _=>(congrFun (slices_Sort_int_ev) x).symm
def slices_pdqsortCmpFunc_api_Known_e:Ent:=⟨59,[(0,(.arr (.row (.prod (.int .i64) (.prod (.int .i64) (.prod (.int .i64) (.prod (.int .i64) .bool))))) [] false))],[(.own 0 5),(.pure (.int .i64) (Ty.dflt _)),(.pure (.int .i64) (Ty.dflt _)),(.pure (.int .i64) (Ty.dflt _)),(.fn 28 (.pure .unit (Ty.dflt _)))],[(0,(.arr (.row (.prod (.int .i64) (.prod (.int .i64) (.prod (.int .i64) (.prod (.int .i64) .bool))))) [] false))],[],[]⟩
noncomputable def slices_insertionSortCmpFunc_api_Known_l1 (a1:Int) (a2:Int) (a3:Unit) (a4:(List (Int × (Int × (Int × (Int × Bool)))))) (s1:HL [.int .i64,(.fl (.row (.prod (.int .i64) (.prod (.int .i64) (.prod (.int .i64) (.prod (.int .i64) .bool))))))]):Bool × Bool × HL [.int .i64,(.fl (.row (.prod (.int .i64) (.prod (.int .i64) (.prod (.int .i64) (.prod (.int .i64) .bool))))))] × HL [.bool,(.fl (.row (.prod (.int .i64) (.prod (.int .i64) (.prod (.int .i64) (.prod (.int .i64) .bool))))))]:=
 let c5:=(decide (s1.1>a1))
 let c7:=(Int.toNat s1.1)
 let c10:=(decide (c7<s1.2.1.length))
 let c11:=((decide ((0:Int)≤s1.1)) && c10)
 let c19:=(cond c5 c5 true)
 let c22:=(IntKind.i64.wrap (s1.1 - (1:Int)))
 let c23:=(decide ((0:Int)≤c22))
 let c24:=(Int.toNat c22)
 let c25:=(decide (c24<s1.2.1.length))
 let c26:=(c23 && c25)
 let c35:=((s1.2.1[c7]?).getD ((0:Int),((0:Int),((0:Int),((0:Int),false)))))
 let c36:=((s1.2.1[c24]?).getD ((0:Int),((0:Int),((0:Int),((0:Int),false)))))
 let c37:=(view_order_r c35 c36)
 let c49:=(cond c5 (decide (c37.2<(0:Int))) false)
 let c55:=(s1.2.1.set c7 c36)
 let c57:=(decide (c24<c55.length))
 ((((((((((cond c5 (c5 && (c5 && c11)) true) && (cond c5 (c5 && c10) true)) && c19) && (cond c5 (c5 && (c5 && c26)) true)) && (cond c5 (c5 && c25) true)) && (cond c5 (c5 && ((c5 && c5) && c37.1)) true)) && c19) && c19) && (cond c49 (((((((c26 && c25) && c11) && c10) && c11) && c10) && (c23 && c57)) && c57) true)),c49,(c22,(c55.set c24 c35),()),((!c49),s1.2.1,()))
noncomputable def slices_insertionSortCmpFunc_api_Known_l0 (a1:Int) (a2:Int) (a3:Unit) (a4:(List (Int × (Int × (Int × (Int × Bool)))))) (s0:HL [.int .i64,(.fl (.row (.prod (.int .i64) (.prod (.int .i64) (.prod (.int .i64) (.prod (.int .i64) .bool))))))]):Bool × Bool × HL [.int .i64,(.fl (.row (.prod (.int .i64) (.prod (.int .i64) (.prod (.int .i64) (.prod (.int .i64) .bool))))))] × HL [.bool,(.fl (.row (.prod (.int .i64) (.prod (.int .i64) (.prod (.int .i64) (.prod (.int .i64) .bool))))))]:=
 let c2:=(decide (s0.1<a2))
 let c66:=(loopD 1 [.int .i64,(.fl (.row (.prod (.int .i64) (.prod (.int .i64) (.prod (.int .i64) (.prod (.int .i64) .bool))))))] [.bool,(.fl (.row (.prod (.int .i64) (.prod (.int .i64) (.prod (.int .i64) (.prod (.int .i64) .bool))))))] (slices_insertionSortCmpFunc_api_Known_l1 a1 a2 a3 a4) (s0.1,s0.2.1,()))
 ((cond c2 c66.1 true),c2,((IntKind.i64.wrap (s0.1+(1:Int))),c66.2.2.1,()),((!c2),s0.2.1,()))
noncomputable def slices_insertionSortCmpFunc_api_Known_r (a1:Int) (a2:Int) (a3:Unit) (a4:(List (Int × (Int × (Int × (Int × Bool)))))):Bool × ((List (Int × (Int × (Int × (Int × Bool)))))):=
 let c74:=(loopD 0 [.int .i64,(.fl (.row (.prod (.int .i64) (.prod (.int .i64) (.prod (.int .i64) (.prod (.int .i64) .bool))))))] [.bool,(.fl (.row (.prod (.int .i64) (.prod (.int .i64) (.prod (.int .i64) (.prod (.int .i64) .bool))))))] (slices_insertionSortCmpFunc_api_Known_l0 a1 a2 a3 a4) ((IntKind.i64.wrap (a1+(1:Int))),a4,()))
 (c74.1,(c74.2.2.1))
def slices_insertionSortCmpFunc_api_Known_e:Ent:=⟨86,[(0,(.arr (.row (.prod (.int .i64) (.prod (.int .i64) (.prod (.int .i64) (.prod (.int .i64) .bool))))) [] false))],[(.own 0 5),(.pure (.int .i64) (Ty.dflt _)),(.pure (.int .i64) (Ty.dflt _)),(.fn 28 (.pure .unit (Ty.dflt _)))],[(0,(.arr (.row (.prod (.int .i64) (.prod (.int .i64) (.prod (.int .i64) (.prod (.int .i64) .bool))))) [] false))],[],[]⟩
noncomputable def slices_insertionSortCmpFunc_api_Known:Fun:=⟨slices_insertionSortCmpFunc_api_Known_e,fun x=>let r:=slices_insertionSortCmpFunc_api_Known_r x.1 x.2.1 x.2.2.1 x.2.2.2.1; (r.1,(r.2,()))⟩
theorem slices_insertionSortCmpFunc_api_Known_ev:evFun Try.prog [view_order] [⟨[8],[0],⟨[],[],0⟩,[],[],[(1,[]),(2,[])],[]⟩,⟨[9],[0],⟨[],[],0⟩,[],[],[(1,[]),(4,[])],[]⟩] Try.f86 (codeOf Try.f86) slices_insertionSortCmpFunc_api_Known_e=(slices_insertionSortCmpFunc_api_Known).fn:=by kernel_rfl
theorem slices_insertionSortCmpFunc_api_Known_ok:FunOk Try.prog (slices_insertionSortCmpFunc_api_Known):=fun_ok (opers_ok (oks_cons view_order_ok oks_nil)) Try.call86 Try.func86 (by kernel_rfl) fun x _=>(congrFun (slices_insertionSortCmpFunc_api_Known_ev) x).symm
noncomputable def slices_siftDownCmpFunc_api_Known_l0 (a1:Int) (a2:Int) (a3:Int) (a4:Unit) (a5:(List (Int × (Int × (Int × (Int × Bool)))))) (s0:HL [.int .i64,(.fl (.row (.prod (.int .i64) (.prod (.int .i64) (.prod (.int .i64) (.prod (.int .i64) .bool))))))]):Bool × Bool × HL [.int .i64,(.fl (.row (.prod (.int .i64) (.prod (.int .i64) (.prod (.int .i64) (.prod (.int .i64) .bool))))))] × HL [.bool,(.fl (.row (.prod (.int .i64) (.prod (.int .i64) (.prod (.int .i64) (.prod (.int .i64) .bool)))))),.bool,(.fl (.row (.prod (.int .i64) (.prod (.int .i64) (.prod (.int .i64) (.prod (.int .i64) .bool))))))]:=
 let c4:=(IntKind.i64.wrap ((IntKind.i64.wrap ((2:Int)*s0.1))+(1:Int)))
 let c6:=(decide (c4≥a2))
 let c7:=(!c6)
 let c8:=(IntKind.i64.wrap (c4+(1:Int)))
 let c9:=(decide (c8<a2))
 let c10:=(c9 && c9)
 let c12:=(cond c9 c10 true)
 let c14:=(IntKind.i64.wrap (a3+c4))
 let c16:=(Int.toNat c14)
 let c19:=(decide (c16<s0.2.1.length))
 let c29:=(cond c9 c9 true)
 let c31:=(IntKind.i64.wrap (c14+(1:Int)))
 let c33:=(Int.toNat c31)
 let c34:=(decide (c33<s0.2.1.length))
 let c45:=(view_order_r ((s0.2.1[c16]?).getD ((0:Int),((0:Int),((0:Int),((0:Int),false))))) ((s0.2.1[c33]?).getD ((0:Int),((0:Int),((0:Int),((0:Int),false))))))
 let c53:=(IntKind.i64.wrap (a3+s0.1))
 let c55:=(Int.toNat c53)
 let c56:=(decide (c55<s0.2.1.length))
 let c57:=((decide ((0:Int)≤c53)) && c56)
 let c64:=(cond (cond c9 (decide (c45.2<(0:Int))) false) c8 c4)
 let c65:=(IntKind.i64.wrap (a3+c64))
 let c66:=(decide ((0:Int)≤c65))
 let c67:=(Int.toNat c65)
 let c68:=(decide (c67<s0.2.1.length))
 let c69:=(c66 && c68)
 let c72:=((s0.2.1[c55]?).getD ((0:Int),((0:Int),((0:Int),((0:Int),false)))))
 let c73:=((s0.2.1[c67]?).getD ((0:Int),((0:Int),((0:Int),((0:Int),false)))))
 let c74:=(view_order_r c72 c73)
 let c79:=(!(decide (c74.2<(0:Int))))
 let c80:=(!c79)
 let c86:=(s0.2.1.set c55 c73)
 let c88:=(decide (c67<c86.length))
 ((cond c7 ((((((((((c12 && (cond c9 (c9 && (c9 && ((decide ((0:Int)≤c14)) && c19))) true)) && (cond c9 (c9 && c19) true)) && c12) && c29) && (cond c9 (c9 && (c9 && ((decide ((0:Int)≤c31)) && c34))) true)) && (cond c9 (c9 && c34) true)) && (cond c9 (c9 && (c10 && c45.1)) true)) && c29) && c29) && (((((c57 && c56) && c69) && c68) && c74.1) && (cond c80 (((((((c69 && c68) && c57) && c56) && c57) && c56) && (c66 && c88)) && c88) true))) true),(c7 && c80),(c64,(c86.set c67 c72),()),((c7 && c79),s0.2.1,c6,s0.2.1,()))
noncomputable def slices_siftDownCmpFunc_api_Known_r (a1:Int) (a2:Int) (a3:Int) (a4:Unit) (a5:(List (Int × (Int × (Int × (Int × Bool)))))):Bool × ((List (Int × (Int × (Int × (Int × Bool)))))):=
 let c101:=(loopD 0 [.int .i64,(.fl (.row (.prod (.int .i64) (.prod (.int .i64) (.prod (.int .i64) (.prod (.int .i64) .bool))))))] [.bool,(.fl (.row (.prod (.int .i64) (.prod (.int .i64) (.prod (.int .i64) (.prod (.int .i64) .bool)))))),.bool,(.fl (.row (.prod (.int .i64) (.prod (.int .i64) (.prod (.int .i64) (.prod (.int .i64) .bool))))))] (slices_siftDownCmpFunc_api_Known_l0 a1 a2 a3 a4 a5) (a1,a5,()))
 (c101.1,((cond c101.2.2.2.1 c101.2.2.2.2.1 c101.2.2.1)))
def slices_siftDownCmpFunc_api_Known_e:Ent:=⟨105,[(0,(.arr (.row (.prod (.int .i64) (.prod (.int .i64) (.prod (.int .i64) (.prod (.int .i64) .bool))))) [] false))],[(.own 0 5),(.pure (.int .i64) (Ty.dflt _)),(.pure (.int .i64) (Ty.dflt _)),(.pure (.int .i64) (Ty.dflt _)),(.fn 28 (.pure .unit (Ty.dflt _)))],[(0,(.arr (.row (.prod (.int .i64) (.prod (.int .i64) (.prod (.int .i64) (.prod (.int .i64) .bool))))) [] false))],[],[]⟩
noncomputable def slices_siftDownCmpFunc_api_Known:Fun:=⟨slices_siftDownCmpFunc_api_Known_e,fun x=>let r:=slices_siftDownCmpFunc_api_Known_r x.1 x.2.1 x.2.2.1 x.2.2.2.1 x.2.2.2.2.1; (r.1,(r.2,()))⟩
theorem slices_siftDownCmpFunc_api_Known_ev:evFun Try.prog [view_order] [⟨[10],[0],⟨[],[],0⟩,[],[],[(1,[]),(2,[])],[]⟩] Try.f105 (codeOf Try.f105) slices_siftDownCmpFunc_api_Known_e=(slices_siftDownCmpFunc_api_Known).fn:=by kernel_rfl
theorem slices_siftDownCmpFunc_api_Known_ok:FunOk Try.prog (slices_siftDownCmpFunc_api_Known):=fun_ok (opers_ok (oks_cons view_order_ok oks_nil)) Try.call105 Try.func105 (by kernel_rfl) fun x _=>(congrFun (slices_siftDownCmpFunc_api_Known_ev) x).symm
noncomputable def slices_heapSortCmpFunc_api_Known_l0 (a1:Int) (a2:Int) (a3:Unit) (a4:(List (Int × (Int × (Int × (Int × Bool)))))) (s0:HL [.int .i64,(.fl (.row (.prod (.int .i64) (.prod (.int .i64) (.prod (.int .i64) (.prod (.int .i64) .bool))))))]):Bool × Bool × HL [.int .i64,(.fl (.row (.prod (.int .i64) (.prod (.int .i64) (.prod (.int .i64) (.prod (.int .i64) .bool))))))] × HL [.bool,(.fl (.row (.prod (.int .i64) (.prod (.int .i64) (.prod (.int .i64) (.prod (.int .i64) .bool))))))]:=
 let c4:=(decide (s0.1≥(0:Int)))
 let c7:=(IntKind.i64.wrap (a2 - a1))
 let c10:=(slices_siftDownCmpFunc_api_Known_r s0.1 c7 a1 a3 s0.2.1)
 ((cond c4 c10.1 true),c4,((IntKind.i64.wrap (s0.1 - (1:Int))),c10.2,()),((!c4),s0.2.1,()))
noncomputable def slices_heapSortCmpFunc_api_Known_l1 (a1:Int) (a2:Int) (a3:Unit) (a4:(List (Int × (Int × (Int × (Int × Bool)))))) (s1:HL [.int .i64,(.fl (.row (.prod (.int .i64) (.prod (.int .i64) (.prod (.int .i64) (.prod (.int .i64) .bool))))))]):Bool × Bool × HL [.int .i64,(.fl (.row (.prod (.int .i64) (.prod (.int .i64) (.prod (.int .i64) (.prod (.int .i64) .bool))))))] × HL [.bool,(.fl (.row (.prod (.int .i64) (.prod (.int .i64) (.prod (.int .i64) (.prod (.int .i64) .bool))))))]:=
 let c25:=(decide (s1.1≥(0:Int)))
 let c26:=(IntKind.i64.wrap (a1+s1.1))
 let c27:=(decide ((0:Int)≤c26))
 let c28:=(Int.toNat c26)
 let c31:=(decide (c28<s1.2.1.length))
 let c35:=(Int.toNat a1)
 let c36:=(decide (c35<s1.2.1.length))
 let c37:=((decide ((0:Int)≤a1)) && c36)
 let c43:=(s1.2.1.set c35 ((s1.2.1[c28]?).getD ((0:Int),((0:Int),((0:Int),((0:Int),false))))))
 let c45:=(decide (c28<c43.length))
 let c51:=(slices_siftDownCmpFunc_api_Known_r (0:Int) s1.1 a1 a3 (c43.set c28 ((s1.2.1[c35]?).getD ((0:Int),((0:Int),((0:Int),((0:Int),false)))))))
 ((cond c25 (((((((((c27 && c31) && c31) && c37) && c36) && c37) && c36) && (c27 && c45)) && c45) && c51.1) true),c25,((IntKind.i64.wrap (s1.1 - (1:Int))),c51.2,()),((!c25),s1.2.1,()))
noncomputable def slices_heapSortCmpFunc_api_Known_r (a1:Int) (a2:Int) (a3:Unit) (a4:(List (Int × (Int × (Int × (Int × Bool)))))):Bool × ((List (Int × (Int × (Int × (Int × Bool)))))):=
 let c7:=(IntKind.i64.wrap (a2 - a1))
 let c18:=(IntKind.i64.wrap (c7 - (1:Int)))
 let c21:=(loopD 0 [.int .i64,(.fl (.row (.prod (.int .i64) (.prod (.int .i64) (.prod (.int .i64) (.prod (.int .i64) .bool))))))] [.bool,(.fl (.row (.prod (.int .i64) (.prod (.int .i64) (.prod (.int .i64) (.prod (.int .i64) .bool))))))] (slices_heapSortCmpFunc_api_Known_l0 a1 a2 a3 a4) ((IntKind.i64.wrap (Int.tdiv c18 (2:Int))),a4,()))
 let c59:=(loopD 1 [.int .i64,(.fl (.row (.prod (.int .i64) (.prod (.int .i64) (.prod (.int .i64) (.prod (.int .i64) .bool))))))] [.bool,(.fl (.row (.prod (.int .i64) (.prod (.int .i64) (.prod (.int .i64) (.prod (.int .i64) .bool))))))] (slices_heapSortCmpFunc_api_Known_l1 a1 a2 a3 a4) (c18,c21.2.2.1,()))
 (((((2:Int) !=(0:Int)) && c21.1) && c59.1),(c59.2.2.1))
def slices_heapSortCmpFunc_api_Known_e:Ent:=⟨87,[(0,(.arr (.row (.prod (.int .i64) (.prod (.int .i64) (.prod (.int .i64) (.prod (.int .i64) .bool))))) [] false))],[(.own 0 5),(.pure (.int .i64) (Ty.dflt _)),(.pure (.int .i64) (Ty.dflt _)),(.fn 28 (.pure .unit (Ty.dflt _)))],[(0,(.arr (.row (.prod (.int .i64) (.prod (.int .i64) (.prod (.int .i64) (.prod (.int .i64) .bool))))) [] false))],[],[]⟩
noncomputable def slices_heapSortCmpFunc_api_Known:Fun:=⟨slices_heapSortCmpFunc_api_Known_e,fun x=>let r:=slices_heapSortCmpFunc_api_Known_r x.1 x.2.1 x.2.2.1 x.2.2.2.1; (r.1,(r.2,()))⟩
theorem slices_heapSortCmpFunc_api_Known_ev:evFun Try.prog [slices_siftDownCmpFunc_api_Known] [⟨[11],[0],⟨[],[],0⟩,[],[],[(1,[]),(2,[])],[]⟩,⟨[12],[0],⟨[],[],0⟩,[],[],[(1,[]),(4,[])],[]⟩] Try.f87 (codeOf Try.f87) slices_heapSortCmpFunc_api_Known_e=(slices_heapSortCmpFunc_api_Known).fn:=by kernel_rfl
theorem slices_heapSortCmpFunc_api_Known_ok:FunOk Try.prog (slices_heapSortCmpFunc_api_Known):=fun_ok (opers_ok (oks_cons slices_siftDownCmpFunc_api_Known_ok oks_nil)) Try.call87 Try.func87 (by kernel_rfl) fun x _=>(congrFun (slices_heapSortCmpFunc_api_Known_ev) x).symm
noncomputable def slices_breakPatternsCmpFunc_api_Known_l0 (a1:Int) (a2:Int) (a3:Unit) (a4:(List (Int × (Int × (Int × (Int × Bool)))))) (s0:HL [.int .i64,(.fl (.row (.prod (.int .i64) (.prod (.int .i64) (.prod (.int .i64) (.prod (.int .i64) .bool)))))),.int .u64]):Bool × Bool × HL [.int .i64,(.fl (.row (.prod (.int .i64) (.prod (.int .i64) (.prod (.int .i64) (.prod (.int .i64) .bool)))))),.int .u64] × HL [.bool,(.fl (.row (.prod (.int .i64) (.prod (.int .i64) (.prod (.int .i64) (.prod (.int .i64) .bool)))))),.int .u64]:=
 let c2:=(IntKind.i64.wrap (a2 - a1))
 let c5:=(slices_nextPowerOfTwo_r c2)
 let c8:=((4:Int) !=(0:Int))
 let c13:=(IntKind.i64.wrap (a1+(IntKind.i64.wrap ((IntKind.i64.wrap (Int.tdiv c2 (4:Int)))*(2:Int)))))
 let c16:=(decide (s0.1≤(IntKind.i64.wrap (c13+(1:Int)))))
 let c18:=(__slices_xorshift__Next_r s0.2.2.1)
 let c24:=(IntKind.i64.wrap ((iBand .u64 c18.2.1 (IntKind.u64.wrap (c5.2 - (1:Int))))))
 let c28:=(IntKind.i64.wrap (a1+(cond (decide (c24≥c2)) (IntKind.i64.wrap (c24 - c2)) c24)))
 let c29:=(decide ((0:Int)≤c28))
 let c30:=(Int.toNat c28)
 let c33:=(decide (c30<s0.2.1.length))
 let c37:=(Int.toNat s0.1)
 let c38:=(decide (c37<s0.2.1.length))
 let c39:=((decide ((0:Int)≤s0.1)) && c38)
 let c45:=(s0.2.1.set c37 ((s0.2.1[c30]?).getD ((0:Int),((0:Int),((0:Int),((0:Int),false))))))
 let c47:=(decide (c30<c45.length))
 ((c8 && (cond c16 (c18.1 && ((((((((c29 && c33) && c33) && c39) && c38) && c39) && c38) && (c29 && c47)) && c47)) true)),c16,((IntKind.i64.wrap (s0.1+(1:Int))),(c45.set c30 ((s0.2.1[c37]?).getD ((0:Int),((0:Int),((0:Int),((0:Int),false)))))),c18.2.2,()),((!c16),s0.2.1,s0.2.2.1,()))
noncomputable def slices_breakPatternsCmpFunc_api_Known_r (a1:Int) (a2:Int) (a3:Unit) (a4:(List (Int × (Int × (Int × (Int × Bool)))))):Bool × ((List (Int × (Int × (Int × (Int × Bool)))))):=
 let c2:=(IntKind.i64.wrap (a2 - a1))
 let c4:=(decide (c2≥(8:Int)))
 let c5:=(slices_nextPowerOfTwo_r c2)
 let c8:=((4:Int) !=(0:Int))
 let c13:=(IntKind.i64.wrap (a1+(IntKind.i64.wrap ((IntKind.i64.wrap (Int.tdiv c2 (4:Int)))*(2:Int)))))
 let c63:=(loopD 0 [.int .i64,(.fl (.row (.prod (.int .i64) (.prod (.int .i64) (.prod (.int .i64) (.prod (.int .i64) .bool)))))),.int .u64] [.bool,(.fl (.row (.prod (.int .i64) (.prod (.int .i64) (.prod (.int .i64) (.prod (.int .i64) .bool)))))),.int .u64] (slices_breakPatternsCmpFunc_api_Known_l0 a1 a2 a3 a4) ((IntKind.i64.wrap (c13 - (1:Int))),a4,(IntKind.u64.wrap (c2)),()))
 ((cond c4 (c5.1 && (c8 && c63.1)) true),((cond c4 c63.2.2.1 a4)))
def slices_breakPatternsCmpFunc_api_Known_e:Ent:=⟨88,[(0,(.arr (.row (.prod (.int .i64) (.prod (.int .i64) (.prod (.int .i64) (.prod (.int .i64) .bool))))) [] false))],[(.own 0 5),(.pure (.int .i64) (Ty.dflt _)),(.pure (.int .i64) (Ty.dflt _)),(.fn 28 (.pure .unit (Ty.dflt _)))],[(0,(.arr (.row (.prod (.int .i64) (.prod (.int .i64) (.prod (.int .i64) (.prod (.int .i64) .bool))))) [] false))],[],[]⟩
noncomputable def slices_breakPatternsCmpFunc_api_Known:Fun:=⟨slices_breakPatternsCmpFunc_api_Known_e,fun x=>let r:=slices_breakPatternsCmpFunc_api_Known_r x.1 x.2.1 x.2.2.1 x.2.2.2.1; (r.1,(r.2,()))⟩
theorem slices_breakPatternsCmpFunc_api_Known_ev:evFun Try.prog [slices_nextPowerOfTwo,__slices_xorshift__Next] [⟨[11],[0,513],⟨[],[],0⟩,[],[],[(1,[]),(2,[])],[]⟩] Try.f88 (codeOf Try.f88) slices_breakPatternsCmpFunc_api_Known_e=(slices_breakPatternsCmpFunc_api_Known).fn:=by kernel_rfl
theorem slices_breakPatternsCmpFunc_api_Known_ok:FunOk Try.prog (slices_breakPatternsCmpFunc_api_Known):=fun_ok (opers_ok (oks_cons slices_nextPowerOfTwo_ok (oks_cons __slices_xorshift__Next_ok oks_nil))) Try.call88 Try.func88 (by kernel_rfl) fun x _=>(congrFun (slices_breakPatternsCmpFunc_api_Known_ev) x).symm
noncomputable def slices_order2CmpFunc_api_Known_r (a1:Int) (a2:Int) (a3:Unit) (a4:(List (Int × (Int × (Int × (Int × Bool)))))) (a5:Int):Bool × (Int × Int × Int):=
 let c2:=(Int.toNat a2)
 let c5:=(decide (c2<a4.length))
 let c10:=(Int.toNat a1)
 let c11:=(decide (c10<a4.length))
 let c17:=(view_order_r ((a4[c2]?).getD ((0:Int),((0:Int),((0:Int),((0:Int),false))))) ((a4[c10]?).getD ((0:Int),((0:Int),((0:Int),((0:Int),false))))))
 let c23:=(!(decide (c17.2<(0:Int))))
 (((((((decide ((0:Int)≤a2)) && c5) && c5) && ((decide ((0:Int)≤a1)) && c11)) && c11) && c17.1),((cond c23 a1 a2),(cond c23 a2 a1),(cond c23 a5 (IntKind.i64.wrap (a5+(1:Int))))))
def slices_order2CmpFunc_api_Known_e:Ent:=⟨110,[(0,(.arr (.row (.prod (.int .i64) (.prod (.int .i64) (.prod (.int .i64) (.prod (.int .i64) .bool))))) [] false)),(1,(.var 3 (.pure (.int .i64) (Ty.dflt _))))],[(.own 0 5),(.pure (.int .i64) (Ty.dflt _)),(.pure (.int .i64) (Ty.dflt _)),(.ptr 1 []),(.fn 28 (.pure .unit (Ty.dflt _)))],[(1,(.var 3 (.pure (.int .i64) (Ty.dflt _))))],[(.pure (.int .i64) (Ty.dflt _)),(.pure (.int .i64) (Ty.dflt _))],[0]⟩
noncomputable def slices_order2CmpFunc_api_Known:Fun:=⟨slices_order2CmpFunc_api_Known_e,fun x=>let r:=slices_order2CmpFunc_api_Known_r x.1 x.2.1 x.2.2.1 x.2.2.2.1 x.2.2.2.2.1; (r.1,(r.2.1,r.2.2.1,r.2.2.2,()))⟩
theorem slices_order2CmpFunc_api_Known_ev:evFun Try.prog [view_order] [] Try.f110 (codeOf Try.f110) slices_order2CmpFunc_api_Known_e=(slices_order2CmpFunc_api_Known).fn:=by kernel_rfl
theorem slices_order2CmpFunc_api_Known_ok:FunOk Try.prog (slices_order2CmpFunc_api_Known):=fun_ok (opers_ok (oks_cons view_order_ok oks_nil)) Try.call110 Try.func110 (by kernel_rfl) fun x _=>(congrFun (slices_order2CmpFunc_api_Known_ev) x).symm
noncomputable def slices_medianCmpFunc_api_Known_r (a1:Int) (a2:Int) (a3:Int) (a4:Unit) (a5:(List (Int × (Int × (Int × (Int × Bool)))))) (a6:Int):Bool × (Int × Int):=
 let c5:=(slices_order2CmpFunc_api_Known_r a1 a2 a4 a5 a6)
 let c10:=(slices_order2CmpFunc_api_Known_r c5.2.2.1 a3 a4 a5 c5.2.2.2)
 let c15:=(slices_order2CmpFunc_api_Known_r c5.2.1 c10.2.1 a4 a5 c10.2.2.2)
 ((c5.1 && (c10.1 && c15.1)),(c15.2.2.1,c15.2.2.2))
def slices_medianCmpFunc_api_Known_e:Ent:=⟨107,[(0,(.arr (.row (.prod (.int .i64) (.prod (.int .i64) (.prod (.int .i64) (.prod (.int .i64) .bool))))) [] false)),(1,(.var 3 (.pure (.int .i64) (Ty.dflt _))))],[(.own 0 5),(.pure (.int .i64) (Ty.dflt _)),(.pure (.int .i64) (Ty.dflt _)),(.pure (.int .i64) (Ty.dflt _)),(.ptr 1 []),(.fn 28 (.pure .unit (Ty.dflt _)))],[(1,(.var 3 (.pure (.int .i64) (Ty.dflt _))))],[(.pure (.int .i64) (Ty.dflt _))],[0]⟩
noncomputable def slices_medianCmpFunc_api_Known:Fun:=⟨slices_medianCmpFunc_api_Known_e,fun x=>let r:=slices_medianCmpFunc_api_Known_r x.1 x.2.1 x.2.2.1 x.2.2.2.1 x.2.2.2.2.1 x.2.2.2.2.2.1; (r.1,(r.2.1,r.2.2,()))⟩
theorem slices_medianCmpFunc_api_Known_ev:evFun Try.prog [slices_order2CmpFunc_api_Known] [] Try.f107 (codeOf Try.f107) slices_medianCmpFunc_api_Known_e=(slices_medianCmpFunc_api_Known).fn:=by kernel_rfl
theorem slices_medianCmpFunc_api_Known_ok:FunOk Try.prog (slices_medianCmpFunc_api_Known):=fun_ok (opers_ok (oks_cons slices_order2CmpFunc_api_Known_ok oks_nil)) Try.call107 Try.func107 (by kernel_rfl) fun x _=>(congrFun (slices_medianCmpFunc_api_Known_ev) x).symm
noncomputable def slices_medianAdjacentCmpFunc_api_Known_r (a1:Int) (a2:Unit) (a3:(List (Int × (Int × (Int × (Int × Bool)))))) (a4:Int):Bool × (Int × Int):=
 let c7:=(slices_medianCmpFunc_api_Known_r (IntKind.i64.wrap (a1 - (1:Int))) a1 (IntKind.i64.wrap (a1+(1:Int))) a2 a3 a4)
 (c7.1,(c7.2.1,c7.2.2))
def slices_medianAdjacentCmpFunc_api_Known_e:Ent:=⟨106,[(0,(.arr (.row (.prod (.int .i64) (.prod (.int .i64) (.prod (.int .i64) (.prod (.int .i64) .bool))))) [] false)),(1,(.var 3 (.pure (.int .i64) (Ty.dflt _))))],[(.own 0 5),(.pure (.int .i64) (Ty.dflt _)),(.ptr 1 []),(.fn 28 (.pure .unit (Ty.dflt _)))],[(1,(.var 3 (.pure (.int .i64) (Ty.dflt _))))],[(.pure (.int .i64) (Ty.dflt _))],[0]⟩
noncomputable def slices_medianAdjacentCmpFunc_api_Known:Fun:=⟨slices_medianAdjacentCmpFunc_api_Known_e,fun x=>let r:=slices_medianAdjacentCmpFunc_api_Known_r x.1 x.2.1 x.2.2.1 x.2.2.2.1; (r.1,(r.2.1,r.2.2,()))⟩
theorem slices_medianAdjacentCmpFunc_api_Known_ev:evFun Try.prog [slices_medianCmpFunc_api_Known] [] Try.f106 (codeOf Try.f106) slices_medianAdjacentCmpFunc_api_Known_e=(slices_medianAdjacentCmpFunc_api_Known).fn:=by kernel_rfl
theorem slices_medianAdjacentCmpFunc_api_Known_ok:FunOk Try.prog (slices_medianAdjacentCmpFunc_api_Known):=fun_ok (opers_ok (oks_cons slices_medianCmpFunc_api_Known_ok oks_nil)) Try.call106 Try.func106 (by kernel_rfl) fun x _=>(congrFun (slices_medianAdjacentCmpFunc_api_Known_ev) x).symm
noncomputable def slices_choosePivotCmpFunc_api_Known_r (a1:Int) (a2:Int) (a3:Unit) (a4:(List (Int × (Int × (Int × (Int × Bool)))))):Bool × (Int × Int):=
 let c1:=((4:Int) !=(0:Int))
 let c4:=(IntKind.i64.wrap (a2 - a1))
 let c6:=(decide (c4≥(8:Int)))
 let c8:=(decide (c4≥(50:Int)))
 let c9:=(IntKind.i64.wrap (Int.tdiv c4 (4:Int)))
 let c12:=(IntKind.i64.wrap (a1+(IntKind.i64.wrap (c9*(1:Int)))))
 let c16:=(slices_medianAdjacentCmpFunc_api_Known_r c12 a3 a4 (0:Int))
 let c20:=(IntKind.i64.wrap (a1+(IntKind.i64.wrap (c9*(2:Int)))))
 let c22:=(slices_medianAdjacentCmpFunc_api_Known_r c20 a3 a4 c16.2.2)
 let c26:=(IntKind.i64.wrap (a1+(IntKind.i64.wrap (c9*(3:Int)))))
 let c28:=(slices_medianAdjacentCmpFunc_api_Known_r c26 a3 a4 c22.2.2)
 let c42:=(slices_medianCmpFunc_api_Known_r (cond c8 c16.2.1 c12) (cond c8 c22.2.1 c20) (cond c8 c28.2.1 c26) a3 a4 (cond c8 c28.2.2 (0:Int)))
 let c50:=(cond c6 c42.2.2 (0:Int))
 let c51:=(c50==(0:Int))
 let c53:=(cond c6 c42.2.1 c20)
 let c55:=(c50==(12:Int))
 ((c1 && (c1 && (c1 && (cond c6 ((cond c8 (c16.1 && (c22.1 && c28.1)) true) && c42.1) true)))),((cond c51 c53 (cond c55 c53 c53)),(cond c51 (1:Int) (cond c55 (2:Int) (0:Int)))))
def slices_choosePivotCmpFunc_api_Known_e:Ent:=⟨89,[(0,(.arr (.row (.prod (.int .i64) (.prod (.int .i64) (.prod (.int .i64) (.prod (.int .i64) .bool))))) [] false))],[(.own 0 5),(.pure (.int .i64) (Ty.dflt _)),(.pure (.int .i64) (Ty.dflt _)),(.fn 28 (.pure .unit (Ty.dflt _)))],[],[(.pure (.int .i64) (Ty.dflt _)),(.pure (.int .i64) (Ty.dflt _))],[0]⟩
noncomputable def slices_choosePivotCmpFunc_api_Known:Fun:=⟨slices_choosePivotCmpFunc_api_Known_e,fun x=>let r:=slices_choosePivotCmpFunc_api_Known_r x.1 x.2.1 x.2.2.1 x.2.2.2.1; (r.1,(r.2.1,r.2.2,()))⟩
theorem slices_choosePivotCmpFunc_api_Known_ev:evFun Try.prog [slices_medianAdjacentCmpFunc_api_Known,slices_medianCmpFunc_api_Known] [⟨[],[],⟨[],[],0⟩,[],[],[],[(1000003,([12,13,14],[]))]⟩] Try.f89 (codeOf Try.f89) slices_choosePivotCmpFunc_api_Known_e=(slices_choosePivotCmpFunc_api_Known).fn:=by kernel_rfl
theorem slices_choosePivotCmpFunc_api_Known_ok:FunOk Try.prog (slices_choosePivotCmpFunc_api_Known):=fun_ok (opers_ok (oks_cons slices_medianAdjacentCmpFunc_api_Known_ok (oks_cons slices_medianCmpFunc_api_Known_ok oks_nil))) Try.call89 Try.func89 (by kernel_rfl) fun x _=>(congrFun (slices_choosePivotCmpFunc_api_Known_ev) x).symm
noncomputable def slices_reverseRangeCmpFunc_api_Known_l0 (a1:Int) (a2:Int) (a3:Unit) (a4:(List (Int × (Int × (Int × (Int × Bool)))))) (s0:HL [.int .i64,.int .i64,(.fl (.row (.prod (.int .i64) (.prod (.int .i64) (.prod (.int .i64) (.prod (.int .i64) .bool))))))]):Bool × Bool × HL [.int .i64,.int .i64,(.fl (.row (.prod (.int .i64) (.prod (.int .i64) (.prod (.int .i64) (.prod (.int .i64) .bool))))))] × HL [.bool,(.fl (.row (.prod (.int .i64) (.prod (.int .i64) (.prod (.int .i64) (.prod (.int .i64) .bool))))))]:=
 let c2:=(decide (s0.2.1<s0.1))
 let c3:=(decide ((0:Int)≤s0.1))
 let c4:=(Int.toNat s0.1)
 let c7:=(decide (c4<s0.2.2.1.length))
 let c11:=(Int.toNat s0.2.1)
 let c12:=(decide (c11<s0.2.2.1.length))
 let c13:=((decide ((0:Int)≤s0.2.1)) && c12)
 let c19:=(s0.2.2.1.set c11 ((s0.2.2.1[c4]?).getD ((0:Int),((0:Int),((0:Int),((0:Int),false))))))
 let c21:=(decide (c4<c19.length))
 ((cond c2 ((((((((c3 && c7) && c7) && c13) && c12) && c13) && c12) && (c3 && c21)) && c21) true),c2,((IntKind.i64.wrap (s0.1 - (1:Int))),(IntKind.i64.wrap (s0.2.1+(1:Int))),(c19.set c4 ((s0.2.2.1[c11]?).getD ((0:Int),((0:Int),((0:Int),((0:Int),false)))))),()),((!c2),s0.2.2.1,()))
noncomputable def slices_reverseRangeCmpFunc_api_Known_r (a1:Int) (a2:Int) (a3:Unit) (a4:(List (Int × (Int × (Int × (Int × Bool)))))):Bool × ((List (Int × (Int × (Int × (Int × Bool)))))):=
 let c37:=(loopD 0 [.int .i64,.int .i64,(.fl (.row (.prod (.int .i64) (.prod (.int .i64) (.prod (.int .i64) (.prod (.int .i64) .bool))))))] [.bool,(.fl (.row (.prod (.int .i64) (.prod (.int .i64) (.prod (.int .i64) (.prod (.int .i64) .bool))))))] (slices_reverseRangeCmpFunc_api_Known_l0 a1 a2 a3 a4) ((IntKind.i64.wrap (a2 - (1:Int))),a1,a4,()))
 (c37.1,(c37.2.2.1))
def slices_reverseRangeCmpFunc_api_Known_e:Ent:=⟨90,[(0,(.arr (.row (.prod (.int .i64) (.prod (.int .i64) (.prod (.int .i64) (.prod (.int .i64) .bool))))) [] false))],[(.own 0 5),(.pure (.int .i64) (Ty.dflt _)),(.pure (.int .i64) (Ty.dflt _)),(.fn 28 (.pure .unit (Ty.dflt _)))],[(0,(.arr (.row (.prod (.int .i64) (.prod (.int .i64) (.prod (.int .i64) (.prod (.int .i64) .bool))))) [] false))],[],[]⟩
noncomputable def slices_reverseRangeCmpFunc_api_Known:Fun:=⟨slices_reverseRangeCmpFunc_api_Known_e,fun x=>let r:=slices_reverseRangeCmpFunc_api_Known_r x.1 x.2.1 x.2.2.1 x.2.2.2.1; (r.1,(r.2,()))⟩
theorem slices_reverseRangeCmpFunc_api_Known_ev:evFun Try.prog [] [⟨[9,8],[0],⟨[],[],0⟩,[],[],[(1,[]),(2,[])],[]⟩] Try.f90 (codeOf Try.f90) slices_reverseRangeCmpFunc_api_Known_e=(slices_reverseRangeCmpFunc_api_Known).fn:=by kernel_rfl
theorem slices_reverseRangeCmpFunc_api_Known_ok:FunOk Try.prog (slices_reverseRangeCmpFunc_api_Known):=fun_ok (opers_ok oks_nil) Try.call90 Try.func90 (by kernel_rfl) fun x _=>(congrFun (slices_reverseRangeCmpFunc_api_Known_ev) x).symm
noncomputable def slices_partialInsertionSortCmpFunc_api_Known_l1 (a1:Int) (a2:Int) (a3:Unit) (a4:(List (Int × (Int × (Int × (Int × Bool)))))) (s0:HL [.int .i64,.int .i64,(.fl (.row (.prod (.int .i64) (.prod (.int .i64) (.prod (.int .i64) (.prod (.int .i64) .bool))))))]) (s1:HL [.int .i64]):Bool × Bool × HL [.int .i64] × HL [.bool,.int .i64]:=
 let c5:=(decide (s1.1<a2))
 let c7:=(Int.toNat s1.1)
 let c10:=(decide (c7<s0.2.2.1.length))
 let c19:=(cond c5 c5 true)
 let c22:=(IntKind.i64.wrap (s1.1 - (1:Int)))
 let c24:=(Int.toNat c22)
 let c25:=(decide (c24<s0.2.2.1.length))
 let c37:=(view_order_r ((s0.2.2.1[c7]?).getD ((0:Int),((0:Int),((0:Int),((0:Int),false))))) ((s0.2.2.1[c24]?).getD ((0:Int),((0:Int),((0:Int),((0:Int),false))))))
 let c51:=(cond c5 (!(decide (c37.2<(0:Int)))) false)
 ((((((((((cond c5 (c5 && (c5 && ((decide ((0:Int)≤s1.1)) && c10))) true) && (cond c5 (c5 && c10) true)) && c19) && (cond c5 (c5 && (c5 && ((decide ((0:Int)≤c22)) && c25))) true)) && (cond c5 (c5 && c25) true)) && (cond c5 (c5 && ((c5 && c5) && c37.1)) true)) && c19) && c19) && c19),c51,((IntKind.i64.wrap (s1.1+(1:Int))),()),((!c51),s1.1,()))
noncomputable def slices_partialInsertionSortCmpFunc_api_Known_l2 (a1:Int) (a2:Int) (a3:Unit) (a4:(List (Int × (Int × (Int × (Int × Bool)))))) (s2:HL [.int .i64,(.fl (.row (.prod (.int .i64) (.prod (.int .i64) (.prod (.int .i64) (.prod (.int .i64) .bool))))))]):Bool × Bool × HL [.int .i64,(.fl (.row (.prod (.int .i64) (.prod (.int .i64) (.prod (.int .i64) (.prod (.int .i64) .bool))))))] × HL [.bool,(.fl (.row (.prod (.int .i64) (.prod (.int .i64) (.prod (.int .i64) (.prod (.int .i64) .bool))))))]:=
 let c90:=(decide (s2.1≥(1:Int)))
 let c92:=(Int.toNat s2.1)
 let c95:=(decide (c92<s2.2.1.length))
 let c96:=((decide ((0:Int)≤s2.1)) && c95)
 let c98:=(IntKind.i64.wrap (s2.1 - (1:Int)))
 let c99:=(decide ((0:Int)≤c98))
 let c100:=(Int.toNat c98)
 let c101:=(decide (c100<s2.2.1.length))
 let c102:=(c99 && c101)
 let c105:=((s2.2.1[c92]?).getD ((0:Int),((0:Int),((0:Int),((0:Int),false)))))
 let c106:=((s2.2.1[c100]?).getD ((0:Int),((0:Int),((0:Int),((0:Int),false)))))
 let c107:=(view_order_r c105 c106)
 let c112:=(!(decide (c107.2<(0:Int))))
 let c113:=(!c112)
 let c119:=(s2.2.1.set c92 c106)
 let c121:=(decide (c100<c119.length))
 ((cond c90 (((((c96 && c95) && c102) && c101) && c107.1) && (cond c113 (((((((c102 && c101) && c96) && c95) && c96) && c95) && (c99 && c121)) && c121) true)) true),(c90 && c113),(c98,(c119.set c100 c105),()),((cond c90 c112 (!c90)),s2.2.1,()))
noncomputable def slices_partialInsertionSortCmpFunc_api_Known_l3 (a1:Int) (a2:Int) (a3:Unit) (a4:(List (Int × (Int × (Int × (Int × Bool)))))) (s3:HL [.int .i64,(.fl (.row (.prod (.int .i64) (.prod (.int .i64) (.prod (.int .i64) (.prod (.int .i64) .bool))))))]):Bool × Bool × HL [.int .i64,(.fl (.row (.prod (.int .i64) (.prod (.int .i64) (.prod (.int .i64) (.prod (.int .i64) .bool))))))] × HL [.bool,(.fl (.row (.prod (.int .i64) (.prod (.int .i64) (.prod (.int .i64) (.prod (.int .i64) .bool))))))]:=
 let c140:=(decide (s3.1<a2))
 let c142:=(Int.toNat s3.1)
 let c145:=(decide (c142<s3.2.1.length))
 let c146:=((decide ((0:Int)≤s3.1)) && c145)
 let c148:=(IntKind.i64.wrap (s3.1 - (1:Int)))
 let c149:=(decide ((0:Int)≤c148))
 let c150:=(Int.toNat c148)
 let c151:=(decide (c150<s3.2.1.length))
 let c152:=(c149 && c151)
 let c155:=((s3.2.1[c142]?).getD ((0:Int),((0:Int),((0:Int),((0:Int),false)))))
 let c156:=((s3.2.1[c150]?).getD ((0:Int),((0:Int),((0:Int),((0:Int),false)))))
 let c157:=(view_order_r c155 c156)
 let c162:=(!(decide (c157.2<(0:Int))))
 let c163:=(!c162)
 let c169:=(s3.2.1.set c142 c156)
 let c171:=(decide (c150<c169.length))
 ((cond c140 (((((c146 && c145) && c152) && c151) && c157.1) && (cond c163 (((((((c152 && c151) && c146) && c145) && c146) && c145) && (c149 && c171)) && c171) true)) true),(c140 && c163),((IntKind.i64.wrap (s3.1+(1:Int))),(c169.set c150 c155),()),((cond c140 c162 (!c140)),s3.2.1,()))
noncomputable def slices_partialInsertionSortCmpFunc_api_Known_l0 (a1:Int) (a2:Int) (a3:Unit) (a4:(List (Int × (Int × (Int × (Int × Bool)))))) (s0:HL [.int .i64,.int .i64,(.fl (.row (.prod (.int .i64) (.prod (.int .i64) (.prod (.int .i64) (.prod (.int .i64) .bool))))))]):Bool × Bool × HL [.int .i64,.int .i64,(.fl (.row (.prod (.int .i64) (.prod (.int .i64) (.prod (.int .i64) (.prod (.int .i64) .bool))))))] × HL [.bool,.bool,(.fl (.row (.prod (.int .i64) (.prod (.int .i64) (.prod (.int .i64) (.prod (.int .i64) .bool)))))),.bool,(.fl (.row (.prod (.int .i64) (.prod (.int .i64) (.prod (.int .i64) (.prod (.int .i64) .bool))))))]:=
 let c2:=(decide (s0.2.1<(5:Int)))
 let c55:=(loopD 1 [.int .i64] [.bool,.int .i64] (slices_partialInsertionSortCmpFunc_api_Known_l1 a1 a2 a3 a4 s0) (s0.1,()))
 let c57:=c55.2.2.1
 let c58:=(c57==a2)
 let c59:=(!c58)
 let c63:=(decide ((IntKind.i64.wrap (a2 - a1))<(50:Int)))
 let c64:=(!c63)
 let c65:=(IntKind.i64.wrap (c57 - (1:Int)))
 let c66:=(decide ((0:Int)≤c65))
 let c67:=(Int.toNat c65)
 let c68:=(decide (c67<s0.2.2.1.length))
 let c72:=(Int.toNat c57)
 let c73:=(decide (c72<s0.2.2.1.length))
 let c74:=((decide ((0:Int)≤c57)) && c73)
 let c80:=(s0.2.2.1.set c72 ((s0.2.2.1[c67]?).getD ((0:Int),((0:Int),((0:Int),((0:Int),false))))))
 let c82:=(decide (c67<c80.length))
 let c88:=(decide ((IntKind.i64.wrap (c57 - a1))≥(2:Int)))
 let c133:=(c80.set c67 ((s0.2.2.1[c72]?).getD ((0:Int),((0:Int),((0:Int),((0:Int),false))))))
 let c134:=(loopD 2 [.int .i64,(.fl (.row (.prod (.int .i64) (.prod (.int .i64) (.prod (.int .i64) (.prod (.int .i64) .bool))))))] [.bool,(.fl (.row (.prod (.int .i64) (.prod (.int .i64) (.prod (.int .i64) (.prod (.int .i64) .bool))))))] (slices_partialInsertionSortCmpFunc_api_Known_l2 a1 a2 a3 a4) (c65,c133,()))
 let c138:=(decide ((IntKind.i64.wrap (a2 - c57))≥(2:Int)))
 let c185:=(cond c88 c134.2.2.1 c133)
 let c186:=(loopD 3 [.int .i64,(.fl (.row (.prod (.int .i64) (.prod (.int .i64) (.prod (.int .i64) (.prod (.int .i64) .bool))))))] [.bool,(.fl (.row (.prod (.int .i64) (.prod (.int .i64) (.prod (.int .i64) (.prod (.int .i64) .bool))))))] (slices_partialInsertionSortCmpFunc_api_Known_l3 a1 a2 a3 a4) ((IntKind.i64.wrap (c57+(1:Int))),c185,()))
 ((cond c2 (c55.1 && (cond c59 (cond c64 (((((((((c66 && c68) && c68) && c74) && c73) && c74) && c73) && (c66 && c82)) && c82) && ((cond c88 c134.1 true) && (cond c138 c186.1 true))) true) true)) true),(c2 && (c59 && c64)),(c57,(IntKind.i64.wrap (s0.2.1+(1:Int))),(cond c138 c186.2.2.1 c185),()),((c2 && (cond c59 c63 c58)),(cond c59 false true),s0.2.2.1,(!c2),s0.2.2.1,()))
noncomputable def slices_partialInsertionSortCmpFunc_api_Known_r (a1:Int) (a2:Int) (a3:Unit) (a4:(List (Int × (Int × (Int × (Int × Bool)))))):Bool × (Bool × (List (Int × (Int × (Int × (Int × Bool)))))):=
 let c206:=(loopD 0 [.int .i64,.int .i64,(.fl (.row (.prod (.int .i64) (.prod (.int .i64) (.prod (.int .i64) (.prod (.int .i64) .bool))))))] [.bool,.bool,(.fl (.row (.prod (.int .i64) (.prod (.int .i64) (.prod (.int .i64) (.prod (.int .i64) .bool)))))),.bool,(.fl (.row (.prod (.int .i64) (.prod (.int .i64) (.prod (.int .i64) (.prod (.int .i64) .bool))))))] (slices_partialInsertionSortCmpFunc_api_Known_l0 a1 a2 a3 a4) ((IntKind.i64.wrap (a1+(1:Int))),(0:Int),a4,()))
 let c208:=c206.2.2.2.2.1
 (c206.1,((cond c208 false c206.2.2.1),(cond c208 c206.2.2.2.2.2.1 c206.2.2.2.1)))
def slices_partialInsertionSortCmpFunc_api_Known_e:Ent:=⟨91,[(0,(.arr (.row (.prod (.int .i64) (.prod (.int .i64) (.prod (.int .i64) (.prod (.int .i64) .bool))))) [] false))],[(.own 0 5),(.pure (.int .i64) (Ty.dflt _)),(.pure (.int .i64) (Ty.dflt _)),(.fn 28 (.pure .unit (Ty.dflt _)))],[(0,(.arr (.row (.prod (.int .i64) (.prod (.int .i64) (.prod (.int .i64) (.prod (.int .i64) .bool))))) [] false))],[(.pure .bool (Ty.dflt _))],[]⟩
noncomputable def slices_partialInsertionSortCmpFunc_api_Known:Fun:=⟨slices_partialInsertionSortCmpFunc_api_Known_e,fun x=>let r:=slices_partialInsertionSortCmpFunc_api_Known_r x.1 x.2.1 x.2.2.1 x.2.2.2.1; (r.1,(r.2.1,r.2.2,()))⟩
theorem slices_partialInsertionSortCmpFunc_api_Known_ev:evFun Try.prog [view_order] [⟨[9,10],[0],⟨[],[],0⟩,[],[],[(1,[8]),(2,[])],[]⟩,⟨[9],[],⟨[],[],0⟩,[],[],[(1,[]),(4,[9])],[]⟩,⟨[11],[0],⟨[],[],0⟩,[],[],[(1,[]),(6,[])],[]⟩,⟨[12],[0],⟨[],[],0⟩,[],[],[(1,[]),(8,[])],[]⟩,⟨[],[],⟨[],[],0⟩,[],[],[],[(1000003,([9,10,11,12],[]))]⟩] Try.f91 (codeOf Try.f91) slices_partialInsertionSortCmpFunc_api_Known_e=(slices_partialInsertionSortCmpFunc_api_Known).fn:=by kernel_rfl
theorem slices_partialInsertionSortCmpFunc_api_Known_ok:FunOk Try.prog (slices_partialInsertionSortCmpFunc_api_Known):=fun_ok (opers_ok (oks_cons view_order_ok oks_nil)) Try.call91 Try.func91 (by kernel_rfl) fun x _=>(congrFun (slices_partialInsertionSortCmpFunc_api_Known_ev) x).symm
noncomputable def slices_partitionEqualCmpFunc_api_Known_l1 (a1:Int) (a2:Int) (a3:Int) (a4:Unit) (a5:(List (Int × (Int × (Int × (Int × Bool)))))) (s0:HL [.int .i64,.int .i64,(.fl (.row (.prod (.int .i64) (.prod (.int .i64) (.prod (.int .i64) (.prod (.int .i64) .bool))))))]) (s1:HL [.int .i64]):Bool × Bool × HL [.int .i64] × HL [.bool,.int .i64]:=
 let c9:=(decide ((0:Int)≤a1))
 let c10:=(Int.toNat a1)
 let c26:=(decide (s1.1≤s0.2.1))
 let c29:=(decide (c10<s0.2.2.1.length))
 let c30:=(c9 && c29)
 let c39:=(Int.toNat s1.1)
 let c40:=(decide (c39<s0.2.2.1.length))
 let c50:=((s0.2.2.1[c10]?).getD ((0:Int),((0:Int),((0:Int),((0:Int),false)))))
 let c52:=(view_order_r c50 ((s0.2.2.1[c39]?).getD ((0:Int),((0:Int),((0:Int),((0:Int),false))))))
 let c58:=(cond c26 c26 true)
 let c67:=(cond c26 (!(decide (c52.2<(0:Int)))) false)
 (((((((((cond c26 (c26 && (c26 && c30)) true) && (cond c26 (c26 && c29) true)) && (cond c26 (c26 && (c26 && ((decide ((0:Int)≤s1.1)) && c40))) true)) && (cond c26 (c26 && c40) true)) && (cond c26 (c26 && ((c26 && c26) && c52.1)) true)) && c58) && c58) && c58),c67,((IntKind.i64.wrap (s1.1+(1:Int))),()),((!c67),s1.1,()))
noncomputable def slices_partitionEqualCmpFunc_api_Known_l2 (a1:Int) (a2:Int) (a3:Int) (a4:Unit) (a5:(List (Int × (Int × (Int × (Int × Bool)))))) (s0:HL [.int .i64,.int .i64,(.fl (.row (.prod (.int .i64) (.prod (.int .i64) (.prod (.int .i64) (.prod (.int .i64) .bool))))))]) (s2:HL [.int .i64]):Bool × Bool × HL [.int .i64] × HL [.bool,.int .i64]:=
 let c9:=(decide ((0:Int)≤a1))
 let c10:=(Int.toNat a1)
 let c29:=(decide (c10<s0.2.2.1.length))
 let c30:=(c9 && c29)
 let c50:=((s0.2.2.1[c10]?).getD ((0:Int),((0:Int),((0:Int),((0:Int),false)))))
 let c72:=(loopD 1 [.int .i64] [.bool,.int .i64] (slices_partitionEqualCmpFunc_api_Known_l1 a1 a2 a3 a4 a5 s0) (s0.1,()))
 let c74:=c72.2.2.1
 let c76:=(decide (c74≤s2.1))
 let c84:=(Int.toNat s2.1)
 let c85:=(decide (c84<s0.2.2.1.length))
 let c96:=(view_order_r c50 ((s0.2.2.1[c84]?).getD ((0:Int),((0:Int),((0:Int),((0:Int),false))))))
 let c102:=(cond c76 c76 true)
 let c107:=(cond c76 (decide (c96.2<(0:Int))) false)
 ((((((((cond c76 (c76 && (c76 && c30)) true) && (cond c76 (c76 && c29) true)) && (cond c76 (c76 && (c76 && ((decide ((0:Int)≤s2.1)) && c85))) true)) && (cond c76 (c76 && c85) true)) && (cond c76 (c76 && ((c76 && c76) && c96.1)) true)) && c102) && c102),c107,((IntKind.i64.wrap (s2.1 - (1:Int))),()),((!c107),s2.1,()))
noncomputable def slices_partitionEqualCmpFunc_api_Known_l0 (a1:Int) (a2:Int) (a3:Int) (a4:Unit) (a5:(List (Int × (Int × (Int × (Int × Bool)))))) (s0:HL [.int .i64,.int .i64,(.fl (.row (.prod (.int .i64) (.prod (.int .i64) (.prod (.int .i64) (.prod (.int .i64) .bool))))))]):Bool × Bool × HL [.int .i64,.int .i64,(.fl (.row (.prod (.int .i64) (.prod (.int .i64) (.prod (.int .i64) (.prod (.int .i64) .bool))))))] × HL [.bool,.int .i64,(.fl (.row (.prod (.int .i64) (.prod (.int .i64) (.prod (.int .i64) (.prod (.int .i64) .bool))))))]:=
 let c72:=(loopD 1 [.int .i64] [.bool,.int .i64] (slices_partitionEqualCmpFunc_api_Known_l1 a1 a2 a3 a4 a5 s0) (s0.1,()))
 let c74:=c72.2.2.1
 let c110:=(loopD 2 [.int .i64] [.bool,.int .i64] (slices_partitionEqualCmpFunc_api_Known_l2 a1 a2 a3 a4 a5 s0) (s0.2.1,()))
 let c112:=c110.2.2.1
 let c113:=(decide (c74>c112))
 let c114:=(!c113)
 let c115:=(decide ((0:Int)≤c112))
 let c116:=(Int.toNat c112)
 let c117:=(decide (c116<s0.2.2.1.length))
 let c121:=(Int.toNat c74)
 let c122:=(decide (c121<s0.2.2.1.length))
 let c123:=((decide ((0:Int)≤c74)) && c122)
 let c129:=(s0.2.2.1.set c121 ((s0.2.2.1[c116]?).getD ((0:Int),((0:Int),((0:Int),((0:Int),false))))))
 let c131:=(decide (c116<c129.length))
 ((c72.1 && (c110.1 && (cond c114 ((((((((c115 && c117) && c117) && c123) && c122) && c123) && c122) && (c115 && c131)) && c131) true))),c114,((IntKind.i64.wrap (c74+(1:Int))),(IntKind.i64.wrap (c112 - (1:Int))),(c129.set c116 ((s0.2.2.1[c121]?).getD ((0:Int),((0:Int),((0:Int),((0:Int),false)))))),()),(c113,c74,s0.2.2.1,()))
noncomputable def slices_partitionEqualCmpFunc_api_Known_r (a1:Int) (a2:Int) (a3:Int) (a4:Unit) (a5:(List (Int × (Int × (Int × (Int × Bool)))))):Bool × (Int × (List (Int × (Int × (Int × (Int × Bool)))))):=
 let c1:=(decide ((0:Int)≤a3))
 let c2:=(Int.toNat a3)
 let c5:=(decide (c2<a5.length))
 let c9:=(decide ((0:Int)≤a1))
 let c10:=(Int.toNat a1)
 let c11:=(decide (c10<a5.length))
 let c12:=(c9 && c11)
 let c18:=(a5.set c10 ((a5[c2]?).getD ((0:Int),((0:Int),((0:Int),((0:Int),false))))))
 let c20:=(decide (c2<c18.length))
 let c147:=(loopD 0 [.int .i64,.int .i64,(.fl (.row (.prod (.int .i64) (.prod (.int .i64) (.prod (.int .i64) (.prod (.int .i64) .bool))))))] [.bool,.int .i64,(.fl (.row (.prod (.int .i64) (.prod (.int .i64) (.prod (.int .i64) (.prod (.int .i64) .bool))))))] (slices_partitionEqualCmpFunc_api_Known_l0 a1 a2 a3 a4 a5) ((IntKind.i64.wrap (a1+(1:Int))),(IntKind.i64.wrap (a2 - (1:Int))),(c18.set c2 ((a5[c10]?).getD ((0:Int),((0:Int),((0:Int),((0:Int),false)))))),()))
 ((((((((((c1 && c5) && c5) && c12) && c11) && c12) && c11) && (c1 && c20)) && c20) && c147.1),(c147.2.2.1,c147.2.2.2.1))
def slices_partitionEqualCmpFunc_api_Known_e:Ent:=⟨92,[(0,(.arr (.row (.prod (.int .i64) (.prod (.int .i64) (.prod (.int .i64) (.prod (.int .i64) .bool))))) [] false))],[(.own 0 5),(.pure (.int .i64) (Ty.dflt _)),(.pure (.int .i64) (Ty.dflt _)),(.pure (.int .i64) (Ty.dflt _)),(.fn 28 (.pure .unit (Ty.dflt _)))],[(0,(.arr (.row (.prod (.int .i64) (.prod (.int .i64) (.prod (.int .i64) (.prod (.int .i64) .bool))))) [] false))],[(.pure (.int .i64) (Ty.dflt _))],[]⟩
noncomputable def slices_partitionEqualCmpFunc_api_Known:Fun:=⟨slices_partitionEqualCmpFunc_api_Known_e,fun x=>let r:=slices_partitionEqualCmpFunc_api_Known_r x.1 x.2.1 x.2.2.1 x.2.2.2.1 x.2.2.2.2.1; (r.1,(r.2.1,r.2.2,()))⟩
theorem slices_partitionEqualCmpFunc_api_Known_ev:evFun Try.prog [view_order] [⟨[11,12],[0],⟨[],[],0⟩,[],[],[(1,[]),(2,[11])],[]⟩,⟨[11],[],⟨[],[],0⟩,[],[],[(1,[]),(4,[11])],[]⟩,⟨[12],[],⟨[],[],0⟩,[],[],[(1,[]),(6,[12])],[]⟩] Try.f92 (codeOf Try.f92) slices_partitionEqualCmpFunc_api_Known_e=(slices_partitionEqualCmpFunc_api_Known).fn:=by kernel_rfl
theorem slices_partitionEqualCmpFunc_api_Known_ok:FunOk Try.prog (slices_partitionEqualCmpFunc_api_Known):=fun_ok (opers_ok (oks_cons view_order_ok oks_nil)) Try.call92 Try.func92 (by kernel_rfl) fun x _=>(congrFun (slices_partitionEqualCmpFunc_api_Known_ev) x).symm
noncomputable def slices_partitionCmpFunc_api_Known_l0 (a1:Int) (a2:Int) (a3:Int) (a4:Unit) (a5:(List (Int × (Int × (Int × (Int × Bool)))))) (s0:HL [.int .i64]):Bool × Bool × HL [.int .i64] × HL [.bool,.int .i64]:=
 let c2:=(Int.toNat a3)
 let c9:=(decide ((0:Int)≤a1))
 let c10:=(Int.toNat a1)
 let c18:=(a5.set c10 ((a5[c2]?).getD ((0:Int),((0:Int),((0:Int),((0:Int),false))))))
 let c27:=(IntKind.i64.wrap (a2 - (1:Int)))
 let c28:=(decide (s0.1≤c27))
 let c30:=(Int.toNat s0.1)
 let c32:=(c18.set c2 ((a5[c10]?).getD ((0:Int),((0:Int),((0:Int),((0:Int),false))))))
 let c33:=c32.length
 let c34:=(decide (c30<c33))
 let c43:=(decide (c10<c33))
 let c44:=(c9 && c43)
 let c54:=((c32[c10]?).getD ((0:Int),((0:Int),((0:Int),((0:Int),false)))))
 let c55:=(view_order_r ((c32[c30]?).getD ((0:Int),((0:Int),((0:Int),((0:Int),false))))) c54)
 let c61:=(cond c28 c28 true)
 let c68:=(cond c28 (decide (c55.2<(0:Int))) false)
 ((((((((cond c28 (c28 && (c28 && ((decide ((0:Int)≤s0.1)) && c34))) true) && (cond c28 (c28 && c34) true)) && (cond c28 (c28 && (c28 && c44)) true)) && (cond c28 (c28 && c43) true)) && (cond c28 (c28 && ((c28 && c28) && c55.1)) true)) && c61) && c61),c68,((IntKind.i64.wrap (s0.1+(1:Int))),()),((!c68),s0.1,()))
noncomputable def slices_partitionCmpFunc_api_Known_l1 (a1:Int) (a2:Int) (a3:Int) (a4:Unit) (a5:(List (Int × (Int × (Int × (Int × Bool)))))) (s1:HL [.int .i64]):Bool × Bool × HL [.int .i64] × HL [.bool,.int .i64]:=
 let c2:=(Int.toNat a3)
 let c9:=(decide ((0:Int)≤a1))
 let c10:=(Int.toNat a1)
 let c18:=(a5.set c10 ((a5[c2]?).getD ((0:Int),((0:Int),((0:Int),((0:Int),false))))))
 let c32:=(c18.set c2 ((a5[c10]?).getD ((0:Int),((0:Int),((0:Int),((0:Int),false))))))
 let c33:=c32.length
 let c43:=(decide (c10<c33))
 let c44:=(c9 && c43)
 let c54:=((c32[c10]?).getD ((0:Int),((0:Int),((0:Int),((0:Int),false)))))
 let c72:=(loopD 0 [.int .i64] [.bool,.int .i64] (slices_partitionCmpFunc_api_Known_l0 a1 a2 a3 a4 a5) ((IntKind.i64.wrap (a1+(1:Int))),()))
 let c74:=c72.2.2.1
 let c76:=(decide (c74≤s1.1))
 let c78:=(Int.toNat s1.1)
 let c79:=(decide (c78<c33))
 let c96:=(view_order_r ((c32[c78]?).getD ((0:Int),((0:Int),((0:Int),((0:Int),false))))) c54)
 let c102:=(cond c76 c76 true)
 let c109:=(cond c76 (!(decide (c96.2<(0:Int)))) false)
 (((((((((cond c76 (c76 && (c76 && ((decide ((0:Int)≤s1.1)) && c79))) true) && (cond c76 (c76 && c79) true)) && (cond c76 (c76 && (c76 && c44)) true)) && (cond c76 (c76 && c43) true)) && (cond c76 (c76 && ((c76 && c76) && c96.1)) true)) && c102) && c102) && c102),c109,((IntKind.i64.wrap (s1.1 - (1:Int))),()),((!c109),s1.1,()))
noncomputable def slices_partitionCmpFunc_api_Known_l3 (a1:Int) (a2:Int) (a3:Int) (a4:Unit) (a5:(List (Int × (Int × (Int × (Int × Bool)))))) (s2:HL [.int .i64,.int .i64,(.fl (.row (.prod (.int .i64) (.prod (.int .i64) (.prod (.int .i64) (.prod (.int .i64) .bool))))))]) (s3:HL [.int .i64]):Bool × Bool × HL [.int .i64] × HL [.bool,.int .i64]:=
 let c9:=(decide ((0:Int)≤a1))
 let c10:=(Int.toNat a1)
 let c151:=(decide (s3.1≤s2.2.1))
 let c153:=(Int.toNat s3.1)
 let c156:=(decide (c153<s2.2.2.1.length))
 let c164:=(decide (c10<s2.2.2.1.length))
 let c165:=(c9 && c164)
 let c175:=((s2.2.2.1[c10]?).getD ((0:Int),((0:Int),((0:Int),((0:Int),false)))))
 let c176:=(view_order_r ((s2.2.2.1[c153]?).getD ((0:Int),((0:Int),((0:Int),((0:Int),false))))) c175)
 let c182:=(cond c151 c151 true)
 let c187:=(cond c151 (decide (c176.2<(0:Int))) false)
 ((((((((cond c151 (c151 && (c151 && ((decide ((0:Int)≤s3.1)) && c156))) true) && (cond c151 (c151 && c156) true)) && (cond c151 (c151 && (c151 && c165)) true)) && (cond c151 (c151 && c164) true)) && (cond c151 (c151 && ((c151 && c151) && c176.1)) true)) && c182) && c182),c187,((IntKind.i64.wrap (s3.1+(1:Int))),()),((!c187),s3.1,()))
noncomputable def slices_partitionCmpFunc_api_Known_l4 (a1:Int) (a2:Int) (a3:Int) (a4:Unit) (a5:(List (Int × (Int × (Int × (Int × Bool)))))) (s2:HL [.int .i64,.int .i64,(.fl (.row (.prod (.int .i64) (.prod (.int .i64) (.prod (.int .i64) (.prod (.int .i64) .bool))))))]) (s4:HL [.int .i64]):Bool × Bool × HL [.int .i64] × HL [.bool,.int .i64]:=
 let c9:=(decide ((0:Int)≤a1))
 let c10:=(Int.toNat a1)
 let c164:=(decide (c10<s2.2.2.1.length))
 let c165:=(c9 && c164)
 let c175:=((s2.2.2.1[c10]?).getD ((0:Int),((0:Int),((0:Int),((0:Int),false)))))
 let c191:=(loopD 3 [.int .i64] [.bool,.int .i64] (slices_partitionCmpFunc_api_Known_l3 a1 a2 a3 a4 a5 s2) (s2.1,()))
 let c193:=c191.2.2.1
 let c195:=(decide (c193≤s4.1))
 let c197:=(Int.toNat s4.1)
 let c198:=(decide (c197<s2.2.2.1.length))
 let c215:=(view_order_r ((s2.2.2.1[c197]?).getD ((0:Int),((0:Int),((0:Int),((0:Int),false))))) c175)
 let c221:=(cond c195 c195 true)
 let c228:=(cond c195 (!(decide (c215.2<(0:Int)))) false)
 (((((((((cond c195 (c195 && (c195 && ((decide ((0:Int)≤s4.1)) && c198))) true) && (cond c195 (c195 && c198) true)) && (cond c195 (c195 && (c195 && c165)) true)) && (cond c195 (c195 && c164) true)) && (cond c195 (c195 && ((c195 && c195) && c215.1)) true)) && c221) && c221) && c221),c228,((IntKind.i64.wrap (s4.1 - (1:Int))),()),((!c228),s4.1,()))
noncomputable def slices_partitionCmpFunc_api_Known_l2 (a1:Int) (a2:Int) (a3:Int) (a4:Unit) (a5:(List (Int × (Int × (Int × (Int × Bool)))))) (s2:HL [.int .i64,.int .i64,(.fl (.row (.prod (.int .i64) (.prod (.int .i64) (.prod (.int .i64) (.prod (.int .i64) .bool))))))]):Bool × Bool × HL [.int .i64,.int .i64,(.fl (.row (.prod (.int .i64) (.prod (.int .i64) (.prod (.int .i64) (.prod (.int .i64) .bool))))))] × HL [.bool,.int .i64,(.fl (.row (.prod (.int .i64) (.prod (.int .i64) (.prod (.int .i64) (.prod (.int .i64) .bool))))))]:=
 let c191:=(loopD 3 [.int .i64] [.bool,.int .i64] (slices_partitionCmpFunc_api_Known_l3 a1 a2 a3 a4 a5 s2) (s2.1,()))
 let c193:=c191.2.2.1
 let c231:=(loopD 4 [.int .i64] [.bool,.int .i64] (slices_partitionCmpFunc_api_Known_l4 a1 a2 a3 a4 a5 s2) (s2.2.1,()))
 let c233:=c231.2.2.1
 let c234:=(decide (c193>c233))
 let c235:=(!c234)
 let c236:=(decide ((0:Int)≤c233))
 let c237:=(Int.toNat c233)
 let c238:=(decide (c237<s2.2.2.1.length))
 let c242:=(Int.toNat c193)
 let c243:=(decide (c242<s2.2.2.1.length))
 let c244:=((decide ((0:Int)≤c193)) && c243)
 let c250:=(s2.2.2.1.set c242 ((s2.2.2.1[c237]?).getD ((0:Int),((0:Int),((0:Int),((0:Int),false))))))
 let c252:=(decide (c237<c250.length))
 ((c191.1 && (c231.1 && (cond c235 ((((((((c236 && c238) && c238) && c244) && c243) && c244) && c243) && (c236 && c252)) && c252) true))),c235,((IntKind.i64.wrap (c193+(1:Int))),(IntKind.i64.wrap (c233 - (1:Int))),(c250.set c237 ((s2.2.2.1[c242]?).getD ((0:Int),((0:Int),((0:Int),((0:Int),false)))))),()),(c234,c233,s2.2.2.1,()))
noncomputable def slices_partitionCmpFunc_api_Known_r (a1:Int) (a2:Int) (a3:Int) (a4:Unit) (a5:(List (Int × (Int × (Int × (Int × Bool)))))):Bool × (Int × Bool × (List (Int × (Int × (Int × (Int × Bool)))))):=
 let c1:=(decide ((0:Int)≤a3))
 let c2:=(Int.toNat a3)
 let c5:=(decide (c2<a5.length))
 let c9:=(decide ((0:Int)≤a1))
 let c10:=(Int.toNat a1)
 let c11:=(decide (c10<a5.length))
 let c12:=(c9 && c11)
 let c18:=(a5.set c10 ((a5[c2]?).getD ((0:Int),((0:Int),((0:Int),((0:Int),false))))))
 let c20:=(decide (c2<c18.length))
 let c27:=(IntKind.i64.wrap (a2 - (1:Int)))
 let c32:=(c18.set c2 ((a5[c10]?).getD ((0:Int),((0:Int),((0:Int),((0:Int),false))))))
 let c33:=c32.length
 let c43:=(decide (c10<c33))
 let c44:=(c9 && c43)
 let c54:=((c32[c10]?).getD ((0:Int),((0:Int),((0:Int),((0:Int),false)))))
 let c72:=(loopD 0 [.int .i64] [.bool,.int .i64] (slices_partitionCmpFunc_api_Known_l0 a1 a2 a3 a4 a5) ((IntKind.i64.wrap (a1+(1:Int))),()))
 let c74:=c72.2.2.1
 let c112:=(loopD 1 [.int .i64] [.bool,.int .i64] (slices_partitionCmpFunc_api_Known_l1 a1 a2 a3 a4 a5) (c27,()))
 let c114:=c112.2.2.1
 let c115:=(decide (c74>c114))
 let c117:=(decide ((0:Int)≤c114))
 let c118:=(Int.toNat c114)
 let c119:=(decide (c118<c33))
 let c120:=(c117 && c119)
 let c125:=(c32.set c118 c54)
 let c127:=(decide (c10<c125.length))
 let c132:=(!c115)
 let c135:=(Int.toNat c74)
 let c136:=(decide (c135<c33))
 let c137:=((decide ((0:Int)≤c74)) && c136)
 let c142:=((c32[c118]?).getD ((0:Int),((0:Int),((0:Int),((0:Int),false)))))
 let c143:=(c32.set c135 c142)
 let c145:=(decide (c118<c143.length))
 let c267:=(loopD 2 [.int .i64,.int .i64,(.fl (.row (.prod (.int .i64) (.prod (.int .i64) (.prod (.int .i64) (.prod (.int .i64) .bool))))))] [.bool,.int .i64,(.fl (.row (.prod (.int .i64) (.prod (.int .i64) (.prod (.int .i64) (.prod (.int .i64) .bool))))))] (slices_partitionCmpFunc_api_Known_l2 a1 a2 a3 a4 a5) ((IntKind.i64.wrap (c74+(1:Int))),(IntKind.i64.wrap (c114 - (1:Int))),(c143.set c118 ((c32[c135]?).getD ((0:Int),((0:Int),((0:Int),((0:Int),false)))))),()))
 let c269:=c267.2.2.2.1
 let c270:=c269.length
 let c271:=(decide (c10<c270))
 let c274:=c267.2.2.1
 let c276:=(Int.toNat c274)
 let c277:=(decide (c276<c270))
 let c278:=((decide ((0:Int)≤c274)) && c277)
 let c284:=(c269.set c276 ((c269[c10]?).getD ((0:Int),((0:Int),((0:Int),((0:Int),false))))))
 let c286:=(decide (c10<c284.length))
 ((((((((((c1 && c5) && c5) && c12) && c11) && c12) && c11) && (c1 && c20)) && c20) && (c72.1 && (c112.1 && ((cond c115 (((((((c44 && c43) && c120) && c119) && c120) && c119) && (c9 && c127)) && c127) true) && (cond c132 ((((((((c120 && c119) && c137) && c136) && c137) && c136) && (c117 && c145)) && c145) && (c267.1 && ((((((((c9 && c271) && c271) && c278) && c277) && c278) && c277) && (c9 && c286)) && c286))) true))))),((cond c132 c274 c114),(cond c132 false true),(cond c132 (c284.set c10 ((c269[c276]?).getD ((0:Int),((0:Int),((0:Int),((0:Int),false)))))) (c125.set c10 c142))))
def slices_partitionCmpFunc_api_Known_e:Ent:=⟨93,[(0,(.arr (.row (.prod (.int .i64) (.prod (.int .i64) (.prod (.int .i64) (.prod (.int .i64) .bool))))) [] false))],[(.own 0 5),(.pure (.int .i64) (Ty.dflt _)),(.pure (.int .i64) (Ty.dflt _)),(.pure (.int .i64) (Ty.dflt _)),(.fn 28 (.pure .unit (Ty.dflt _)))],[(0,(.arr (.row (.prod (.int .i64) (.prod (.int .i64) (.prod (.int .i64) (.prod (.int .i64) .bool))))) [] false))],[(.pure (.int .i64) (Ty.dflt _)),(.pure .bool (Ty.dflt _))],[]⟩
noncomputable def slices_partitionCmpFunc_api_Known:Fun:=⟨slices_partitionCmpFunc_api_Known_e,fun x=>let r:=slices_partitionCmpFunc_api_Known_r x.1 x.2.1 x.2.2.1 x.2.2.2.1 x.2.2.2.2.1; (r.1,(r.2.1,r.2.2.1,r.2.2.2,()))⟩
theorem slices_partitionCmpFunc_api_Known_ev:evFun Try.prog [view_order] [⟨[12],[],⟨[],[],0⟩,[],[],[(1,[]),(2,[12])],[]⟩,⟨[13],[],⟨[],[],0⟩,[],[],[(1,[]),(4,[13])],[]⟩,⟨[12,13],[0],⟨[],[],0⟩,[],[],[(1,[]),(6,[13])],[]⟩,⟨[12],[],⟨[],[],0⟩,[],[],[(1,[]),(8,[12])],[]⟩,⟨[13],[],⟨[],[],0⟩,[],[],[(1,[]),(10,[13])],[]⟩,⟨[],[],⟨[],[],0⟩,[],[],[],[(1000003,([12,13],[]))]⟩] Try.f93 (codeOf Try.f93) slices_partitionCmpFunc_api_Known_e=(slices_partitionCmpFunc_api_Known).fn:=by kernel_rfl
theorem slices_partitionCmpFunc_api_Known_ok:FunOk Try.prog (slices_partitionCmpFunc_api_Known):=fun_ok (opers_ok (oks_cons view_order_ok oks_nil)) Try.call93 Try.func93 (by kernel_rfl) fun x _=>(congrFun (slices_partitionCmpFunc_api_Known_ev) x).symm
noncomputable def slices_pdqsortCmpFunc_api_Known_s_l0 (g_slices_pdqsortCmpFunc_api_Known:HL slices_pdqsortCmpFunc_api_Known_e.ins→Bool × HL slices_pdqsortCmpFunc_api_Known_e.outs) (a1:Int) (a2:Int) (a3:Int) (a4:Unit) (a5:(List (Int × (Int × (Int × (Int × Bool)))))) (s0:HL [.int .i64,.int .i64,.bool,.bool,.int .i64,(.fl (.row (.prod (.int .i64) (.prod (.int .i64) (.prod (.int .i64) (.prod (.int .i64) .bool))))))]):Bool × Bool × HL [.int .i64,.int .i64,.bool,.bool,.int .i64,(.fl (.row (.prod (.int .i64) (.prod (.int .i64) (.prod (.int .i64) (.prod (.int .i64) .bool))))))] × HL [.bool,(.fl (.row (.prod (.int .i64) (.prod (.int .i64) (.prod (.int .i64) (.prod (.int .i64) .bool))))))]:=
 let c2:=(IntKind.i64.wrap (s0.1 - s0.2.1))
 let c4:=(decide (c2≤(12:Int)))
 let c7:=(slices_insertionSortCmpFunc_api_Known_r s0.2.1 s0.1 a4 s0.2.2.2.2.2.1)
 let c11:=(!c4)
 let c14:=(s0.2.2.2.2.1==(0:Int))
 let c15:=(slices_heapSortCmpFunc_api_Known_r s0.2.1 s0.1 a4 s0.2.2.2.2.2.1)
 let c18:=(!c14)
 let c20:=(!s0.2.2.2.1)
 let c21:=(slices_breakPatternsCmpFunc_api_Known_r s0.2.1 s0.1 a4 s0.2.2.2.2.2.1)
 let c25:=(cond c20 c21.2 s0.2.2.2.2.2.1)
 let c26:=(slices_choosePivotCmpFunc_api_Known_r s0.2.1 s0.1 a4 c25)
 let c28:=c26.2.2
 let c30:=(c28==(2:Int))
 let c31:=(slices_reverseRangeCmpFunc_api_Known_r s0.2.1 s0.1 a4 c25)
 let c37:=(cond s0.2.2.2.1 s0.2.2.1 false)
 let c38:=(cond c37 c37 true)
 let c44:=(cond c37 ((cond c30 (1:Int) c28)==(1:Int)) false)
 let c46:=(cond c30 c31.2 c25)
 let c47:=(slices_partialInsertionSortCmpFunc_api_Known_r s0.2.1 s0.1 a4 c46)
 let c51:=c47.2.1
 let c53:=(cond c44 (!c51) true)
 let c54:=(decide (s0.2.1>(0:Int)))
 let c55:=(cond c54 c54 true)
 let c56:=(IntKind.i64.wrap (s0.2.1 - (1:Int)))
 let c58:=(Int.toNat c56)
 let c59:=c47.2.2
 let c60:=(cond c44 c59 c46)
 let c61:=c60.length
 let c62:=(decide (c58<c61))
 let c72:=c26.2.1
 let c75:=(cond c30 (IntKind.i64.wrap ((IntKind.i64.wrap (s0.1 - (1:Int))) - (IntKind.i64.wrap (c72 - s0.2.1)))) c72)
 let c77:=(Int.toNat c75)
 let c78:=(decide (c77<c61))
 let c90:=(view_order_r ((c60[c58]?).getD ((0:Int),((0:Int),((0:Int),((0:Int),false))))) ((c60[c77]?).getD ((0:Int),((0:Int),((0:Int),((0:Int),false))))))
 let c102:=(cond c54 (!(decide (c90.2<(0:Int)))) false)
 let c103:=(slices_partitionEqualCmpFunc_api_Known_r s0.2.1 s0.1 c75 a4 c60)
 let c107:=(!c102)
 let c108:=(slices_partitionCmpFunc_api_Known_r s0.2.1 s0.1 c75 a4 c60)
 let c112:=c108.2.1
 let c113:=(IntKind.i64.wrap (c112 - s0.2.1))
 let c114:=(IntKind.i64.wrap (s0.1 - c112))
 let c115:=(decide (c113<c114))
 let c117:=(cond c20 (IntKind.i64.wrap (s0.2.2.2.2.1 - (1:Int))) s0.2.2.2.2.1)
 let c118:=c108.2.2.2
 let c119:=(g_slices_pdqsortCmpFunc_api_Known (s0.2.1,c112,c117,a4,c118,()))
 let c121:=(IntKind.i64.wrap (c112+(1:Int)))
 let c122:=(g_slices_pdqsortCmpFunc_api_Known (c121,s0.1,c117,a4,c118,()))
 let c140:=(c11 && (c18 && (c53 && c107)))
 let c152:=(IntKind.i64.wrap (Int.tdiv c2 (8:Int)))
 (((cond c4 c7.1 true) && (cond c11 ((cond c14 c15.1 true) && (cond c18 ((cond c20 c21.1 true) && (c26.1 && ((cond c30 c31.1 true) && (((((cond s0.2.2.2.1 s0.2.2.2.1 true) && c38) && c38) && (cond c44 c47.1 true)) && (cond c53 ((((((((((c55 && (cond c54 (c54 && (c54 && ((decide ((0:Int)≤c56)) && c62))) true)) && (cond c54 (c54 && c62) true)) && (cond c54 (c54 && (c54 && ((decide ((0:Int)≤c75)) && c78))) true)) && (cond c54 (c54 && c78) true)) && (cond c54 (c54 && ((c54 && c54) && c90.1)) true)) && c55) && c55) && c55) && (cond c102 c103.1 true)) && (cond c107 (c108.1 && (((8:Int) !=(0:Int)) && (cond c115 c119.1 c122.1))) true)) true))))) true)) true)),(c140 || (c11 && (c18 && (c53 && c102)))),((cond c140 (cond c115 s0.1 c112) s0.1),(cond c140 (cond c115 c121 s0.2.1) c103.2.1),(cond c140 c108.2.2.1 s0.2.2.1),(cond c140 (cond c115 (decide (c113≥c152)) (decide (c114≥c152))) s0.2.2.2.1),(cond c140 c117 c117),(cond c140 (cond c115 c119.2.1 c122.2.1) c103.2.2),()),((cond c11 (cond c18 (c51 && c44) c14) c4),(cond c11 (cond c18 c59 c15.2) c7.2),()))
noncomputable def slices_pdqsortCmpFunc_api_Known_s_r (g_slices_pdqsortCmpFunc_api_Known:HL slices_pdqsortCmpFunc_api_Known_e.ins→Bool × HL slices_pdqsortCmpFunc_api_Known_e.outs) (a1:Int) (a2:Int) (a3:Int) (a4:Unit) (a5:(List (Int × (Int × (Int × (Int × Bool)))))):Bool × ((List (Int × (Int × (Int × (Int × Bool)))))):=
 let c174:=(loopD 0 [.int .i64,.int .i64,.bool,.bool,.int .i64,(.fl (.row (.prod (.int .i64) (.prod (.int .i64) (.prod (.int .i64) (.prod (.int .i64) .bool))))))] [.bool,(.fl (.row (.prod (.int .i64) (.prod (.int .i64) (.prod (.int .i64) (.prod (.int .i64) .bool))))))] (slices_pdqsortCmpFunc_api_Known_s_l0 g_slices_pdqsortCmpFunc_api_Known a1 a2 a3 a4 a5) (a2,a1,true,true,a3,a5,()))
 (c174.1,(c174.2.2.1))
noncomputable def slices_pdqsortCmpFunc_api_Known_s (g_slices_pdqsortCmpFunc_api_Known:HL slices_pdqsortCmpFunc_api_Known_e.ins→Bool × HL slices_pdqsortCmpFunc_api_Known_e.outs):HL slices_pdqsortCmpFunc_api_Known_e.ins→Bool × HL slices_pdqsortCmpFunc_api_Known_e.outs:=fun x=>let r:=slices_pdqsortCmpFunc_api_Known_s_r g_slices_pdqsortCmpFunc_api_Known x.1 x.2.1 x.2.2.1 x.2.2.2.1 x.2.2.2.2.1; (r.1,(r.2,()))
theorem slices_pdqsortCmpFunc_api_Known_ev (g_slices_pdqsortCmpFunc_api_Known:HL slices_pdqsortCmpFunc_api_Known_e.ins→Bool × HL slices_pdqsortCmpFunc_api_Known_e.outs):evFun Try.prog [slices_insertionSortCmpFunc_api_Known,slices_heapSortCmpFunc_api_Known,slices_breakPatternsCmpFunc_api_Known,slices_choosePivotCmpFunc_api_Known,slices_reverseRangeCmpFunc_api_Known,slices_partialInsertionSortCmpFunc_api_Known,view_order,slices_partitionEqualCmpFunc_api_Known,slices_partitionCmpFunc_api_Known,⟨slices_pdqsortCmpFunc_api_Known_e,g_slices_pdqsortCmpFunc_api_Known⟩] [⟨[2,1,11,10,3],[0],⟨[],[],0⟩,[],[],[(1,[])],[]⟩,⟨[],[],⟨[],[],0⟩,[],[],[],[(1000003,([10,11,3,13,14,1,2],[]))]⟩] Try.f59 (codeOf Try.f59) slices_pdqsortCmpFunc_api_Known_e=slices_pdqsortCmpFunc_api_Known_s g_slices_pdqsortCmpFunc_api_Known:=by kernel_rfl
noncomputable def slices_pdqsortCmpFunc_api_Known:Fun:=⟨slices_pdqsortCmpFunc_api_Known_e,recF slices_pdqsortCmpFunc_api_Known_e (slices_pdqsortCmpFunc_api_Known_s)⟩
theorem slices_pdqsortCmpFunc_api_Known_ok:FunOk Try.prog (slices_pdqsortCmpFunc_api_Known):=rec_ok Try.call59 fun g_slices_pdqsortCmpFunc_api_Known hg_slices_pdqsortCmpFunc_api_Known=>fun_ok (F:=⟨slices_pdqsortCmpFunc_api_Known_e,slices_pdqsortCmpFunc_api_Known_s g_slices_pdqsortCmpFunc_api_Known⟩) (opers_ok (oks_cons slices_insertionSortCmpFunc_api_Known_ok (oks_cons slices_heapSortCmpFunc_api_Known_ok (oks_cons slices_breakPatternsCmpFunc_api_Known_ok (oks_cons slices_choosePivotCmpFunc_api_Known_ok (oks_cons slices_reverseRangeCmpFunc_api_Known_ok (oks_cons slices_partialInsertionSortCmpFunc_api_Known_ok (oks_cons view_order_ok (oks_cons slices_partitionEqualCmpFunc_api_Known_ok (oks_cons slices_partitionCmpFunc_api_Known_ok (oks_cons hg_slices_pdqsortCmpFunc_api_Known oks_nil))))))))))) Try.call59 Try.func59 (by kernel_rfl) fun x _=>(congrFun (slices_pdqsortCmpFunc_api_Known_ev g_slices_pdqsortCmpFunc_api_Known) x).symm
noncomputable def slices_pdqsortCmpFunc_api_Known_r (a1:Int) (a2:Int) (a3:Int) (a4:Unit) (a5:(List (Int × (Int × (Int × (Int × Bool)))))):Bool × ((List (Int × (Int × (Int × (Int × Bool)))))):=let r:=recF slices_pdqsortCmpFunc_api_Known_e (slices_pdqsortCmpFunc_api_Known_s) (a1,a2,a3,a4,a5,()); (r.1,(r.2.1))
noncomputable def slices_SortFunc_api_Known_r (a1:Unit) (a2:(List (Int × (Int × (Int × (Int × Bool)))))):Bool × ((List (Int × (Int × (Int × (Int × Bool)))))):=
 let c4:=(bits_Len_r (IntKind.u64.wrap ((a2.length:Int))))
 let c9:=(slices_pdqsortCmpFunc_api_Known_r (0:Int) (a2.length:Int) c4.2 a1 a2)
 ((c4.1 && c9.1),(c9.2))
def slices_SortFunc_api_Known_e:Ent:=⟨27,[(0,(.arr (.row (.prod (.int .i64) (.prod (.int .i64) (.prod (.int .i64) (.prod (.int .i64) .bool))))) [] false))],[(.own 0 5),(.fn 28 (.pure .unit (Ty.dflt _)))],[(0,(.arr (.row (.prod (.int .i64) (.prod (.int .i64) (.prod (.int .i64) (.prod (.int .i64) .bool))))) [] false))],[],[]⟩
noncomputable def slices_SortFunc_api_Known:Fun:=⟨slices_SortFunc_api_Known_e,fun x=>let r:=slices_SortFunc_api_Known_r x.1 x.2.1; (r.1,(r.2,()))⟩
theorem slices_SortFunc_api_Known_ev:evFun Try.prog [bits_Len,slices_pdqsortCmpFunc_api_Known] [] Try.f27 (codeOf Try.f27) slices_SortFunc_api_Known_e=(slices_SortFunc_api_Known).fn:=by kernel_rfl
theorem slices_SortFunc_api_Known_ok:FunOk Try.prog (slices_SortFunc_api_Known):=fun_ok (opers_ok (oks_cons bits_Len_ok (oks_cons slices_pdqsortCmpFunc_api_Known_ok oks_nil))) Try.call27 Try.func27 (by kernel_rfl) fun x _=>(congrFun (slices_SortFunc_api_Known_ev) x).symm
noncomputable def view_Merge_r (a1:((List Int) × (List (Int × (Int × (Int × (Int × Bool))))))) (a2:((List Int) × (List (Int × (Int × (Int × (Int × Bool))))))):Bool × (Int × (List Int) × (List (Int × (Int × (Int × (Int × Bool)))))):=
 let c1:=(view_Check_r a1)
 let c5:=(c1.2 !=(0:Int))
 let c6:=(!c5)
 let c8:=(view_Check_r a2)
 let c21:=(!(cond c5 true (c8.2 !=(0:Int))))
 let c27:=(slices_Concat_int_r (a1.1::(a2.1::([]:List (List Int)))))
 let c34:=(slices_Concat_api_Known_r (a1.2::(a2.2::([]:List (List (Int × (Int × (Int × (Int × Bool)))))))))
 let c38:=(slices_Sort_int_r c27.2)
 let c42:=(slices_SortFunc_api_Known_r () c34.2)
 let c44:=c38.2
 let c45:=c42.2
 let c47:=(view_Check_r (c44,c45))
 let c56:=(!(c47.2 !=(0:Int)))
 (((((c1.1 && (cond c6 (c6 && c8.1) true)) && (cond c6 c6 true)) && (cond c5 true c6)) && (cond c21 ((c27.1 && c34.1) && (c38.1 && (c42.1 && c47.1))) true)),((cond c21 (cond c56 (0:Int) (11:Int)) (1:Int)),(cond c21 (cond c56 c44 ([]:List Int)) ([]:List Int)),(cond c21 (cond c56 c45 ([]:List (Int × (Int × (Int × (Int × Bool)))))) ([]:List (Int × (Int × (Int × (Int × Bool))))))))
def view_Merge_e:Ent:=⟨8,[],[(.pure (.row (.prod (.fl (.int .i64)) (.fl (.row (.prod (.int .i64) (.prod (.int .i64) (.prod (.int .i64) (.prod (.int .i64) .bool)))))))) (Ty.dflt _)),(.pure (.row (.prod (.fl (.int .i64)) (.fl (.row (.prod (.int .i64) (.prod (.int .i64) (.prod (.int .i64) (.prod (.int .i64) .bool)))))))) (Ty.dflt _))],[(0,(.arr (.int .i64) [] true)),(1,(.arr (.row (.prod (.int .i64) (.prod (.int .i64) (.prod (.int .i64) (.prod (.int .i64) .bool))))) [] true))],[(.row (.pair (.own 0 1) (.own 1 5))),(.pure (.int .i64) (Ty.dflt _))],[]⟩
noncomputable def view_Merge:Fun:=⟨view_Merge_e,fun x=>let r:=view_Merge_r x.1 x.2.1; (r.1,(r.2.1,r.2.2.1,r.2.2.2,()))⟩
theorem view_Merge_ev:evFun Try.prog [view_Check,slices_Concat_int,slices_Concat_api_Known,slices_Sort_int,slices_SortFunc_api_Known] [] Try.f8 (codeOf Try.f8) view_Merge_e=(view_Merge).fn:=by kernel_rfl
theorem view_Merge_ok:FunOk Try.prog (view_Merge):=fun_ok (opers_ok (oks_cons view_Check_ok (oks_cons slices_Concat_int_ok (oks_cons slices_Concat_api_Known_ok (oks_cons slices_Sort_int_ok (oks_cons slices_SortFunc_api_Known_ok oks_nil)))))) Try.call8 Try.func8 (by kernel_rfl) fun x _=>(congrFun (view_Merge_ev) x).symm
noncomputable def withyref05_Ints_l0 (a1:(List Int)) (a2:(List Int)) (s0:HL [.int .i64]):Bool × Bool × HL [.int .i64] × HL [.bool,.bool,.bool]:=
 let c9:=(decide (s0.1<(a1.length:Int)))
 let c10:=(decide ((0:Int)≤s0.1))
 let c11:=(Int.toNat s0.1)
 let c12:=(decide (c11<a1.length))
 let c15:=(decide (c11<a2.length))
 let c23:=(((a1[c11]?).getD (0:Int)) !=((a2[c11]?).getD (0:Int)))
 ((cond c9 ((((c10 && c12) && c12) && (c10 && c15)) && c15) true),(c9 && (!c23)),((IntKind.i64.wrap (s0.1+(1:Int))),()),((c9 && c23),false,(!c9),()))
noncomputable def withyref05_Ints_r (a1:(List Int)) (a2:(List Int)):Bool × (Bool):=
 let c7:=(!((a1.length:Int) !=(a2.length:Int)))
 let c32:=(loopD 0 [.int .i64] [.bool,.bool,.bool] (withyref05_Ints_l0 a1 a2) ((0:Int),()))
 ((cond c7 c32.1 true),((cond c7 (cond c32.2.2.2.1 true c32.2.2.1) false)))
def withyref05_Ints_e:Ent:=⟨22,[],[(.pure (.fl (.int .i64)) (Ty.dflt _)),(.pure (.fl (.int .i64)) (Ty.dflt _))],[],[(.pure .bool (Ty.dflt _))],[]⟩
noncomputable def withyref05_Ints:Fun:=⟨withyref05_Ints_e,fun x=>let r:=withyref05_Ints_r x.1 x.2.1; (r.1,(r.2,()))⟩
theorem withyref05_Ints_ev:evFun Try.prog [] [⟨[5],[],⟨[],[],0⟩,[],[],[(1,[4]),(2,[])],[]⟩,⟨[],[],⟨[],[],0⟩,[],[],[],[(1000003,([5],[]))]⟩] Try.f22 (codeOf Try.f22) withyref05_Ints_e=(withyref05_Ints).fn:=by kernel_rfl
theorem withyref05_Ints_ok:FunOk Try.prog (withyref05_Ints):=fun_ok (opers_ok oks_nil) Try.call22 Try.func22 (by kernel_rfl) fun x _=>(congrFun (withyref05_Ints_ev) x).symm
noncomputable def withyref09_Links_l0 (a1:(List (Int × (Int × (Int × (Int × Bool)))))) (a2:(List (Int × (Int × (Int × (Int × Bool)))))) (s0:HL [.int .i64]):Bool × Bool × HL [.int .i64] × HL [.bool,.bool,.bool]:=
 let c9:=(decide (s0.1<(a1.length:Int)))
 let c10:=(decide ((0:Int)≤s0.1))
 let c11:=(Int.toNat s0.1)
 let c12:=(decide (c11<a1.length))
 let c15:=(decide (c11<a2.length))
 let c21:=((a1[c11]?).getD ((0:Int),((0:Int),((0:Int),((0:Int),false)))))
 let c23:=((a2[c11]?).getD ((0:Int),((0:Int),((0:Int),((0:Int),false)))))
 let c26:=c21.2
 let c28:=c23.2
 let c31:=c26.2
 let c33:=c28.2
 let c36:=c31.2
 let c38:=c33.2
 let c48:=(!((c21.1==c23.1) && ((c26.1==c28.1) && ((c31.1==c33.1) && ((c36.1==c38.1) && (c36.2==c38.2))))))
 ((cond c9 ((((c10 && c12) && c12) && (c10 && c15)) && c15) true),(c9 && (!c48)),((IntKind.i64.wrap (s0.1+(1:Int))),()),((c9 && c48),false,(!c9),()))
noncomputable def withyref09_Links_r (a1:(List (Int × (Int × (Int × (Int × Bool)))))) (a2:(List (Int × (Int × (Int × (Int × Bool)))))):Bool × (Bool):=
 let c7:=(!((a1.length:Int) !=(a2.length:Int)))
 let c57:=(loopD 0 [.int .i64] [.bool,.bool,.bool] (withyref09_Links_l0 a1 a2) ((0:Int),()))
 ((cond c7 c57.1 true),((cond c7 (cond c57.2.2.2.1 true c57.2.2.1) false)))
def withyref09_Links_e:Ent:=⟨29,[],[(.pure (.fl (.row (.prod (.int .i64) (.prod (.int .i64) (.prod (.int .i64) (.prod (.int .i64) .bool)))))) (Ty.dflt _)),(.pure (.fl (.row (.prod (.int .i64) (.prod (.int .i64) (.prod (.int .i64) (.prod (.int .i64) .bool)))))) (Ty.dflt _))],[],[(.pure .bool (Ty.dflt _))],[]⟩
noncomputable def withyref09_Links:Fun:=⟨withyref09_Links_e,fun x=>let r:=withyref09_Links_r x.1 x.2.1; (r.1,(r.2,()))⟩
theorem withyref09_Links_ev:evFun Try.prog [] [⟨[5],[],⟨[],[],0⟩,[],[],[(1,[4]),(2,[])],[]⟩,⟨[],[],⟨[],[],0⟩,[],[],[],[(1000003,([5],[]))]⟩] Try.f29 (codeOf Try.f29) withyref09_Links_e=(withyref09_Links).fn:=by kernel_rfl
theorem withyref09_Links_ok:FunOk Try.prog (withyref09_Links):=fun_ok (opers_ok oks_nil) Try.call29 Try.func29 (by kernel_rfl) fun x _=>(congrFun (withyref09_Links_ev) x).symm
noncomputable def withyref09_Same_r (a1:((List Int) × (List (Int × (Int × (Int × (Int × Bool))))))) (a2:((List Int) × (List (Int × (Int × (Int × (Int × Bool))))))):Bool × (Bool):=
 let c4:=(withyref05_Ints_r a1.1 a2.1)
 let c6:=c4.2
 let c8:=(cond c6 c6 true)
 let c14:=(withyref09_Links_r a1.2 a2.2)
 (((((c4.1 && c8) && c8) && (cond c6 ((c6 && c6) && c14.1) true)) && c8),((cond c6 c14.2 false)))
def withyref09_Same_e:Ent:=⟨9,[],[(.pure (.row (.prod (.fl (.int .i64)) (.fl (.row (.prod (.int .i64) (.prod (.int .i64) (.prod (.int .i64) (.prod (.int .i64) .bool)))))))) (Ty.dflt _)),(.pure (.row (.prod (.fl (.int .i64)) (.fl (.row (.prod (.int .i64) (.prod (.int .i64) (.prod (.int .i64) (.prod (.int .i64) .bool)))))))) (Ty.dflt _))],[],[(.pure .bool (Ty.dflt _))],[]⟩
noncomputable def withyref09_Same:Fun:=⟨withyref09_Same_e,fun x=>let r:=withyref09_Same_r x.1 x.2.1; (r.1,(r.2,()))⟩
theorem withyref09_Same_ev:evFun Try.prog [withyref05_Ints,withyref09_Links] [] Try.f9 (codeOf Try.f9) withyref09_Same_e=(withyref09_Same).fn:=by kernel_rfl
theorem withyref09_Same_ok:FunOk Try.prog (withyref09_Same):=fun_ok (opers_ok (oks_cons withyref05_Ints_ok (oks_cons withyref09_Links_ok oks_nil))) Try.call9 Try.func9 (by kernel_rfl) fun x _=>(congrFun (withyref09_Same_ev) x).symm
noncomputable def withylaw09_ViewOrder_l1 (a1:((List Int) × (List (Int × (Int × (Int × (Int × Bool))))))) (a2:((List Int) × (List (Int × (Int × (Int × (Int × Bool))))))) (a3:((List Int) × (List (Int × (Int × (Int × (Int × Bool))))))) (s0:HL [.int .i64]) (s1:HL [.int .i64,.bool]):Bool × Bool × HL [.int .i64,.bool] × HL [.bool,.bool]:=
 let c39:=(view_Merge_r a1 a2)
 let c58:=(c39.2.2.1,c39.2.2.2)
 let c116:=(view_Inner_r a1)
 let c118:=(view_Inner_r c58)
 let c131:=c116.2.2
 let c132:=c131.length
 let c136:=c118.2.2
 let c137:=c136.length
 let c139:=(decide (s1.1<(c137:Int)))
 let c141:=(!s1.2.1)
 let c143:=(Int.toNat s1.1)
 let c144:=(decide (c143<c137))
 let c153:=(Int.toNat s0.1)
 let c154:=(decide (c153<c132))
 let c171:=((c136[c143]?).getD ((0:Int),((0:Int),((0:Int),((0:Int),false)))))
 let c173:=((c131[c153]?).getD ((0:Int),((0:Int),((0:Int),((0:Int),false)))))
 let c176:=c171.2
 let c178:=c173.2
 let c181:=c176.2
 let c183:=c178.2
 let c186:=c181.2
 let c188:=c183.2
 ((cond c139 ((((((cond c141 (c141 && (c141 && ((decide ((0:Int)≤s1.1)) && c144))) true) && (cond c141 (c141 && c144) true)) && (cond c141 (c141 && (c141 && ((decide ((0:Int)≤s0.1)) && c154))) true)) && (cond c141 (c141 && c154) true)) && (cond c141 (c141 && c141) true)) && (cond s1.2.1 true c141)) true),c139,((IntKind.i64.wrap (s1.1+(1:Int))),(cond s1.2.1 true ((c171.1==c173.1) && ((c176.1==c178.1) && ((c181.1==c183.1) && ((c186.1==c188.1) && (c186.2==c188.2)))))),()),((!c139),s1.2.1,()))
noncomputable def withylaw09_ViewOrder_l0 (a1:((List Int) × (List (Int × (Int × (Int × (Int × Bool))))))) (a2:((List Int) × (List (Int × (Int × (Int × (Int × Bool))))))) (a3:((List Int) × (List (Int × (Int × (Int × (Int × Bool))))))) (s0:HL [.int .i64]):Bool × Bool × HL [.int .i64] × HL [.bool,.bool,.bool]:=
 let c116:=(view_Inner_r a1)
 let c131:=c116.2.2
 let c132:=c131.length
 let c134:=(decide (s0.1<(c132:Int)))
 let c201:=(loopD 1 [.int .i64,.bool] [.bool,.bool] (withylaw09_ViewOrder_l1 a1 a2 a3 s0) ((0:Int),false,()))
 let c205:=(!c201.2.2.1)
 ((cond c134 c201.1 true),(c134 && (!c205)),((IntKind.i64.wrap (s0.1+(1:Int))),()),((c134 && c205),false,(!c134),()))
noncomputable def withylaw09_ViewOrder_r (a1:((List Int) × (List (Int × (Int × (Int × (Int × Bool))))))) (a2:((List Int) × (List (Int × (Int × (Int × (Int × Bool))))))) (a3:((List Int) × (List (Int × (Int × (Int × (Int × Bool))))))):Bool × (Bool):=
 let c1:=(withylaw09_light_r a1)
 let c4:=(!c1.2)
 let c5:=(!c4)
 let c7:=(withylaw09_light_r a2)
 let c19:=(cond c4 true (!c7.2))
 let c20:=(!c19)
 let c22:=(withylaw09_light_r a3)
 let c33:=(cond c19 true (!c22.2))
 let c34:=(withylaw09_awake_r)
 let c35:=c34.1
 let c38:=(!c33)
 let c39:=(view_Merge_r a1 a2)
 let c41:=(view_Merge_r a2 a3)
 let c45:=(c39.2.1 !=(0:Int))
 let c46:=(!c45)
 let c52:=(cond c45 true (c41.2.1 !=(0:Int)))
 let c55:=(!c52)
 let c58:=(c39.2.2.1,c39.2.2.2)
 let c59:=(view_Merge_r c58 a3)
 let c64:=(view_Merge_r a1 (c41.2.2.1,c41.2.2.2))
 let c66:=(view_Merge_r a2 a1)
 let c70:=(c59.2.1 !=c64.2.1)
 let c71:=(!c70)
 let c77:=(cond c70 true (c66.2.1 !=(0:Int)))
 let c78:=(!c77)
 let c86:=(withyref09_Same_r (c59.2.2.1,c59.2.2.2) (c64.2.2.1,c64.2.2.2))
 let c97:=(cond c77 true (!c86.2))
 let c98:=(!c97)
 let c103:=(withyref09_Same_r c58 (c66.2.2.1,c66.2.2.2))
 let c115:=(!(cond c97 true (!c103.2)))
 let c116:=(view_Inner_r a1)
 let c118:=(view_Inner_r c58)
 let c121:=(c116.2.1 !=(0:Int))
 let c122:=(!c121)
 let c129:=(!(cond c121 true (c118.2.1 !=(0:Int))))
 let c211:=(loopD 0 [.int .i64] [.bool,.bool,.bool] (withylaw09_ViewOrder_l0 a1 a2 a3) ((0:Int),()))
 let c213:=c211.2.2.2.1
 let c231:=c34.2
 (((((((((c1.1 && (cond c5 (c5 && c7.1) true)) && (cond c5 c5 true)) && (cond c4 true c5)) && (cond c20 (c20 && c22.1) true)) && (cond c20 c20 true)) && (cond c19 true c20)) && (cond c33 c35 true)) && (cond c38 (c39.1 && (c41.1 && ((((cond c46 c46 true) && (cond c45 true c46)) && (cond c52 c35 true)) && (cond c55 (c59.1 && (c64.1 && (c66.1 && (((((((((cond c71 c71 true) && (cond c70 true c71)) && (cond c78 ((c78 && c78) && c86.1) true)) && (cond c78 c78 true)) && (cond c77 true c78)) && (cond c98 ((c98 && c98) && c103.1) true)) && (cond c98 c98 true)) && (cond c97 true c98)) && (cond c115 (c116.1 && (c118.1 && (((cond c122 c122 true) && (cond c121 true c122)) && (cond c129 (c211.1 && (cond c213 c35 true)) true)))) true))))) true)))) true)),((cond c38 (cond c55 (cond c115 (cond c129 (cond c213 c231 c211.2.2.1) false) false) c231) c231)))
def withylaw09_ViewOrder_e:Ent:=⟨3,[],[(.pure (.row (.prod (.fl (.int .i64)) (.fl (.row (.prod (.int .i64) (.prod (.int .i64) (.prod (.int .i64) (.prod (.int .i64) .bool)))))))) (Ty.dflt _)),(.pure (.row (.prod (.fl (.int .i64)) (.fl (.row (.prod (.int .i64) (.prod (.int .i64) (.prod (.int .i64) (.prod (.int .i64) .bool)))))))) (Ty.dflt _)),(.pure (.row (.prod (.fl (.int .i64)) (.fl (.row (.prod (.int .i64) (.prod (.int .i64) (.prod (.int .i64) (.prod (.int .i64) .bool)))))))) (Ty.dflt _))],[],[(.pure .bool (Ty.dflt _))],[]⟩
noncomputable def withylaw09_ViewOrder:Fun:=⟨withylaw09_ViewOrder_e,fun x=>let r:=withylaw09_ViewOrder_r x.1 x.2.1 x.2.2.1; (r.1,(r.2,()))⟩
theorem withylaw09_ViewOrder_ev:evFun Try.prog [withylaw09_light,withylaw09_awake,view_Merge,withyref09_Same,view_Inner] [⟨[19],[],⟨[],[],0⟩,[],[],[(1,[6]),(2,[])],[]⟩,⟨[21,20],[],⟨[],[],0⟩,[],[],[(1,[]),(4,[20])],[]⟩,⟨[],[],⟨[],[],0⟩,[],[],[],[(1000003,([8,10,19,20,21],[]))]⟩] Try.f3 (codeOf Try.f3) withylaw09_ViewOrder_e=(withylaw09_ViewOrder).fn:=by kernel_rfl
theorem withylaw09_ViewOrder_ok:FunOk Try.prog (withylaw09_ViewOrder):=fun_ok (opers_ok (oks_cons withylaw09_light_ok (oks_cons withylaw09_awake_ok (oks_cons view_Merge_ok (oks_cons withyref09_Same_ok (oks_cons view_Inner_ok oks_nil)))))) Try.call3 Try.func3 (by kernel_rfl) fun x _=>(congrFun (withylaw09_ViewOrder_ev) x).symm
end Go.Proofs.Ytoaegfcmfkalfaa.T
