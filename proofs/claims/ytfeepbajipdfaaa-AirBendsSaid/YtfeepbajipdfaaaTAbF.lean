/- What functions come to. -/
import Derived.Test.YtfeepbajipdfaaaTr4
import Derived.KernelRfl
import Derived.Lib.AppendZerosOnto
import Derived.Lib.Walk
import Derived.Lib.SliceRun
import Derived.Lib.Overlaps
import Derived.Laws.Externs
import Derived.Shelf.RegionOpenPlain
import Derived.WalkKit
import Derived.Test.YtfeepbajipdfaaaRows
namespace Go.Proofs.Ytfeepbajipdfaaa.T
open Go.Vm Go.Tm
set_option linter.unusedVariables false
set_option maxRecDepth 100000
noncomputable def withylaw20_light_l0 (a1:((List (Int × (Int × ((List Int) × Bool)))) × (List (Int × (Int × Int))))) (s0:HL [.int .i64,.int .i64]):Bool × Bool × HL [.int .i64,.int .i64] × HL [.bool,.int .i64]:=
 let c5:=(decide (s0.1<(a1.1.length:Int)))
 let c7:=(cond c5 c5 true)
 let c12:=(cond c5 (decide (s0.1<(200:Int))) false)
 let c13:=(cond c12 c12 true)
 let c19:=(cond c12 (decide (s0.2.1≤(9000:Int))) false)
 let c21:=(Int.toNat s0.1)
 let c22:=(decide (c21<a1.1.length))
 (((((c7 && c7) && c13) && c13) && (cond c19 (((decide ((0:Int)≤s0.1)) && c22) && c22) true)),c19,((IntKind.i64.wrap (s0.1+(1:Int))),(IntKind.i64.wrap (s0.2.1+(((a1.1[c21]?).getD ((0:Int),((0:Int),(([]:List Int),false)))).2.2.1.length:Int))),()),((!c19),s0.2.1,()))
noncomputable def withylaw20_light_r (a1:((List (Int × (Int × ((List Int) × Bool)))) × (List (Int × (Int × Int))))):Bool × (Bool):=
 let c38:=(loopD 0 [.int .i64,.int .i64] [.bool,.int .i64] (withylaw20_light_l0 a1) ((0:Int),(0:Int),()))
 let c41:=(decide ((a1.1.length:Int)≤(150:Int)))
 let c42:=(cond c41 c41 true)
 let c46:=(cond c41 (decide (c38.2.2.1≤(9000:Int))) false)
 let c47:=(cond c46 c46 true)
 ((c38.1 && (((((c42 && c42) && c47) && c47) && c47) && c47)),((cond c46 (decide ((a1.2.length:Int)≤(600:Int))) false)))
def withylaw20_light_e:Ent:=⟨23,[],[(.pure (.row (.prod (.fl (.row (.prod (.int .i64) (.prod (.int .i64) (.prod (.fl (.int .u8)) .bool))))) (.fl (.row (.prod (.int .i64) (.prod (.int .i64) (.int .i64))))))) (Ty.dflt _))],[],[(.pure .bool (Ty.dflt _))],[]⟩
noncomputable def withylaw20_light:Fun:=⟨withylaw20_light_e,fun x=>let r:=withylaw20_light_r x.1; (r.1,(r.2,()))⟩
theorem withylaw20_light_ev:evFun Try.prog [] [⟨[4,3],[],⟨[],[],0⟩,[],[],[(1,[]),(2,[3])],[]⟩] Try.f23 (codeOf Try.f23) withylaw20_light_e=(withylaw20_light).fn:=by kernel_rfl
theorem withylaw20_light_ok:FunOk Try.prog (withylaw20_light):=fun_ok (opers_ok oks_nil) Try.call23 Try.func23 (by kernel_rfl) fun x _=>(congrFun (withylaw20_light_ev) x).symm
noncomputable def edge_Node_r (a1:Int):Bool × (Bool):=
 let c2:=(decide (a1≥(1:Int)))
 let c4:=(cond c2 c2 true)
 ((c4 && c4),((cond c2 (decide (a1≤(64:Int))) false)))
def edge_Node_e:Ent:=⟨70,[],[(.pure (.int .i64) (Ty.dflt _))],[],[(.pure .bool (Ty.dflt _))],[]⟩
noncomputable def edge_Node:Fun:=⟨edge_Node_e,fun x=>let r:=edge_Node_r x.1; (r.1,(r.2,()))⟩
theorem edge_Node_ev:evFun Try.prog [] [] Try.f70 (codeOf Try.f70) edge_Node_e=(edge_Node).fn:=by kernel_rfl
theorem edge_Node_ok:FunOk Try.prog (edge_Node):=fun_ok (opers_ok oks_nil) Try.call70 Try.func70 (by kernel_rfl) fun x _=>(congrFun (edge_Node_ev) x).symm
noncomputable def edge_Check_r (a1:(Int × (Int × Int))):Bool × (Int):=
 let c2:=(edge_Node_r a1.1)
 let c5:=(!c2.2)
 let c6:=(!c5)
 let c8:=(cond c6 c6 true)
 let c12:=(edge_Node_r a1.2.1)
 let c22:=(cond c5 true (!c12.2))
 let c23:=(!c22)
 let c24:=(cond c23 c23 true)
 let c33:=(cond c22 true (decide (a1.1≥a1.2.1)))
 let c34:=(!c33)
 let c35:=(cond c34 c34 true)
 let c43:=(cond c33 true (decide (a1.2.2<(0:Int))))
 let c44:=(!c43)
 let c45:=(cond c44 c44 true)
 (((((((((((((((c2.1 && c8) && (cond c6 (c6 && c12.1) true)) && c8) && (cond c5 true c6)) && c24) && c24) && (cond c23 (c23 && c23) true)) && (cond c22 true c23)) && c35) && c35) && (cond c33 true c34)) && c45) && c45) && (cond c43 true c44)),((cond (!(cond c43 true (decide (a1.2.2>(2147483647:Int))))) (0:Int) (1:Int))))
def edge_Check_e:Ent:=⟨97,[],[(.pure (.row (.prod (.int .i64) (.prod (.int .i64) (.int .i64)))) (Ty.dflt _))],[],[(.pure (.int .i64) (Ty.dflt _))],[]⟩
noncomputable def edge_Check:Fun:=⟨edge_Check_e,fun x=>let r:=edge_Check_r x.1; (r.1,(r.2,()))⟩
theorem edge_Check_ev:evFun Try.prog [edge_Node] [] Try.f97 (codeOf Try.f97) edge_Check_e=(edge_Check).fn:=by kernel_rfl
theorem edge_Check_ok:FunOk Try.prog (edge_Check):=fun_ok (opers_ok (oks_cons edge_Node_ok oks_nil)) Try.call97 Try.func97 (by kernel_rfl) fun x _=>(congrFun (edge_Check_ev) x).symm
noncomputable def edge_CheckAll_l0 (a1:(List (Int × (Int × Int)))) (s0:HL [.int .i64,(.fl (.prod (.row (.prod (.int .i64) (.prod (.int .i64) (.int .i64)))) .bool))]):Bool × Bool × HL [.int .i64,(.fl (.prod (.row (.prod (.int .i64) (.prod (.int .i64) (.int .i64)))) .bool))] × HL [.bool,.int .i64,(.fl (.prod (.row (.prod (.int .i64) (.prod (.int .i64) (.int .i64)))) .bool)),.bool,(.fl (.prod (.row (.prod (.int .i64) (.prod (.int .i64) (.int .i64)))) .bool))]:=
 let c4:=(decide (s0.1<(a1.length:Int)))
 let c6:=(Int.toNat s0.1)
 let c7:=(decide (c6<a1.length))
 let c10:=((a1[c6]?).getD ((0:Int),((0:Int),(0:Int))))
 let c11:=(edge_Check_r c10)
 let c15:=(c11.2 !=(0:Int))
 let c16:=(!c15)
 let c30:=(c10.1,(c10.2.1,(0:Int)))
 let c33:=(cond c15 true (mapGet (k:=(.row (.prod (.int .i64) (.prod (.int .i64) (.int .i64))))) (v:=.bool) s0.2.1 c30 false))
 ((cond c4 ((((decide ((0:Int)≤s0.1)) && c7) && c7) && ((c11.1 && (cond c16 (c16 && c16) true)) && (cond c15 true c16))) true),(c4 && (!c33)),((IntKind.i64.wrap (s0.1+(1:Int))),(mapPut (k:=(.row (.prod (.int .i64) (.prod (.int .i64) (.int .i64))))) (v:=.bool) s0.2.1 c30 true),()),((c4 && c33),(1:Int),s0.2.1,(!c4),s0.2.1,()))
noncomputable def edge_CheckAll_r (a1:(List (Int × (Int × Int)))):Bool × (Int):=
 let c42:=(loopD 0 [.int .i64,(.fl (.prod (.row (.prod (.int .i64) (.prod (.int .i64) (.int .i64)))) .bool))] [.bool,.int .i64,(.fl (.prod (.row (.prod (.int .i64) (.prod (.int .i64) (.int .i64)))) .bool)),.bool,(.fl (.prod (.row (.prod (.int .i64) (.prod (.int .i64) (.int .i64)))) .bool))] (edge_CheckAll_l0 a1) ((0:Int),([]:List ((Int × (Int × Int)) × Bool)),()))
 (c42.1,((cond c42.2.2.2.2.1 (cond (!(decide ((a1.length:Int)>(512:Int)))) (0:Int) (3:Int)) c42.2.2.1)))
def edge_CheckAll_e:Ent:=⟨55,[],[(.pure (.fl (.row (.prod (.int .i64) (.prod (.int .i64) (.int .i64))))) (Ty.dflt _))],[],[(.pure (.int .i64) (Ty.dflt _))],[]⟩
noncomputable def edge_CheckAll:Fun:=⟨edge_CheckAll_e,fun x=>let r:=edge_CheckAll_r x.1; (r.1,(r.2,()))⟩
theorem edge_CheckAll_ev:evFun Try.prog [edge_Check] [⟨[10],[64],⟨[],[],0⟩,[],[],[(1,[2]),(2,[])],[]⟩,⟨[],[],⟨[],[],0⟩,[],[],[],[(1000003,([10],[]))]⟩] Try.f55 (codeOf Try.f55) edge_CheckAll_e=(edge_CheckAll).fn:=by kernel_rfl
theorem edge_CheckAll_ok:FunOk Try.prog (edge_CheckAll):=fun_ok (opers_ok (oks_cons edge_Check_ok oks_nil)) Try.call55 Try.func55 (by kernel_rfl) fun x _=>(congrFun (edge_CheckAll_ev) x).symm
noncomputable def cmp_isNaN_int_r (a1:Int):Bool × (Bool):=
 (true,((a1 !=a1)))
def cmp_isNaN_int_e:Ent:=⟨120,[],[(.pure (.int .i64) (Ty.dflt _))],[],[(.pure .bool (Ty.dflt _))],[]⟩
noncomputable def cmp_isNaN_int:Fun:=⟨cmp_isNaN_int_e,fun x=>let r:=cmp_isNaN_int_r x.1; (r.1,(r.2,()))⟩
theorem cmp_isNaN_int_ev:evFun Try.prog [] [] Try.f120 (codeOf Try.f120) cmp_isNaN_int_e=(cmp_isNaN_int).fn:=by kernel_rfl
theorem cmp_isNaN_int_ok:FunOk Try.prog (cmp_isNaN_int):=fun_ok (opers_ok oks_nil) Try.call120 Try.func120 (by kernel_rfl) fun x _=>(congrFun (cmp_isNaN_int_ev) x).symm
noncomputable def cmp_Compare_int_r (a1:Int) (a2:Int):Bool × (Int):=
 let c1:=(cmp_isNaN_int_r a1)
 let c4:=(cmp_isNaN_int_r a2)
 let c10:=(!c4.2)
 ((c1.1 && c4.1),((cond (!c1.2) (cond c10 (cond (!(decide (a1<a2))) (cond (!(decide (a1>a2))) (0:Int) (1:Int)) (-1:Int)) (1:Int)) (cond c10 (-1:Int) (0:Int)))))
def cmp_Compare_int_e:Ent:=⟨87,[],[(.pure (.int .i64) (Ty.dflt _)),(.pure (.int .i64) (Ty.dflt _))],[],[(.pure (.int .i64) (Ty.dflt _))],[]⟩
noncomputable def cmp_Compare_int:Fun:=⟨cmp_Compare_int_e,fun x=>let r:=cmp_Compare_int_r x.1 x.2.1; (r.1,(r.2,()))⟩
theorem cmp_Compare_int_ev:evFun Try.prog [cmp_isNaN_int] [] Try.f87 (codeOf Try.f87) cmp_Compare_int_e=(cmp_Compare_int).fn:=by kernel_rfl
theorem cmp_Compare_int_ok:FunOk Try.prog (cmp_Compare_int):=fun_ok (opers_ok (oks_cons cmp_isNaN_int_ok oks_nil)) Try.call87 Try.func87 (by kernel_rfl) fun x _=>(congrFun (cmp_Compare_int_ev) x).symm
noncomputable def cmp_Or_int_l0 (a1:(List Int)) (s0:HL [.int .i64]):Bool × Bool × HL [.int .i64] × HL [.bool,.int .i64,.bool]:=
 let c4:=(decide (s0.1<(a1.length:Int)))
 let c6:=(Int.toNat s0.1)
 let c7:=(decide (c6<a1.length))
 let c12:=((a1[c6]?).getD (0:Int))
 let c14:=(c12 !=(0:Int))
 ((cond c4 (((decide ((0:Int)≤s0.1)) && c7) && c7) true),(c4 && (!c14)),((IntKind.i64.wrap (s0.1+(1:Int))),()),((c4 && c14),c12,(!c4),()))
noncomputable def cmp_Or_int_r (a1:(List Int)):Bool × (Int):=
 let c21:=(loopD 0 [.int .i64] [.bool,.int .i64,.bool] (cmp_Or_int_l0 a1) ((0:Int),()))
 (c21.1,((cond c21.2.2.2.1 (0:Int) c21.2.2.1)))
def cmp_Or_int_e:Ent:=⟨86,[],[(.pure (.fl (.int .i64)) (Ty.dflt _))],[],[(.pure (.int .i64) (Ty.dflt _))],[]⟩
noncomputable def cmp_Or_int:Fun:=⟨cmp_Or_int_e,fun x=>let r:=cmp_Or_int_r x.1; (r.1,(r.2,()))⟩
theorem cmp_Or_int_ev:evFun Try.prog [] [⟨[8],[],⟨[],[],0⟩,[],[],[(1,[2]),(2,[])],[]⟩,⟨[],[],⟨[],[],0⟩,[],[],[],[(1000003,([8],[]))]⟩] Try.f86 (codeOf Try.f86) cmp_Or_int_e=(cmp_Or_int).fn:=by kernel_rfl
theorem cmp_Or_int_ok:FunOk Try.prog (cmp_Or_int):=fun_ok (opers_ok oks_nil) Try.call86 Try.func86 (by kernel_rfl) fun x _=>(congrFun (cmp_Or_int_ev) x).symm
noncomputable def air_order_r (a1:(Int × (Int × Int))) (a2:(Int × (Int × Int))):Bool × (Int):=
 let c4:=(cmp_Compare_int_r a1.1 a2.1)
 let c10:=(cmp_Compare_int_r a1.2.1 a2.2.1)
 let c18:=(cmp_Or_int_r (c4.2::(c10.2::([]:List Int))))
 (((c4.1 && c10.1) && c18.1),(c18.2))
def air_order_e:Ent:=⟨69,[],[(.pure (.row (.prod (.int .i64) (.prod (.int .i64) (.int .i64)))) (Ty.dflt _)),(.pure (.row (.prod (.int .i64) (.prod (.int .i64) (.int .i64)))) (Ty.dflt _))],[],[(.pure (.int .i64) (Ty.dflt _))],[]⟩
noncomputable def air_order:Fun:=⟨air_order_e,fun x=>let r:=air_order_r x.1 x.2.1; (r.1,(r.2,()))⟩
theorem air_order_ev:evFun Try.prog [cmp_Compare_int,cmp_Or_int] [] Try.f69 (codeOf Try.f69) air_order_e=(air_order).fn:=by kernel_rfl
theorem air_order_ok:FunOk Try.prog (air_order):=fun_ok (opers_ok (oks_cons cmp_Compare_int_ok (oks_cons cmp_Or_int_ok oks_nil))) Try.call69 Try.func69 (by kernel_rfl) fun x _=>(congrFun (air_order_ev) x).symm
noncomputable def slices_IsSortedFunc_api_Edge_l0 (a1:(List (Int × (Int × Int)))) (a2:Unit) (s0:HL [.int .i64]):Bool × Bool × HL [.int .i64] × HL [.bool,.bool,.bool]:=
 let c2:=(decide (s0.1>(0:Int)))
 let c4:=(Int.toNat s0.1)
 let c7:=(decide (c4<a1.length))
 let c11:=(IntKind.i64.wrap (s0.1 - (1:Int)))
 let c13:=(Int.toNat c11)
 let c14:=(decide (c13<a1.length))
 let c20:=(air_order_r ((a1[c4]?).getD ((0:Int),((0:Int),(0:Int)))) ((a1[c13]?).getD ((0:Int),((0:Int),(0:Int)))))
 let c26:=(decide (c20.2<(0:Int)))
 ((cond c2 ((((((decide ((0:Int)≤s0.1)) && c7) && c7) && ((decide ((0:Int)≤c11)) && c14)) && c14) && c20.1) true),(c2 && (!c26)),(c11,()),((c2 && c26),false,(!c2),()))
noncomputable def slices_IsSortedFunc_api_Edge_r (a1:(List (Int × (Int × Int)))) (a2:Unit):Bool × (Bool):=
 let c34:=(loopD 0 [.int .i64] [.bool,.bool,.bool] (slices_IsSortedFunc_api_Edge_l0 a1 a2) ((IntKind.i64.wrap ((a1.length:Int) - (1:Int))),()))
 (c34.1,((cond c34.2.2.2.1 true c34.2.2.1)))
def slices_IsSortedFunc_api_Edge_e:Ent:=⟨68,[],[(.pure (.fl (.row (.prod (.int .i64) (.prod (.int .i64) (.int .i64))))) (Ty.dflt _)),(.fn 69 (.pure .unit (Ty.dflt _)))],[],[(.pure .bool (Ty.dflt _))],[]⟩
noncomputable def slices_IsSortedFunc_api_Edge:Fun:=⟨slices_IsSortedFunc_api_Edge_e,fun x=>let r:=slices_IsSortedFunc_api_Edge_r x.1 x.2.1; (r.1,(r.2,()))⟩
theorem slices_IsSortedFunc_api_Edge_ev:evFun Try.prog [air_order] [⟨[5],[],⟨[],[],0⟩,[],[],[(1,[4]),(2,[])],[]⟩,⟨[],[],⟨[],[],0⟩,[],[],[],[(1000003,([5],[]))]⟩] Try.f68 (codeOf Try.f68) slices_IsSortedFunc_api_Edge_e=(slices_IsSortedFunc_api_Edge).fn:=by kernel_rfl
theorem slices_IsSortedFunc_api_Edge_ok:FunOk Try.prog (slices_IsSortedFunc_api_Edge):=fun_ok (opers_ok (oks_cons air_order_ok oks_nil)) Try.call68 Try.func68 (by kernel_rfl) fun x _=>(congrFun (slices_IsSortedFunc_api_Edge_ev) x).symm
noncomputable def air_Check_l0 (a1:((List (Int × (Int × ((List Int) × Bool)))) × (List (Int × (Int × Int))))) (s0:HL [.int .i64,(.arr 65 (.arr 65 .bool))]):Bool × Bool × HL [.int .i64,(.arr 65 (.arr 65 .bool))] × HL [.bool,(.arr 65 (.arr 65 .bool))]:=
 let c40:=(decide (s0.1<(a1.2.length:Int)))
 let c42:=(Int.toNat s0.1)
 let c43:=(decide (c42<a1.2.length))
 let c46:=((a1.2[c42]?).getD ((0:Int),((0:Int),(0:Int))))
 let c47:=c46.1
 let c49:=(Int.toNat c47)
 let c51:=(decide (c49<65))
 let c52:=((decide ((0:Int)≤c47)) && c51)
 let c54:=c46.2.1
 let c56:=(Int.toNat c54)
 let c57:=(decide (c56<65))
 let c58:=((decide ((0:Int)≤c54)) && c57)
 let c73:=(fun j=>bif Nat.beq j c49 then (fun j=>bif Nat.beq j c56 then true else (s0.2.1 c49) j) else s0.2.1 j)
 ((cond c40 ((((decide ((0:Int)≤s0.1)) && c43) && c43) && (((((c52 && c58) && (c51 && c57)) && c58) && c52) && (c57 && c51))) true),c40,((IntKind.i64.wrap (s0.1+(1:Int))),(fun j=>bif Nat.beq j c56 then (fun j=>bif Nat.beq j c49 then true else (c73 c56) j) else c73 j),()),((!c40),s0.2.1,()))
noncomputable def air_Check_l1 (a1:((List (Int × (Int × ((List Int) × Bool)))) × (List (Int × (Int × Int))))) (s1:HL [.int .i64]):Bool × Bool × HL [.int .i64] × HL [.bool,.int .i64,.bool]:=
 let c79:=(fun i=>((([false,false,false,false,false,false,false,false,false,false,false,false,false,false,false,false,false,false,false,false,false,false,false,false,false,false,false,false,false,false,false,false,false,false,false,false,false,false,false,false,false,false,false,false,false,false,false,false,false,false,false,false,false,false,false,false,false,false,false,false,false,false,false,false,false]:List Bool)[i]?).getD false))
 let c81:=(loopD 0 [.int .i64,(.arr 65 (.arr 65 .bool))] [.bool,(.arr 65 (.arr 65 .bool))] (air_Check_l0 a1) ((0:Int),(fun i=>((([c79,c79,c79,c79,c79,c79,c79,c79,c79,c79,c79,c79,c79,c79,c79,c79,c79,c79,c79,c79,c79,c79,c79,c79,c79,c79,c79,c79,c79,c79,c79,c79,c79,c79,c79,c79,c79,c79,c79,c79,c79,c79,c79,c79,c79,c79,c79,c79,c79,c79,c79,c79,c79,c79,c79,c79,c79,c79,c79,c79,c79,c79,c79,c79,c79]:List (Nat→Bool))[i]?).getD (fun _=>false))),()))
 let c84:=(decide (s1.1<(a1.1.length:Int)))
 let c86:=(Int.toNat s1.1)
 let c87:=(decide (c86<a1.1.length))
 let c90:=((a1.1[c86]?).getD ((0:Int),((0:Int),(([]:List Int),false))))
 let c91:=c90.1
 let c92:=(edge_Node_r c91)
 let c95:=(!c92.2)
 let c96:=(!c95)
 let c97:=(cond c96 c96 true)
 let c100:=c90.2.1
 let c101:=(edge_Node_r c100)
 let c111:=(cond c95 true (!c101.2))
 let c112:=(!c111)
 let c113:=(cond c112 c112 true)
 let c117:=(Int.toNat c91)
 let c118:=(decide (c117<65))
 let c124:=(Int.toNat c100)
 let c125:=(decide (c124<65))
 let c144:=(cond c111 true (!((c81.2.2.1 c117) c124)))
 ((cond c84 ((((decide ((0:Int)≤s1.1)) && c87) && c87) && (((((((((((c92.1 && c97) && (cond c96 (c96 && c101.1) true)) && c97) && (cond c95 true c96)) && c113) && c113) && (cond c112 (c112 && ((decide ((0:Int)≤c91)) && c118)) true)) && (cond c112 (c112 && (c112 && ((decide ((0:Int)≤c100)) && c125))) true)) && (cond c112 (c112 && (c118 && c125)) true)) && c113) && (cond c111 true c112))) true),(c84 && (!c144)),((IntKind.i64.wrap (s1.1+(1:Int))),()),((c84 && c144),(1:Int),(!c84),()))
noncomputable def air_Check_r (a1:((List (Int × (Int × ((List Int) × Bool)))) × (List (Int × (Int × Int))))):Bool × (Int):=
 let c2:=(edge_CheckAll_r a1.2)
 let c6:=(c2.2 !=(0:Int))
 let c7:=(!c6)
 let c9:=(cond c7 c7 true)
 let c12:=(slices_IsSortedFunc_api_Edge_r a1.2 ())
 let c22:=(cond c6 true (!c12.2))
 let c23:=(!c22)
 let c24:=(cond c23 c23 true)
 let c36:=(!(cond c22 true (decide ((a1.1.length:Int)>(16384:Int)))))
 let c79:=(fun i=>((([false,false,false,false,false,false,false,false,false,false,false,false,false,false,false,false,false,false,false,false,false,false,false,false,false,false,false,false,false,false,false,false,false,false,false,false,false,false,false,false,false,false,false,false,false,false,false,false,false,false,false,false,false,false,false,false,false,false,false,false,false,false,false,false,false]:List Bool)[i]?).getD false))
 let c81:=(loopD 0 [.int .i64,(.arr 65 (.arr 65 .bool))] [.bool,(.arr 65 (.arr 65 .bool))] (air_Check_l0 a1) ((0:Int),(fun i=>((([c79,c79,c79,c79,c79,c79,c79,c79,c79,c79,c79,c79,c79,c79,c79,c79,c79,c79,c79,c79,c79,c79,c79,c79,c79,c79,c79,c79,c79,c79,c79,c79,c79,c79,c79,c79,c79,c79,c79,c79,c79,c79,c79,c79,c79,c79,c79,c79,c79,c79,c79,c79,c79,c79,c79,c79,c79,c79,c79,c79,c79,c79,c79,c79,c79]:List (Nat→Bool))[i]?).getD (fun _=>false))),()))
 let c150:=(loopD 1 [.int .i64] [.bool,.int .i64,.bool] (air_Check_l1 a1) ((0:Int),()))
 ((((((((((c2.1 && c9) && (cond c7 (c7 && c12.1) true)) && c9) && (cond c6 true c7)) && c24) && c24) && c24) && (cond c22 true c23)) && (cond c36 (c81.1 && c150.1) true)),((cond c36 (cond c150.2.2.2.1 (0:Int) c150.2.2.1) (1:Int))))
def air_Check_e:Ent:=⟨27,[],[(.pure (.row (.prod (.fl (.row (.prod (.int .i64) (.prod (.int .i64) (.prod (.fl (.int .u8)) .bool))))) (.fl (.row (.prod (.int .i64) (.prod (.int .i64) (.int .i64))))))) (Ty.dflt _))],[],[(.pure (.int .i64) (Ty.dflt _))],[]⟩
noncomputable def air_Check:Fun:=⟨air_Check_e,fun x=>let r:=air_Check_r x.1; (r.1,(r.2,()))⟩
theorem air_Check_ev:evFun Try.prog [edge_CheckAll,slices_IsSortedFunc_api_Edge,edge_Node] [⟨[27],[1152],⟨[],[],0⟩,[],[],[(1,[]),(2,[])],[]⟩,⟨[47],[],⟨[],[],0⟩,[],[],[(1,[2]),(4,[])],[]⟩,⟨[],[],⟨[],[],0⟩,[],[],[],[(1000003,([27,47],[]))]⟩] Try.f27 (codeOf Try.f27) air_Check_e=(air_Check).fn:=by kernel_rfl
theorem air_Check_ok:FunOk Try.prog (air_Check):=fun_ok (opers_ok (oks_cons edge_CheckAll_ok (oks_cons slices_IsSortedFunc_api_Edge_ok (oks_cons edge_Node_ok oks_nil)))) Try.call27 Try.func27 (by kernel_rfl) fun x _=>(congrFun (air_Check_ev) x).symm
def slices_Clone_api_Edge_r (a1:List (Int × (Int × Int))):Bool × (List (Int × (Int × Int))):=(decide (a1.length*24≤140737488355328),a1)
noncomputable def slices_Clone_api_Edge:Fun:=cloneF 84 ((.row (.prod (.int .i64) (.prod (.int .i64) (.int .i64))))) 24
theorem slices_Clone_api_Edge_ok:FunOk Try.prog slices_Clone_api_Edge:=clone_ok (fn:=Try.f84) (c:=codeOf Try.f84) (opers_ok oks_nil) Try.call84 Try.func84 (by kernel_rfl) (by kernel_rfl) (by kernel_rfl) (fun _ _=>by kernel_rfl)
def slices_Clone_api_Flight_r (a1:List (Int × (Int × ((List Int) × Bool)))):Bool × (List (Int × (Int × ((List Int) × Bool)))):=(decide (a1.length*48≤140737488355328),a1)
noncomputable def slices_Clone_api_Flight:Fun:=cloneF 106 ((.row (.prod (.int .i64) (.prod (.int .i64) (.prod (.fl (.int .u8)) .bool))))) 48
theorem slices_Clone_api_Flight_ok:FunOk Try.prog slices_Clone_api_Flight:=clone_ok (fn:=Try.f106) (c:=codeOf Try.f106) (opers_ok oks_nil) Try.call106 Try.func106 (by kernel_rfl) (by kernel_rfl) (by kernel_rfl) (fun _ _=>by kernel_rfl)
def slices_Clone_byte_r (a1:List Int):Bool × (List Int):=(decide (a1.length*1≤140737488355328),a1)
noncomputable def slices_Clone_byte:Fun:=cloneF 66 (.int .u8) 1
theorem slices_Clone_byte_ok:FunOk Try.prog slices_Clone_byte:=clone_ok (fn:=Try.f66) (c:=codeOf Try.f66) (opers_ok oks_nil) Try.call66 Try.func66 (by kernel_rfl) (by kernel_rfl) (by kernel_rfl) (fun _ _=>by kernel_rfl)
noncomputable def air_own_l0 (a1:((List (Int × (Int × ((List Int) × Bool)))) × (List (Int × (Int × Int))))) (s0:HL [.int .i64,(.fl (.row (.prod (.int .i64) (.prod (.int .i64) (.prod (.fl (.int .u8)) .bool)))))]):Bool × Bool × HL [.int .i64,(.fl (.row (.prod (.int .i64) (.prod (.int .i64) (.prod (.fl (.int .u8)) .bool)))))] × HL [.bool,(.fl (.row (.prod (.int .i64) (.prod (.int .i64) (.prod (.fl (.int .u8)) .bool)))))]:=
 let c5:=(slices_Clone_api_Flight_r a1.1)
 let c9:=c5.2
 let c12:=(decide (s0.1<(c9.length:Int)))
 let c14:=(Int.toNat s0.1)
 let c17:=(decide (c14<s0.2.1.length))
 let c18:=((decide ((0:Int)≤s0.1)) && c17)
 let c20:=((s0.2.1[c14]?).getD ((0:Int),((0:Int),(([]:List Int),false))))
 let c21:=c20.2
 let c22:=c21.2
 let c24:=(slices_Clone_byte_r c22.1)
 ((cond c12 ((c18 && c17) && ((c24.1 && c18) && c17)) true),c12,((IntKind.i64.wrap (s0.1+(1:Int))),(s0.2.1.set c14 (c20.1,(c21.1,(c24.2,c22.2)))),()),((!c12),s0.2.1,()))
noncomputable def air_own_r (a1:((List (Int × (Int × ((List Int) × Bool)))) × (List (Int × (Int × Int))))):Bool × ((List (Int × (Int × ((List Int) × Bool)))) × (List (Int × (Int × Int)))):=
 let c2:=(slices_Clone_api_Edge_r a1.2)
 let c5:=(slices_Clone_api_Flight_r a1.1)
 let c9:=c5.2
 let c43:=(loopD 0 [.int .i64,(.fl (.row (.prod (.int .i64) (.prod (.int .i64) (.prod (.fl (.int .u8)) .bool)))))] [.bool,(.fl (.row (.prod (.int .i64) (.prod (.int .i64) (.prod (.fl (.int .u8)) .bool)))))] (air_own_l0 a1) ((0:Int),c9,()))
 (((c2.1 && c5.1) && c43.1),(c43.2.2.1,c2.2))
def air_own_e:Ent:=⟨63,[],[(.pure (.row (.prod (.fl (.row (.prod (.int .i64) (.prod (.int .i64) (.prod (.fl (.int .u8)) .bool))))) (.fl (.row (.prod (.int .i64) (.prod (.int .i64) (.int .i64))))))) (Ty.dflt _))],[(0,(.arr (.row (.prod (.int .i64) (.prod (.int .i64) (.prod (.fl (.int .u8)) .bool)))) [] false)),(1,(.arr (.row (.prod (.int .i64) (.prod (.int .i64) (.int .i64)))) [] false))],[(.row (.pair (.own 0 4) (.own 1 3)))],[]⟩
noncomputable def air_own:Fun:=⟨air_own_e,fun x=>let r:=air_own_r x.1; (r.1,(r.2.1,r.2.2,()))⟩
theorem air_own_ev:evFun Try.prog [slices_Clone_api_Edge,slices_Clone_api_Flight,slices_Clone_byte] [⟨[16],[448],⟨[],[],0⟩,[],[],[(1,[]),(2,[])],[]⟩] Try.f63 (codeOf Try.f63) air_own_e=(air_own).fn:=by kernel_rfl
theorem air_own_ok:FunOk Try.prog (air_own):=fun_ok (opers_ok (oks_cons slices_Clone_api_Edge_ok (oks_cons slices_Clone_api_Flight_ok (oks_cons slices_Clone_byte_ok oks_nil)))) Try.call63 Try.func63 (by kernel_rfl) fun x _=>(congrFun (air_own_ev) x).symm
noncomputable def slices_BinarySearchFunc_api_Edge_l0 (a1:(Int × (Int × Int))) (a2:Unit) (a3:(List (Int × (Int × Int)))) (s0:HL [.int .i64,.int .i64]):Bool × Bool × HL [.int .i64,.int .i64] × HL [.bool,.int .i64]:=
 let c2:=(decide (s0.2.1<s0.1))
 let c8:=(IntKind.i64.wrap ((iShr .u64 .u64 (IntKind.u64.wrap ((IntKind.i64.wrap (s0.2.1+s0.1)))) (1:Int))))
 let c10:=(Int.toNat c8)
 let c13:=(decide (c10<a3.length))
 let c18:=(air_order_r ((a3[c10]?).getD ((0:Int),((0:Int),(0:Int)))) a1)
 let c26:=(decide (c18.2<(0:Int)))
 ((cond c2 ((decide ((0:Int)≤(1:Int))) && ((((decide ((0:Int)≤c8)) && c13) && c13) && c18.1)) true),c2,((cond c26 s0.1 c8),(cond c26 (IntKind.i64.wrap (c8+(1:Int))) s0.2.1),()),((!c2),s0.2.1,()))
noncomputable def slices_BinarySearchFunc_api_Edge_r (a1:(Int × (Int × Int))) (a2:Unit) (a3:(List (Int × (Int × Int)))):Bool × (Int × Bool):=
 let c32:=(loopD 0 [.int .i64,.int .i64] [.bool,.int .i64] (slices_BinarySearchFunc_api_Edge_l0 a1 a2 a3) ((a3.length:Int),(0:Int),()))
 let c34:=c32.2.2.1
 let c35:=(decide (c34<(a3.length:Int)))
 let c37:=(Int.toNat c34)
 let c38:=(decide (c37<a3.length))
 let c48:=(air_order_r ((a3[c37]?).getD ((0:Int),((0:Int),(0:Int)))) a1)
 let c54:=(cond c35 c35 true)
 ((c32.1 && (((((cond c35 (c35 && (c35 && ((decide ((0:Int)≤c34)) && c38))) true) && (cond c35 (c35 && c38) true)) && (cond c35 (c35 && ((c35 && c35) && c48.1)) true)) && c54) && c54)),(c34,(cond c35 (c48.2==(0:Int)) false)))
def slices_BinarySearchFunc_api_Edge_e:Ent:=⟨107,[(0,(.arr (.row (.prod (.int .i64) (.prod (.int .i64) (.int .i64)))) [] false))],[(.own 0 3),(.pure (.row (.prod (.int .i64) (.prod (.int .i64) (.int .i64)))) (Ty.dflt _)),(.fn 69 (.pure .unit (Ty.dflt _)))],[],[(.pure (.int .i64) (Ty.dflt _)),(.pure .bool (Ty.dflt _))],[0]⟩
noncomputable def slices_BinarySearchFunc_api_Edge:Fun:=⟨slices_BinarySearchFunc_api_Edge_e,fun x=>let r:=slices_BinarySearchFunc_api_Edge_r x.1 x.2.1 x.2.2.1; (r.1,(r.2.1,r.2.2,()))⟩
theorem slices_BinarySearchFunc_api_Edge_ev:evFun Try.prog [air_order] [⟨[10,9],[],⟨[],[],0⟩,[],[],[(1,[]),(2,[9])],[]⟩] Try.f107 (codeOf Try.f107) slices_BinarySearchFunc_api_Edge_e=(slices_BinarySearchFunc_api_Edge).fn:=by kernel_rfl
theorem slices_BinarySearchFunc_api_Edge_ok:FunOk Try.prog (slices_BinarySearchFunc_api_Edge):=fun_ok (opers_ok (oks_cons air_order_ok oks_nil)) Try.call107 Try.func107 (by kernel_rfl) fun x _=>(congrFun (slices_BinarySearchFunc_api_Edge_ev) x).symm
noncomputable def slices_Delete_api_Edge_r (a1:Int) (a2:Int) (a3:(List (Int × (Int × Int)))):Bool × (Nat × Nat × (List (Int × (Int × Int)))):=
 let c1:=(decide ((0:Int)≤a1))
 let c3:=(decide ((0:Int)≤a2))
 let c7:=(decide ((0:Int)≤(a3.length:Int)))
 let c10:=(Int.toNat a1)
 let c11:=(Int.toNat a2)
 let c13:=(Int.toNat (a3.length:Int))
 let c20:=(!(a1==a2))
 let c28:=((a3.drop c11).take (a3.length - c11))
 let c29:=c28.length
 let c30:=(c10+c29)
 let c33:=(c30:Int)
 let c36:=(Int.toNat c33)
 let c45:=(((a3.drop 0).take c10)++(c28++(a3.drop ((0+c10)+c29))))
 ((((c1 && (c3 && c7)) && ((decide (c10≤c11)) && ((decide (c11≤c13)) && (decide (c13=a3.length))))) && (cond c20 ((((c1 && (decide (c10≤a3.length))) && (c3 && (decide (c11≤a3.length)))) && (decide (c30*24≤140737488355328))) && (((decide ((0:Int)≤c33)) && c7) && ((decide (c36≤c13)) && (decide (c13≤c45.length))))) true)),((cond c20 0 0),(cond c20 c30 a3.length),(cond c20 (c45.take c36++((List.replicate (c13 - c36) ((0:Int),((0:Int),(0:Int))))++c45.drop (c36+(List.replicate (c13 - c36) ((0:Int),((0:Int),(0:Int)))).length))) a3)))
def slices_Delete_api_Edge_e:Ent:=⟨108,[(0,(.arr (.row (.prod (.int .i64) (.prod (.int .i64) (.int .i64)))) [] false))],[(.own 0 3),(.pure (.int .i64) (Ty.dflt _)),(.pure (.int .i64) (Ty.dflt _))],[(1,(.arr (.row (.prod (.int .i64) (.prod (.int .i64) (.int .i64)))) [] false))],[(.sref 1 3 0 0)],[]⟩
noncomputable def slices_Delete_api_Edge:Fun:=⟨slices_Delete_api_Edge_e,fun x=>let r:=slices_Delete_api_Edge_r x.1 x.2.1 x.2.2.1; (r.1,(r.2.1,r.2.2.1,r.2.2.2,()))⟩
theorem slices_Delete_api_Edge_ev:evFun Try.prog [] [⟨[],[],⟨[],[],0⟩,[],[],[],[(1000003,([0],[]))]⟩] Try.f108 (codeOf Try.f108) slices_Delete_api_Edge_e=(slices_Delete_api_Edge).fn:=by kernel_rfl
theorem slices_Delete_api_Edge_ok:FunOk Try.prog (slices_Delete_api_Edge):=fun_ok (opers_ok oks_nil) Try.call108 Try.func108 (by kernel_rfl) fun x _=>(congrFun (slices_Delete_api_Edge_ev) x).symm
noncomputable def air_link_1_r (a1:(Int × (Int × ((List Int) × Bool)))) (a2:(Int × (Int × Int))):Bool × (Bool):=
 let c7:=((if a1.2.1<a1.1 then a1.2.1 else a1.1)==a2.1)
 let c9:=(cond c7 c7 true)
 let c12:=(cond c7 (c7 && c7) true)
 ((((((c9 && c9) && c12) && c9) && c12) && c9),((cond c7 ((if a1.1<a1.2.1 then a1.2.1 else a1.1)==a2.2.1) false)))
def air_link_1_e:Ent:=⟨110,[(0,(.var 62 (.pure (.row (.prod (.int .i64) (.prod (.int .i64) (.int .i64)))) (Ty.dflt _))))],[(.pure (.row (.prod (.int .i64) (.prod (.int .i64) (.prod (.fl (.int .u8)) .bool)))) (Ty.dflt _)),(.ptr 0 [])],[],[(.pure .bool (Ty.dflt _))],[0]⟩
noncomputable def air_link_1:Fun:=⟨air_link_1_e,fun x=>let r:=air_link_1_r x.1 x.2.1; (r.1,(r.2,()))⟩
theorem air_link_1_ev:evFun Try.prog [] [] Try.f110 (codeOf Try.f110) air_link_1_e=(air_link_1).fn:=by kernel_rfl
theorem air_link_1_ok:FunOk Try.prog (air_link_1):=fun_ok (opers_ok oks_nil) Try.call110 Try.func110 (by kernel_rfl) fun x _=>(congrFun (air_link_1_ev) x).symm
noncomputable def slices_IndexFunc_api_Flight_l0 (a1:Unit) (a2:(List (Int × (Int × ((List Int) × Bool))))) (a3:(Int × (Int × Int))) (s0:HL [.int .i64]):Bool × Bool × HL [.int .i64] × HL [.bool,.int .i64,.bool]:=
 let c4:=(decide (s0.1<(a2.length:Int)))
 let c6:=(Int.toNat s0.1)
 let c7:=(decide (c6<a2.length))
 let c12:=(air_link_1_r ((a2[c6]?).getD ((0:Int),((0:Int),(([]:List Int),false)))) a3)
 let c17:=c12.2
 ((cond c4 ((((decide ((0:Int)≤s0.1)) && c7) && c7) && c12.1) true),(c4 && (!c17)),((IntKind.i64.wrap (s0.1+(1:Int))),()),((c4 && c17),s0.1,(!c4),()))
noncomputable def slices_IndexFunc_api_Flight_r (a1:Unit) (a2:(List (Int × (Int × ((List Int) × Bool))))) (a3:(Int × (Int × Int))):Bool × (Int):=
 let c25:=(loopD 0 [.int .i64] [.bool,.int .i64,.bool] (slices_IndexFunc_api_Flight_l0 a1 a2 a3) ((0:Int),()))
 (c25.1,((cond c25.2.2.2.1 (-1:Int) c25.2.2.1)))
def slices_IndexFunc_api_Flight_e:Ent:=⟨138,[(0,(.arr (.row (.prod (.int .i64) (.prod (.int .i64) (.prod (.fl (.int .u8)) .bool)))) [] false)),(1,(.var 62 (.pure (.row (.prod (.int .i64) (.prod (.int .i64) (.int .i64)))) (Ty.dflt _))))],[(.own 0 4),(.fn 110 (.pair (.ptr 1 []) (.pure .unit (Ty.dflt _))))],[],[(.pure (.int .i64) (Ty.dflt _))],[0,1]⟩
noncomputable def slices_IndexFunc_api_Flight:Fun:=⟨slices_IndexFunc_api_Flight_e,fun x=>let r:=slices_IndexFunc_api_Flight_r x.1 x.2.1 x.2.2.1; (r.1,(r.2,()))⟩
theorem slices_IndexFunc_api_Flight_ev:evFun Try.prog [air_link_1] [⟨[8],[],⟨[],[],0⟩,[],[],[(1,[4]),(2,[])],[]⟩,⟨[],[],⟨[],[],0⟩,[],[],[],[(1000003,([8],[]))]⟩] Try.f138 (codeOf Try.f138) slices_IndexFunc_api_Flight_e=(slices_IndexFunc_api_Flight).fn:=by kernel_rfl
theorem slices_IndexFunc_api_Flight_ok:FunOk Try.prog (slices_IndexFunc_api_Flight):=fun_ok (opers_ok (oks_cons air_link_1_ok oks_nil)) Try.call138 Try.func138 (by kernel_rfl) fun x _=>(congrFun (slices_IndexFunc_api_Flight_ev) x).symm
noncomputable def slices_DeleteFunc_api_Flight_l0 (a1:Unit) (a2:(List (Int × (Int × ((List Int) × Bool))))) (a3:(Int × (Int × Int))) (s0:HL [.int .i64,.int .i64,(.fl (.row (.prod (.int .i64) (.prod (.int .i64) (.prod (.fl (.int .u8)) .bool)))))]):Bool × Bool × HL [.int .i64,.int .i64,(.fl (.row (.prod (.int .i64) (.prod (.int .i64) (.prod (.fl (.int .u8)) .bool)))))] × HL [.bool,.int .i64,(.fl (.row (.prod (.int .i64) (.prod (.int .i64) (.prod (.fl (.int .u8)) .bool)))))]:=
 let c13:=(decide (s0.1<(s0.2.2.1.length:Int)))
 let c15:=(Int.toNat s0.1)
 let c16:=(decide (c15<s0.2.2.1.length))
 let c19:=((s0.2.2.1[c15]?).getD ((0:Int),((0:Int),(([]:List Int),false))))
 let c20:=(air_link_1_r c19 a3)
 let c23:=(!c20.2)
 let c26:=(Int.toNat s0.2.1)
 let c27:=(decide (c26<s0.2.2.1.length))
 ((cond c13 ((((decide ((0:Int)≤s0.1)) && c16) && c16) && (c20.1 && (cond c23 (((decide ((0:Int)≤s0.2.1)) && c27) && c27) true))) true),c13,((IntKind.i64.wrap (s0.1+(1:Int))),(cond c23 (IntKind.i64.wrap (s0.2.1+(1:Int))) s0.2.1),(cond c23 (s0.2.2.1.set c26 c19) s0.2.2.1),()),((!c13),s0.2.1,s0.2.2.1,()))
noncomputable def slices_DeleteFunc_api_Flight_r (a1:Unit) (a2:(List (Int × (Int × ((List Int) × Bool))))) (a3:(Int × (Int × Int))):Bool × (Nat × Nat × (List (Int × (Int × ((List Int) × Bool))))):=
 let c3:=(slices_IndexFunc_api_Flight_r a1 a2 a3)
 let c5:=c3.2
 let c8:=(!(c5==(-1:Int)))
 let c43:=(loopD 0 [.int .i64,.int .i64,(.fl (.row (.prod (.int .i64) (.prod (.int .i64) (.prod (.fl (.int .u8)) .bool)))))] [.bool,.int .i64,(.fl (.row (.prod (.int .i64) (.prod (.int .i64) (.prod (.fl (.int .u8)) .bool)))))] (slices_DeleteFunc_api_Flight_l0 a1 a2 a3) ((IntKind.i64.wrap (c5+(1:Int))),c5,a2,()))
 let c45:=c43.2.2.1
 let c46:=(decide ((0:Int)≤c45))
 let c47:=(Int.toNat c45)
 let c48:=c43.2.2.2.1
 let c49:=c48.length
 let c60:=(c48.take c47++((List.replicate (c49 - c47) ((0:Int),((0:Int),(([]:List Int),false))))++c48.drop (c47+(List.replicate (c49 - c47) ((0:Int),((0:Int),(([]:List Int),false)))).length)))
 ((c3.1 && (cond c8 (c43.1 && ((c46 && (decide (c47≤c49))) && (c46 && (decide (c47≤c60.length))))) true)),((cond c8 0 0),(cond c8 c47 a2.length),(cond c8 c60 a2)))
def slices_DeleteFunc_api_Flight_e:Ent:=⟨109,[(0,(.arr (.row (.prod (.int .i64) (.prod (.int .i64) (.prod (.fl (.int .u8)) .bool)))) [] false)),(1,(.var 62 (.pure (.row (.prod (.int .i64) (.prod (.int .i64) (.int .i64)))) (Ty.dflt _))))],[(.own 0 4),(.fn 110 (.pair (.ptr 1 []) (.pure .unit (Ty.dflt _))))],[(0,(.arr (.row (.prod (.int .i64) (.prod (.int .i64) (.prod (.fl (.int .u8)) .bool)))) [] false))],[(.sref 0 4 0 0)],[1]⟩
noncomputable def slices_DeleteFunc_api_Flight:Fun:=⟨slices_DeleteFunc_api_Flight_e,fun x=>let r:=slices_DeleteFunc_api_Flight_r x.1 x.2.1 x.2.2.1; (r.1,(r.2.1,r.2.2.1,r.2.2.2,()))⟩
theorem slices_DeleteFunc_api_Flight_ev:evFun Try.prog [slices_IndexFunc_api_Flight,air_link_1] [⟨[6,5],[0],⟨[],[],0⟩,[],[],[(1,[]),(2,[5])],[]⟩,⟨[],[],⟨[],[],0⟩,[],[],[],[(1000003,([5,6],[]))]⟩] Try.f109 (codeOf Try.f109) slices_DeleteFunc_api_Flight_e=(slices_DeleteFunc_api_Flight).fn:=by kernel_rfl
theorem slices_DeleteFunc_api_Flight_ok:FunOk Try.prog (slices_DeleteFunc_api_Flight):=fun_ok (opers_ok (oks_cons slices_IndexFunc_api_Flight_ok (oks_cons air_link_1_ok oks_nil))) Try.call109 Try.func109 (by kernel_rfl) fun x _=>(congrFun (slices_DeleteFunc_api_Flight_ev) x).symm
open Go.RowKit Go.Lib in
set_option linter.unusedSimpArgs false in
set_option maxHeartbeats 4000000 in
set_option maxRecDepth 100000 in
theorem slices_Insert_api_Edge_fin (base:Option Addr) (n c vb voff vc:Nat) (w w1:World) (v1:Value) (hn:n≤140737488355328)
  (happ:(Builtin.append_ #[43,43] 43 #[.slice base n c,.slice (some ⟨vb,voff,none⟩) 1 vc]).run Try.prog w=.ok v1 w1):
  Calls Try.prog 111 #[.slice base n c,.int .i64 (n:Int),.slice (some ⟨vb,voff,none⟩) 1 vc] w fun e w'=>e=.returned v1∧w'=w1:=by
 go_enter Try.func111,Try.ntmps111
 go_wp2_with (at_builtin; refine Lib.wpList_append_run _ rfl _ _ _ _ rfl _ _ rfl rfl _ _ happ ?_)
 all_goals (go_ret; exact ⟨rfl,rfl⟩)
open Go.RowKit Go.Lib in
set_option linter.unusedSimpArgs false in
set_option maxHeartbeats 4000000 in
set_option maxRecDepth 100000 in
theorem slices_Insert_api_Edge_grow (b off n c i vb voff vc B G:Nat) (w w1 w2 w3:World) (k1 k2:Int) (hi:i<n) (hnc:n≤c) (hroom:c<n+1) (hn:n≤140737488355328) (hG:n+1≤G) (hG63:G≤9223372036854775807)
  (hap:(Builtin.append_ #[43,3] 43 #[.slice (some ⟨b,off,none⟩) i c,.int .i64 ((n:Int)+1 - (i:Int))]).run Try.prog w=.ok (.slice (some ⟨B,0,none⟩) (n+1) G) w1)
  (hc1:(Builtin.copy_ #[43,43] 3 #[.slice (some ⟨B,i*3,none⟩) (n+1 - i) (G - i),.slice (some ⟨vb,voff,none⟩) 1 vc]).run Try.prog w1=.ok (.int .i64 k1) w2)
  (hc2:(Builtin.copy_ #[43,43] 3 #[.slice (some ⟨B,(i+1)*3,none⟩) (n+1 - (i+1)) (G - (i+1)),.slice (some ⟨b,off+i*3,none⟩) (n - i) (c - i)]).run Try.prog w2.drew=.ok (.int .i64 k2) w3):
  Calls Try.prog 111 #[.slice (some ⟨b,off,none⟩) n c,.int .i64 (i:Int),.slice (some ⟨vb,voff,none⟩) 1 vc] w fun e w'=>e=.returned (.slice (some ⟨B,0,none⟩) (n+1) G)∧w'=w3:=by
 have mixed:Try.prog.follows Departure.mixedOrders=true:=by kernel_rfl
 have hz2:¬ ((i:Int)=(n:Int)):=by omega
 have hz3:(c:Int)<(n:Int)+1:=by omega
 have hw1:IntKind.i64.wrap ((i:Int)+1)=(i:Int)+1:=by rw [IntKind.wrap_i64]; omega
 have hGi:¬ (G=i):=by omega
 have hGim:¬ (G=i+1):=by omega
 have hci:¬ (c=i):=by omega
 have hin:i≤n:=by omega
 have htn:((i:Int)+1).toNat=i+1:=by omega
 have hb1:(0:Int)≤(i:Int)+1:=by omega
 have hb3:(i:Int)≤(n:Int):=by omega
 go_enter Try.func111,Try.ntmps111
 go_wp2_with (first
  | (at_builtin; refine Lib.wpList_append_run _ rfl _ _ _ _ rfl _ _ rfl rfl _ _ hap ?_)
  | (at_builtin; refine wpList_copy_runI _ rfl _ _ 43 43 rfl _ _ rfl rfl hc1 ?_))
 go_region_law_o (refine step_copy_runI rfl _ _ 43 43 rfl _ _ (by simp [Act.eval,Act.put]) (by simp [Act.eval,Act.put]) hc2 ?_)
 go_wp2
 go_ret
 exact ⟨rfl,rfl⟩
open Go.RowKit Go.Lib in
set_option linter.unusedSimpArgs false in
set_option maxHeartbeats 4000000 in
set_option maxRecDepth 100000 in
theorem slices_Insert_api_Edge_room (b off n c i vb voff vc:Nat) (w w1 w2:World) (k1 k2:Int) (hi:i<n) (hroom:n+1≤c) (hn:n≤140737488355328)
  (hov:∀ lb cb,(callFunc 139 #[.slice (some ⟨vb,voff,none⟩) 1 vc,.slice (some ⟨b,off+(i+1)*3,none⟩) lb cb]).run Try.prog w=.ok (.value (.bool false)) w)
  (hc1:(Builtin.copy_ #[43,43] 3 #[.slice (some ⟨b,off+(i+1)*3,none⟩) (n+1 - (i+1)) (c - (i+1)),.slice (some ⟨b,off+i*3,none⟩) (n+1 - i) (c - i)]).run Try.prog w.drew=.ok (.int .i64 k1) w1)
  (hc2:(Builtin.copy_ #[43,43] 3 #[.slice (some ⟨b,off+i*3,none⟩) (n+1 - i) (c - i),.slice (some ⟨vb,voff,none⟩) 1 vc]).run Try.prog w1=.ok (.int .i64 k2) w2):
  Calls Try.prog 111 #[.slice (some ⟨b,off,none⟩) n c,.int .i64 (i:Int),.slice (some ⟨vb,voff,none⟩) 1 vc] w fun e w'=>e=.returned (.slice (some ⟨b,off,none⟩) (n+1) c)∧w'=w2:=by
 have mixed:Try.prog.follows Departure.mixedOrders=true:=by kernel_rfl
 have hz2:¬ ((i:Int)=(n:Int)):=by omega
 have hz3:¬ ((c:Int)<(n:Int)+1):=by omega
 have hw1:IntKind.i64.wrap ((i:Int)+1)=(i:Int)+1:=by rw [IntKind.wrap_i64]; omega
 have hci1:¬ (c=i+1):=by omega
 have hci:¬ (c=i):=by omega
 have hin:i≤n:=by omega
 have htn:((i:Int)+1).toNat=i+1:=by omega
 have hb1:(0:Int)≤(i:Int)+1:=by omega
 have hb3:(i:Int)≤(n:Int)+1:=by omega
 go_enter Try.func111,Try.ntmps111
 go_wp2_with (simp only [hov])
 go_region_law_o (refine step_copy_runI rfl _ _ 43 43 rfl _ _ (by simp [Act.eval,Act.put]) (by simp [Act.eval,Act.put]) hc1 ?_)
 go_wp2_with (at_builtin; refine wpList_copy_runI _ rfl _ _ 43 43 rfl _ _ rfl rfl hc2 ?_)
 go_ret
 exact ⟨rfl,rfl⟩
open Go.RowKit Go.Lib in
theorem slices_Insert_api_Edge_walk:InsWalk Try.prog 111 43 3 3 where
 fin:=fun base n c vb voff vc w w1 v1 hn h=>slices_Insert_api_Edge_fin base n c vb voff vc w w1 v1 hn h
 grow:=fun b off n c i vb voff vc B G w w1 w2 w3 k1 k2 h1 h2 h3 h4 h5 h6 hap hc1 hc2=>slices_Insert_api_Edge_grow b off n c i vb voff vc B G w w1 w2 w3 k1 k2 h1 h2 h3 h4 h5 h6 hap hc1 hc2
 room:=fun b off n c i vb voff vc w w1 w2 k1 k2 arr arr1 e e1 hi hc hn hvb hb1 hb h0 hc1 hc2=>slices_Insert_api_Edge_room b off n c i vb voff vc w w1 w2 k1 k2 hi hc hn (fun lb cb=>by
  have hz:∀ w,(Go.sizeOf 62).run Try.prog w=.ok 3 w:=fun w=>by
   obtain ⟨i0,_,hi0,_,_,hs0,_⟩:=kindOk_some (P:=Try.prog) (e:=62) (sz:=3) (k:=24) (by kernel_rfl)
   simp [Go.sizeOf,typeInfo,hi0,hs0]
  rw [run_callFunc_extern Try.func139 (by kernel_rfl) (by kernel_rfl) (by kernel_rfl) (e:=Extern.SlicesOverlaps.overlaps #[43,43] #[4]) (by kernel_rfl),
   Lib.run_overlaps_apart w 43 4 62 (by kernel_rfl) 3 hz ⟨vb,voff,none⟩ ⟨b,off+(i+1)*3,none⟩ 1 vc lb cb hvb e1 e arr1.size arr.size (by simp [World.shape?,hb1]) (by simp [World.shape?,hb]) (by omega) (by simp [World.frozen?,hb1]) (by simp [World.frozen?,hb1])]
  rfl) hc1 hc2
def slices_Insert_api_Edge_r (a1:Int) (a2:List (Int × (Int × Int))) (a3:List (Int × (Int × Int))):Bool × (List (Int × (Int × Int))):=((decide (a3.length=1) && (decide ((0:Int)≤a1) && (decide (Int.toNat a1≤a2.length) && decide ((a2.length+1)*24≤140737488355328)))),a2.take (Int.toNat a1)++(a3++a2.drop (Int.toNat a1)))
noncomputable def slices_Insert_api_Edge:Fun:=insF 111 ((.row (.prod (.int .i64) (.prod (.int .i64) (.int .i64))))) 24
theorem slices_Insert_api_Edge_ok:FunOk Try.prog slices_Insert_api_Edge:=ins_ok (f:=111) (t:=(.row (.prod (.int .i64) (.prod (.int .i64) (.int .i64))))) (k:=24) (tS:=43) (tI:=3) (e:=62) (by decide) (by decide) Try.call111 (by kernel_rfl) (by kernel_rfl) (by kernel_rfl) slices_Insert_api_Edge_walk
noncomputable def air_link_r (a1:(Int × (Int × (Int × (Int × Int))))) (a2:(List (Int × (Int × ((List Int) × Bool))))) (a3:(List (Int × (Int × Int)))):Bool × (Nat × Nat × Nat × Nat × (List (Int × (Int × ((List Int) × Bool)))) × (List (Int × (Int × Int)))):=
 let c10:=((if a1.2.2.1<a1.2.1 then a1.2.2.1 else a1.2.1),((if a1.2.1<a1.2.2.1 then a1.2.2.1 else a1.2.1),a1.2.2.2.2))
 let c13:=(slices_BinarySearchFunc_api_Edge_r c10 () a3)
 let c17:=(a1.1==(9:Int))
 let c20:=c13.2.2
 let c22:=(cond c17 c20 false)
 let c23:=c13.2.1
 let c26:=(slices_Delete_api_Edge_r c23 (IntKind.i64.wrap (c23+(1:Int))) a3)
 let c29:=(slices_DeleteFunc_api_Flight_r () a2 c10)
 let c33:=(a1.1==(8:Int))
 let c34:=(edge_Check_r c10)
 let c38:=(cond c33 c33 true)
 let c44:=(cond c33 (c34.2==(0:Int)) false)
 let c45:=(cond c44 c44 true)
 let c46:=((((cond c33 (c33 && c34.1) true) && c38) && c38) && c45)
 let c47:=(cond c44 c20 false)
 let c49:=(Int.toNat c23)
 let c51:=(decide (c49<a3.length))
 let c60:=(cond c44 (decide ((a3.length:Int)<(512:Int))) false)
 let c63:=(slices_Insert_api_Edge_r c23 a3 (c10::([]:List (Int × (Int × Int)))))
 let c84:=(cond c47 (a3.set c49 c10) (cond c60 c63.2 a3))
 ((c13.1 && ((cond c17 c17 true) && (cond c22 (c26.1 && c29.1) (c46 && (cond c47 (((decide ((0:Int)≤c23)) && c51) && c51) ((((c46 && c45) && c45) && c45) && (cond c60 c63.1 true))))))),((cond c22 c29.2.1 0),(cond c22 c29.2.2.1 a2.length),(cond c22 c26.2.1 0),(cond c22 c26.2.2.1 c84.length),(cond c22 c29.2.2.2 a2),(cond c22 c26.2.2.2 c84)))
def air_link_e:Ent:=⟨64,[(0,(.arr (.row (.prod (.int .i64) (.prod (.int .i64) (.prod (.fl (.int .u8)) .bool)))) [] false)),(1,(.arr (.row (.prod (.int .i64) (.prod (.int .i64) (.int .i64)))) [] false))],[(.row (.pair (.own 0 4) (.own 1 3))),(.pure (.row (.prod (.int .i64) (.prod (.int .i64) (.prod (.int .i64) (.prod (.int .i64) (.int .i64)))))) (Ty.dflt _))],[(0,(.arr (.row (.prod (.int .i64) (.prod (.int .i64) (.prod (.fl (.int .u8)) .bool)))) [] false)),(2,(.arr (.row (.prod (.int .i64) (.prod (.int .i64) (.int .i64)))) [] false))],[(.row (.pair (.sref 0 4 0 0) (.sref 2 3 0 0)))],[]⟩
noncomputable def air_link:Fun:=⟨air_link_e,fun x=>let r:=air_link_r x.1 x.2.1 x.2.2.1; (r.1,(r.2.1,r.2.2.1,r.2.2.2.1,r.2.2.2.2.1,r.2.2.2.2.2.1,r.2.2.2.2.2.2,()))⟩
theorem air_link_ev:evFun Try.prog [slices_BinarySearchFunc_api_Edge,slices_Delete_api_Edge,slices_DeleteFunc_api_Flight,edge_Check,slices_Insert_api_Edge] [] Try.f64 (codeOf Try.f64) air_link_e=(air_link).fn:=by kernel_rfl
theorem air_link_ok:FunOk Try.prog (air_link):=fun_ok (opers_ok (oks_cons slices_BinarySearchFunc_api_Edge_ok (oks_cons slices_Delete_api_Edge_ok (oks_cons slices_DeleteFunc_api_Flight_ok (oks_cons edge_Check_ok (oks_cons slices_Insert_api_Edge_ok oks_nil)))))) Try.call64 Try.func64 (by kernel_rfl) fun x _=>(congrFun (air_link_ev) x).symm
noncomputable def bend_mod_r (a1:Int) (a2:Int):Bool × (Int):=
 let c1:=(a2 !=(0:Int))
 ((c1 && c1),((Int.tmod (IntKind.i64.wrap ((Int.tmod a1 a2)+a2)) a2)))
def bend_mod_e:Ent:=⟨141,[],[(.pure (.int .i64) (Ty.dflt _)),(.pure (.int .i64) (Ty.dflt _))],[],[(.pure (.int .i64) (Ty.dflt _))],[]⟩
noncomputable def bend_mod:Fun:=⟨bend_mod_e,fun x=>let r:=bend_mod_r x.1 x.2.1; (r.1,(r.2,()))⟩
theorem bend_mod_ev:evFun Try.prog [] [] Try.f141 (codeOf Try.f141) bend_mod_e=(bend_mod).fn:=by kernel_rfl
theorem bend_mod_ok:FunOk Try.prog (bend_mod):=fun_ok (opers_ok oks_nil) Try.call141 Try.func141 (by kernel_rfl) fun x _=>(congrFun (bend_mod_ev) x).symm
noncomputable def bend_Cut_r (a1:(List Int)) (a2:Int):Bool × ((List Int)):=
 let c6:=(bend_mod_r a2 (IntKind.i64.wrap ((a1.length:Int)+(1:Int))))
 let c8:=c6.2
 let c18:=(List.replicate (Int.toNat c8) (0:Int))
 ((c6.1 && ((c8==c8) && ((decide ((0:Int)≤c8)) && (decide ((1:Int)*c8≤281474976710656))))),((c18.take 0++((a1.take c18.length)++c18.drop (0+(a1.take c18.length).length)))))
def bend_Cut_e:Ent:=⟨112,[],[(.pure (.fl (.int .u8)) (Ty.dflt _)),(.pure (.int .i64) (Ty.dflt _))],[(0,(.arr (.int .u8) [] false))],[(.own 0 1)],[]⟩
noncomputable def bend_Cut:Fun:=⟨bend_Cut_e,fun x=>let r:=bend_Cut_r x.1 x.2.1; (r.1,(r.2,()))⟩
theorem bend_Cut_ev:evFun Try.prog [bend_mod] [] Try.f112 (codeOf Try.f112) bend_Cut_e=(bend_Cut).fn:=by kernel_rfl
theorem bend_Cut_ok:FunOk Try.prog (bend_Cut):=fun_ok (opers_ok (oks_cons bend_mod_ok oks_nil)) Try.call112 Try.func112 (by kernel_rfl) fun x _=>(congrFun (bend_Cut_ev) x).symm
noncomputable def bend_Burst_l0 (a1:(List Int)) (a2:Int) (a3:Int) (s0:HL [.int .i64,(.fl (.int .u8))]):Bool × Bool × HL [.int .i64,(.fl (.int .u8))] × HL [.bool,(.fl (.int .u8))]:=
 let c13:=(bend_mod_r a2 (IntKind.i64.wrap ((8:Int)*(a1.length:Int))))
 let c17:=(decide (s0.1<(32:Int)))
 let c19:=(IntKind.i64.wrap ((31:Int) - s0.1))
 let c25:=((iBand .u32 (iShr .u32 .i64 a3 c19) (1:Int))==(1:Int))
 let c27:=(cond c25 c25 true)
 let c35:=(IntKind.i64.wrap (c13.2+s0.1))
 let c42:=(cond c25 (decide (c35<(IntKind.i64.wrap ((8:Int)*(s0.2.1.length:Int))))) false)
 let c43:=((8:Int) !=(0:Int))
 let c44:=(IntKind.i64.wrap (Int.tdiv c35 (8:Int)))
 let c46:=(Int.toNat c44)
 let c47:=(decide (c46<s0.2.1.length))
 let c48:=((decide ((0:Int)≤c44)) && c47)
 let c52:=(Int.tmod c35 (8:Int))
 ((cond c17 ((((((decide ((0:Int)≤c19)) && c27) && c27) && (cond c25 (c25 && c25) true)) && c27) && (cond c42 ((((((c43 && c48) && c47) && c43) && (decide ((0:Int)≤c52))) && c48) && c47) true)) true),c17,((IntKind.i64.wrap (s0.1+(1:Int))),(cond c42 (s0.2.1.set c46 (iBxor .u8 ((s0.2.1[c46]?).getD (0:Int)) (iShr .u8 .i64 (128:Int) c52))) s0.2.1),()),((!c17),s0.2.1,()))
noncomputable def bend_Burst_r (a1:(List Int)) (a2:Int) (a3:Int):Bool × ((List Int)):=
 let c9:=(!((a1.length:Int)==(0:Int)))
 let c13:=(bend_mod_r a2 (IntKind.i64.wrap ((8:Int)*(a1.length:Int))))
 let c68:=(([]:List Int)++a1)
 let c69:=(loopD 0 [.int .i64,(.fl (.int .u8))] [.bool,(.fl (.int .u8))] (bend_Burst_l0 a1 a2 a3) ((0:Int),c68,()))
 (((decide ((([]:List Int).length+a1.length)*1≤140737488355328)) && (cond c9 (c13.1 && c69.1) true)),((cond c9 c69.2.2.1 c68)))
def bend_Burst_e:Ent:=⟨113,[],[(.pure (.fl (.int .u8)) (Ty.dflt _)),(.pure (.int .i64) (Ty.dflt _)),(.pure (.int .u32) (Ty.dflt _))],[(0,(.arr (.int .u8) [] false))],[(.own 0 1)],[]⟩
noncomputable def bend_Burst:Fun:=⟨bend_Burst_e,fun x=>let r:=bend_Burst_r x.1 x.2.1 x.2.2.1; (r.1,(r.2,()))⟩
theorem bend_Burst_ev:evFun Try.prog [bend_mod] [⟨[22],[192],⟨[],[],0⟩,[],[],[(1,[]),(2,[])],[]⟩,⟨[],[],⟨[],[],0⟩,[],[],[],[(1000003,([1,22],[]))]⟩] Try.f113 (codeOf Try.f113) bend_Burst_e=(bend_Burst).fn:=by kernel_rfl
theorem bend_Burst_ok:FunOk Try.prog (bend_Burst):=fun_ok (opers_ok (oks_cons bend_mod_ok oks_nil)) Try.call113 Try.func113 (by kernel_rfl) fun x _=>(congrFun (bend_Burst_ev) x).symm
noncomputable def air_bent_r (a1:(Int × (Int × ((List Int) × Bool)))) (a2:(Int × (Int × (Int × (Int × Int))))):Bool × ((Int × (Int × ((List Int) × Bool)))):=
 let c8:=(a2.1==(6:Int))
 let c14:=(bend_Cut_r a1.2.2.1 a2.2.2.2.2)
 let c18:=(bend_Burst_r a1.2.2.1 a2.2.2.1 (IntKind.u32.wrap (a2.2.2.2.2)))
 ((cond a1.2.2.2 true (cond c8 c14.1 c18.1)),((cond (!a1.2.2.2) ((cond c8 a1.1 a1.1),((cond c8 a1.2.1 a1.2.1),((cond c8 c14.2 c18.2),true))) a1)))
def air_bent_e:Ent:=⟨65,[],[(.pure (.row (.prod (.int .i64) (.prod (.int .i64) (.prod (.fl (.int .u8)) .bool)))) (Ty.dflt _)),(.pure (.row (.prod (.int .i64) (.prod (.int .i64) (.prod (.int .i64) (.prod (.int .i64) (.int .i64)))))) (Ty.dflt _))],[],[(.pure (.row (.prod (.int .i64) (.prod (.int .i64) (.prod (.fl (.int .u8)) .bool)))) (Ty.dflt _))],[]⟩
noncomputable def air_bent:Fun:=⟨air_bent_e,fun x=>let r:=air_bent_r x.1 x.2.1; (r.1,(r.2,()))⟩
theorem air_bent_ev:evFun Try.prog [bend_Cut,bend_Burst] [] Try.f65 (codeOf Try.f65) air_bent_e=(air_bent).fn:=by kernel_rfl
theorem air_bent_ok:FunOk Try.prog (air_bent):=fun_ok (opers_ok (oks_cons bend_Cut_ok (oks_cons bend_Burst_ok oks_nil))) Try.call65 Try.func65 (by kernel_rfl) fun x _=>(congrFun (air_bent_ev) x).symm
noncomputable def slices_Delete_api_Flight_r (a1:Int) (a2:Int) (a3:(List (Int × (Int × ((List Int) × Bool))))):Bool × (Nat × Nat × (List (Int × (Int × ((List Int) × Bool))))):=
 let c1:=(decide ((0:Int)≤a1))
 let c3:=(decide ((0:Int)≤a2))
 let c7:=(decide ((0:Int)≤(a3.length:Int)))
 let c10:=(Int.toNat a1)
 let c11:=(Int.toNat a2)
 let c13:=(Int.toNat (a3.length:Int))
 let c20:=(!(a1==a2))
 let c28:=((a3.drop c11).take (a3.length - c11))
 let c29:=c28.length
 let c30:=(c10+c29)
 let c33:=(c30:Int)
 let c36:=(Int.toNat c33)
 let c45:=(((a3.drop 0).take c10)++(c28++(a3.drop ((0+c10)+c29))))
 ((((c1 && (c3 && c7)) && ((decide (c10≤c11)) && ((decide (c11≤c13)) && (decide (c13=a3.length))))) && (cond c20 ((((c1 && (decide (c10≤a3.length))) && (c3 && (decide (c11≤a3.length)))) && (decide (c30*48≤140737488355328))) && (((decide ((0:Int)≤c33)) && c7) && ((decide (c36≤c13)) && (decide (c13≤c45.length))))) true)),((cond c20 0 0),(cond c20 c30 a3.length),(cond c20 (c45.take c36++((List.replicate (c13 - c36) ((0:Int),((0:Int),(([]:List Int),false))))++c45.drop (c36+(List.replicate (c13 - c36) ((0:Int),((0:Int),(([]:List Int),false)))).length))) a3)))
def slices_Delete_api_Flight_e:Ent:=⟨67,[(0,(.arr (.row (.prod (.int .i64) (.prod (.int .i64) (.prod (.fl (.int .u8)) .bool)))) [] false))],[(.own 0 4),(.pure (.int .i64) (Ty.dflt _)),(.pure (.int .i64) (Ty.dflt _))],[(1,(.arr (.row (.prod (.int .i64) (.prod (.int .i64) (.prod (.fl (.int .u8)) .bool)))) [] false))],[(.sref 1 4 0 0)],[]⟩
noncomputable def slices_Delete_api_Flight:Fun:=⟨slices_Delete_api_Flight_e,fun x=>let r:=slices_Delete_api_Flight_r x.1 x.2.1 x.2.2.1; (r.1,(r.2.1,r.2.2.1,r.2.2.2,()))⟩
theorem slices_Delete_api_Flight_ev:evFun Try.prog [] [⟨[],[],⟨[],[],0⟩,[],[],[],[(1000003,([0],[]))]⟩] Try.f67 (codeOf Try.f67) slices_Delete_api_Flight_e=(slices_Delete_api_Flight).fn:=by kernel_rfl
theorem slices_Delete_api_Flight_ok:FunOk Try.prog (slices_Delete_api_Flight):=fun_ok (opers_ok oks_nil) Try.call67 Try.func67 (by kernel_rfl) fun x _=>(congrFun (slices_Delete_api_Flight_ev) x).symm
noncomputable def air_Do_r (a1:((List (Int × (Int × ((List Int) × Bool)))) × (List (Int × (Int × Int))))) (a2:(Int × (Int × (Int × (Int × Int))))):Bool × (Nat × Nat × Nat × Nat × (Int × (Int × ((List Int) × Bool))) × Bool × Int × (List (Int × (Int × ((List Int) × Bool)))) × (List (Int × (Int × Int)))):=
 let c1:=(air_Check_r a1)
 let c3:=c1.2
 let c6:=(!(c3 !=(0:Int)))
 let c7:=(air_own_r a1)
 let c12:=(a2.1==(8:Int))
 let c13:=(!c12)
 let c15:=(cond c13 c13 true)
 let c21:=(cond c12 true (a2.1==(9:Int)))
 let c22:=c7.2.1
 let c23:=c7.2.2
 let c24:=(air_link_r a2 c22 c23)
 let c28:=(!c21)
 let c29:=c22.length
 let c30:=(c29:Int)
 let c31:=(c30==(0:Int))
 let c32:=(!c31)
 let c33:=(cond c32 c32 true)
 let c39:=(cond c31 true (decide (a2.1<(2:Int))))
 let c40:=(!c39)
 let c41:=(cond c40 c40 true)
 let c49:=(!(cond c39 true (decide (a2.1>(7:Int)))))
 let c50:=(c30 !=(0:Int))
 let c58:=(Int.tmod (IntKind.i64.wrap ((Int.tmod a2.2.2.2.1 c30)+c30)) c30)
 let c60:=(Int.toNat c58)
 let c61:=(decide (c60<c29))
 let c62:=((decide ((0:Int)≤c58)) && c61)
 let c65:=(a2.1==(6:Int))
 let c67:=(cond c65 c65 (a2.1==(7:Int)))
 let c68:=((c22[c60]?).getD ((0:Int),((0:Int),(([]:List Int),false))))
 let c69:=(air_bent_r c68 a2)
 let c74:=(a2.1==(4:Int))
 let c76:=(decide (c30<(16384:Int)))
 let c77:=c68.2
 let c78:=c77.2
 let c80:=(slices_Clone_byte_r c78.1)
 let c90:=((c68.1,(c77.1,(c80.2,c78.2)))::([]:List (Int × (Int × ((List Int) × Bool)))))
 let c98:=(slices_Delete_api_Flight_r c58 (IntKind.i64.wrap (c58+(1:Int))) c22)
 let c101:=(a2.1==(5:Int))
 let c102:=c98.2.2.1
 let c103:=(c68::([]:List (Int × (Int × ((List Int) × Bool)))))
 let c123:=(cond c67 true (cond c74 true (!(a2.1==(2:Int)))))
 let c125:=c98.2.1
 let c126:=(cond c101 0 c125)
 let c135:=(c22.set c60 c69.2)
 let c138:=(cond c76 (c22++c90) c22)
 let c140:=c98.2.2.2
 let c143:=(((c140.drop c125).take c102)++c103)
 let c145:=(cond c101 c143.length c102)
 let c164:=((0:Int),((0:Int),(([]:List Int),false)))
 let c177:=(cond c101 c143 c140)
 ((c1.1 && (cond c6 (c7.1 && ((((c15 && c15) && (cond c12 true c13)) && (cond c21 c24.1 true)) && (cond c28 ((((((c33 && c33) && (cond c31 true c32)) && c41) && c41) && (cond c39 true c40)) && (cond c49 ((c50 && c50) && ((c62 && c61) && (cond c67 ((c69.1 && c62) && c61) (cond c74 (cond c76 (c80.1 && (decide ((c29+c90.length)*48≤140737488355328))) true) (c98.1 && (cond c101 (decide ((c102+c103.length)*48≤140737488355328)) true)))))) true)) true))) true)),((cond c6 (cond c28 (cond c49 (cond c123 (cond c67 0 (cond c74 0 c126)) c126) 0) c24.2.1) 0),(cond c6 (cond c28 (cond c49 (cond c123 (cond c67 c135.length (cond c74 c138.length c145)) c145) c29) c24.2.2.1) 0),(cond c6 (cond c28 0 c24.2.2.2.1) 0),(cond c6 (cond c28 c23.length c24.2.2.2.2.1) 0),(cond c6 (cond c28 (cond c49 (cond c123 c164 c68) c164) c164) c164),(cond c6 (cond c28 (cond c49 (cond c123 false true) false) false) false),(cond c6 (cond c28 (cond c49 (cond c123 (0:Int) (0:Int)) (0:Int)) (0:Int)) c3),(cond c6 (cond c28 (cond c49 (cond c123 (cond c67 c135 (cond c74 c138 c177)) c177) c22) c24.2.2.2.2.2.1) ([]:List (Int × (Int × ((List Int) × Bool))))),(cond c6 (cond c28 c23 c24.2.2.2.2.2.2) ([]:List (Int × (Int × Int))))))
def air_Do_e:Ent:=⟨25,[],[(.pure (.row (.prod (.fl (.row (.prod (.int .i64) (.prod (.int .i64) (.prod (.fl (.int .u8)) .bool))))) (.fl (.row (.prod (.int .i64) (.prod (.int .i64) (.int .i64))))))) (Ty.dflt _)),(.pure (.row (.prod (.int .i64) (.prod (.int .i64) (.prod (.int .i64) (.prod (.int .i64) (.int .i64)))))) (Ty.dflt _))],[(0,(.arr (.row (.prod (.int .i64) (.prod (.int .i64) (.prod (.fl (.int .u8)) .bool)))) [] false)),(1,(.arr (.row (.prod (.int .i64) (.prod (.int .i64) (.int .i64)))) [] false))],[(.row (.pair (.sref 0 4 0 0) (.sref 1 3 0 0))),(.pure (.row (.prod (.int .i64) (.prod (.int .i64) (.prod (.fl (.int .u8)) .bool)))) (Ty.dflt _)),(.pure .bool (Ty.dflt _)),(.pure (.int .i64) (Ty.dflt _))],[]⟩
noncomputable def air_Do:Fun:=⟨air_Do_e,fun x=>let r:=air_Do_r x.1 x.2.1; (r.1,(r.2.1,r.2.2.1,r.2.2.2.1,r.2.2.2.2.1,r.2.2.2.2.2.1,r.2.2.2.2.2.2.1,r.2.2.2.2.2.2.2.1,r.2.2.2.2.2.2.2.2.1,r.2.2.2.2.2.2.2.2.2,()))⟩
theorem air_Do_ev:evFun Try.prog [air_Check,air_own,air_link,air_bent,slices_Clone_byte,slices_Delete_api_Flight] [⟨[],[],⟨[],[],0⟩,[],[],[],[(1000003,([85],[]))]⟩] Try.f25 (codeOf Try.f25) air_Do_e=(air_Do).fn:=by kernel_rfl
theorem air_Do_ok:FunOk Try.prog (air_Do):=fun_ok (opers_ok (oks_cons air_Check_ok (oks_cons air_own_ok (oks_cons air_link_ok (oks_cons air_bent_ok (oks_cons slices_Clone_byte_ok (oks_cons slices_Delete_api_Flight_ok oks_nil))))))) Try.call25 Try.func25 (by kernel_rfl) fun x _=>(congrFun (air_Do_ev) x).symm
noncomputable def air_Up_l0 (a1:((List (Int × (Int × ((List Int) × Bool)))) × (List (Int × (Int × Int))))) (a2:Int) (a3:Int) (s0:HL [.int .i64]):Bool × Bool × HL [.int .i64] × HL [.bool,.int .i64,.bool,.bool]:=
 let c5:=(decide (s0.1<(a1.2.length:Int)))
 let c7:=(Int.toNat s0.1)
 let c8:=(decide (c7<a1.2.length))
 let c11:=((a1.2[c7]?).getD ((0:Int),((0:Int),(0:Int))))
 let c16:=(c11.1==(if a3<a2 then a3 else a2))
 let c18:=(cond c16 c16 true)
 let c20:=(cond c16 (c16 && c16) true)
 let c26:=c11.2
 let c31:=(cond c16 (c26.1==(if a2<a3 then a3 else a2)) false)
 ((cond c5 ((((decide ((0:Int)≤s0.1)) && c8) && c8) && (((c18 && c20) && c20) && c18)) true),(c5 && (!c31)),((IntKind.i64.wrap (s0.1+(1:Int))),()),((c5 && c31),c26.2,true,(!c5),()))
noncomputable def air_Up_r (a1:((List (Int × (Int × ((List Int) × Bool)))) × (List (Int × (Int × Int))))) (a2:Int) (a3:Int):Bool × (Int × Bool):=
 let c40:=(loopD 0 [.int .i64] [.bool,.int .i64,.bool,.bool] (air_Up_l0 a1 a2 a3) ((0:Int),()))
 let c42:=c40.2.2.2.2.1
 (c40.1,((cond c42 (0:Int) c40.2.2.1),(cond c42 false c40.2.2.2.1)))
def air_Up_e:Ent:=⟨35,[],[(.pure (.row (.prod (.fl (.row (.prod (.int .i64) (.prod (.int .i64) (.prod (.fl (.int .u8)) .bool))))) (.fl (.row (.prod (.int .i64) (.prod (.int .i64) (.int .i64))))))) (Ty.dflt _)),(.pure (.int .i64) (Ty.dflt _)),(.pure (.int .i64) (Ty.dflt _))],[],[(.pure (.int .i64) (Ty.dflt _)),(.pure .bool (Ty.dflt _))],[]⟩
noncomputable def air_Up:Fun:=⟨air_Up_e,fun x=>let r:=air_Up_r x.1 x.2.1 x.2.2.1; (r.1,(r.2.1,r.2.2,()))⟩
theorem air_Up_ev:evFun Try.prog [] [⟨[13],[],⟨[],[],0⟩,[],[],[(1,[6,7]),(2,[])],[]⟩,⟨[],[],⟨[],[],0⟩,[],[],[],[(1000003,([13],[]))]⟩] Try.f35 (codeOf Try.f35) air_Up_e=(air_Up).fn:=by kernel_rfl
theorem air_Up_ok:FunOk Try.prog (air_Up):=fun_ok (opers_ok oks_nil) Try.call35 Try.func35 (by kernel_rfl) fun x _=>(congrFun (air_Up_ev) x).symm
noncomputable def air_Put_r (a1:((List (Int × (Int × ((List Int) × Bool)))) × (List (Int × (Int × Int))))) (a2:(Int × (Int × ((List Int) × Bool)))):Bool × (Int × (List (Int × (Int × ((List Int) × Bool)))) × (List (Int × (Int × Int)))):=
 let c1:=(air_Check_r a1)
 let c3:=c1.2
 let c6:=(!(c3 !=(0:Int)))
 let c7:=(air_own_r a1)
 let c9:=c7.2.1
 let c10:=c7.2.2
 let c16:=(air_Up_r (c9,c10) a2.1 a2.2.1)
 let c18:=c16.2.2
 let c20:=(cond c18 c18 true)
 let c24:=c9.length
 let c29:=(cond c18 (decide ((c24:Int)<(16384:Int))) false)
 let c32:=(slices_Clone_byte_r a2.2.2.1)
 let c40:=((a2.1,(a2.2.1,(c32.2,a2.2.2.2)))::([]:List (Int × (Int × ((List Int) × Bool)))))
 ((c1.1 && (cond c6 (c7.1 && (c16.1 && ((((c20 && c20) && c20) && c20) && (cond c29 (c32.1 && (decide ((c24+c40.length)*48≤140737488355328))) true)))) true)),((cond c6 (0:Int) c3),(cond c6 (cond c29 (c9++c40) c9) ([]:List (Int × (Int × ((List Int) × Bool))))),(cond c6 c10 ([]:List (Int × (Int × Int))))))
def air_Put_e:Ent:=⟨31,[],[(.pure (.row (.prod (.fl (.row (.prod (.int .i64) (.prod (.int .i64) (.prod (.fl (.int .u8)) .bool))))) (.fl (.row (.prod (.int .i64) (.prod (.int .i64) (.int .i64))))))) (Ty.dflt _)),(.pure (.row (.prod (.int .i64) (.prod (.int .i64) (.prod (.fl (.int .u8)) .bool)))) (Ty.dflt _))],[(0,(.arr (.row (.prod (.int .i64) (.prod (.int .i64) (.prod (.fl (.int .u8)) .bool)))) [] true)),(1,(.arr (.row (.prod (.int .i64) (.prod (.int .i64) (.int .i64)))) [] true))],[(.row (.pair (.own 0 4) (.own 1 3))),(.pure (.int .i64) (Ty.dflt _))],[]⟩
noncomputable def air_Put:Fun:=⟨air_Put_e,fun x=>let r:=air_Put_r x.1 x.2.1; (r.1,(r.2.1,r.2.2.1,r.2.2.2,()))⟩
theorem air_Put_ev:evFun Try.prog [air_Check,air_own,air_Up,slices_Clone_byte] [] Try.f31 (codeOf Try.f31) air_Put_e=(air_Put).fn:=by kernel_rfl
theorem air_Put_ok:FunOk Try.prog (air_Put):=fun_ok (opers_ok (oks_cons air_Check_ok (oks_cons air_own_ok (oks_cons air_Up_ok (oks_cons slices_Clone_byte_ok oks_nil))))) Try.call31 Try.func31 (by kernel_rfl) fun x _=>(congrFun (air_Put_ev) x).symm
noncomputable def withylaw20_awake_r:Bool × (Bool):=
 let c12:=(air_Do_r (([]:List (Int × (Int × ((List Int) × Bool)))),([]:List (Int × (Int × Int)))) ((8:Int),((2:Int),((1:Int),((0:Int),(5:Int))))))
 let c17:=((120:Int)::([]:List Int))
 let c35:=(air_Put_r (((c12.2.2.2.2.2.2.2.2.1.drop c12.2.1).take c12.2.2.1),((c12.2.2.2.2.2.2.2.2.2.drop c12.2.2.2.1).take c12.2.2.2.2.1)) ((1:Int),((2:Int),(c17,false))))
 let c40:=(c35.2.2.1,c35.2.2.2)
 let c41:=(air_Up_r c40 (2:Int) (1:Int))
 let c47:=(air_Do_r c40 ((2:Int),((0:Int),((0:Int),((0:Int),(0:Int))))))
 let c50:=(c12.2.2.2.2.2.2.2.1==(0:Int))
 let c52:=(cond c50 c50 true)
 let c56:=(cond c50 (c35.2.1==(0:Int)) false)
 let c57:=(cond c56 c56 true)
 let c62:=(cond c56 (c47.2.2.2.2.2.2.2.1==(0:Int)) false)
 let c66:=(cond c62 c41.2.2 false)
 let c67:=(cond c66 c66 true)
 let c72:=(cond c66 (c41.2.1==(5:Int)) false)
 let c76:=(cond c72 c47.2.2.2.2.2.2.1 false)
 let c77:=(cond c76 c76 true)
 let c89:=(cond c76 ((ByteArray.mk ((c47.2.2.2.2.2.1.2.2.1).map fun n=>UInt8.ofNat (Int.toNat n)).toArray)==(ByteArray.mk #[120])) false)
 let c90:=(cond c89 c89 true)
 ((c12.1 && (((decide (0<c17.length)) && c35.1) && (c41.1 && (c47.1 && (((((((((((((((c52 && c52) && c57) && c57) && (cond c62 c62 true)) && c67) && c67) && (cond c72 c72 true)) && c77) && c77) && c77) && c77) && c90) && c90) && c90) && c90))))),((cond c89 ((c47.2.2.1:Int)==(0:Int)) false)))
def withylaw20_awake_e:Ent:=⟨24,[],[],[],[(.pure .bool (Ty.dflt _))],[]⟩
noncomputable def withylaw20_awake:Fun:=⟨withylaw20_awake_e,fun x=>let r:=withylaw20_awake_r; (r.1,(r.2,()))⟩
theorem withylaw20_awake_ev:evFun Try.prog [air_Do,air_Put,air_Up] [] Try.f24 (codeOf Try.f24) withylaw20_awake_e=(withylaw20_awake).fn:=by kernel_rfl
theorem withylaw20_awake_ok:FunOk Try.prog (withylaw20_awake):=fun_ok (opers_ok (oks_cons air_Do_ok (oks_cons air_Put_ok (oks_cons air_Up_ok oks_nil)))) Try.call24 Try.func24 (by kernel_rfl) fun x _=>(congrFun (withylaw20_awake_ev) x).symm
noncomputable def withyref05_Node_r (a1:Int):Bool × (Bool):=
 let c2:=(decide (a1≥(1:Int)))
 let c4:=(cond c2 c2 true)
 ((c4 && c4),((cond c2 (decide (a1≤(64:Int))) false)))
def withyref05_Node_e:Ent:=⟨93,[],[(.pure (.int .i64) (Ty.dflt _))],[],[(.pure .bool (Ty.dflt _))],[]⟩
noncomputable def withyref05_Node:Fun:=⟨withyref05_Node_e,fun x=>let r:=withyref05_Node_r x.1; (r.1,(r.2,()))⟩
theorem withyref05_Node_ev:evFun Try.prog [] [] Try.f93 (codeOf Try.f93) withyref05_Node_e=(withyref05_Node).fn:=by kernel_rfl
theorem withyref05_Node_ok:FunOk Try.prog (withyref05_Node):=fun_ok (opers_ok oks_nil) Try.call93 Try.func93 (by kernel_rfl) fun x _=>(congrFun (withyref05_Node_ev) x).symm
noncomputable def withyref05_May_r (a1:(Int × (Int × Int))):Bool × (Bool):=
 let c2:=(withyref05_Node_r a1.1)
 let c4:=c2.2
 let c6:=(cond c4 c4 true)
 let c10:=(withyref05_Node_r a1.2.1)
 let c18:=(cond c4 c10.2 false)
 let c19:=(cond c18 c18 true)
 let c27:=(cond c18 (decide (a1.1<a1.2.1)) false)
 let c28:=(cond c27 c27 true)
 let c35:=(cond c27 (decide (a1.2.2≥(0:Int))) false)
 let c36:=(cond c35 c35 true)
 ((((((((((((((c2.1 && c6) && (cond c4 (c4 && c10.1) true)) && c6) && c19) && c19) && (cond c18 (c18 && c18) true)) && c19) && c28) && c28) && c28) && c36) && c36) && c36),((cond c35 (decide (a1.2.2≤(2147483647:Int))) false)))
def withyref05_May_e:Ent:=⟨81,[],[(.pure (.row (.prod (.int .i64) (.prod (.int .i64) (.int .i64)))) (Ty.dflt _))],[],[(.pure .bool (Ty.dflt _))],[]⟩
noncomputable def withyref05_May:Fun:=⟨withyref05_May_e,fun x=>let r:=withyref05_May_r x.1; (r.1,(r.2,()))⟩
theorem withyref05_May_ev:evFun Try.prog [withyref05_Node] [] Try.f81 (codeOf Try.f81) withyref05_May_e=(withyref05_May).fn:=by kernel_rfl
theorem withyref05_May_ok:FunOk Try.prog (withyref05_May):=fun_ok (opers_ok (oks_cons withyref05_Node_ok oks_nil)) Try.call81 Try.func81 (by kernel_rfl) fun x _=>(congrFun (withyref05_May_ev) x).symm
noncomputable def withyref05_Check_l0 (a1:(List (Int × (Int × Int)))) (s0:HL [.int .i64]):Bool × Bool × HL [.int .i64] × HL [.bool,.int .i64,.bool]:=
 let c4:=(decide (s0.1<(a1.length:Int)))
 let c6:=(Int.toNat s0.1)
 let c7:=(decide (c6<a1.length))
 let c11:=(withyref05_May_r ((a1[c6]?).getD ((0:Int),((0:Int),(0:Int)))))
 let c17:=(!c11.2)
 ((cond c4 ((((decide ((0:Int)≤s0.1)) && c7) && c7) && c11.1) true),(c4 && (!c17)),((IntKind.i64.wrap (s0.1+(1:Int))),()),((c4 && c17),(1:Int),(!c4),()))
noncomputable def withyref05_Check_l1 (a1:(List (Int × (Int × Int)))) (s1:HL [.int .i64,(.arr 65 (.arr 65 .bool))]):Bool × Bool × HL [.int .i64,(.arr 65 (.arr 65 .bool))] × HL [.bool,.int .i64,(.arr 65 (.arr 65 .bool)),.bool,(.arr 65 (.arr 65 .bool))]:=
 let c29:=(decide (s1.1<(a1.length:Int)))
 let c31:=(Int.toNat s1.1)
 let c32:=(decide (c31<a1.length))
 let c33:=((decide ((0:Int)≤s1.1)) && c32)
 let c37:=((a1[c31]?).getD ((0:Int),((0:Int),(0:Int))))
 let c38:=c37.1
 let c40:=(Int.toNat c38)
 let c42:=(decide (c40<65))
 let c46:=c37.2.1
 let c48:=(Int.toNat c46)
 let c49:=(decide (c48<65))
 let c53:=((((((c33 && c32) && c33) && c32) && ((decide ((0:Int)≤c38)) && c42)) && ((decide ((0:Int)≤c46)) && c49)) && (c42 && c49))
 let c55:=(s1.2.1 c40)
 let c56:=(c55 c48)
 let c57:=(!c56)
 ((cond c29 (c53 && (cond c57 c53 true)) true),(c29 && c57),((IntKind.i64.wrap (s1.1+(1:Int))),(fun j=>bif Nat.beq j c40 then (fun j=>bif Nat.beq j c48 then true else c55 j) else s1.2.1 j),()),((c29 && c56),(1:Int),s1.2.1,(!c29),s1.2.1,()))
noncomputable def withyref05_Check_r (a1:(List (Int × (Int × Int)))):Bool × (Int):=
 let c25:=(loopD 0 [.int .i64] [.bool,.int .i64,.bool] (withyref05_Check_l0 a1) ((0:Int),()))
 let c27:=c25.2.2.2.1
 let c68:=(fun i=>((([false,false,false,false,false,false,false,false,false,false,false,false,false,false,false,false,false,false,false,false,false,false,false,false,false,false,false,false,false,false,false,false,false,false,false,false,false,false,false,false,false,false,false,false,false,false,false,false,false,false,false,false,false,false,false,false,false,false,false,false,false,false,false,false,false]:List Bool)[i]?).getD false))
 let c70:=(loopD 1 [.int .i64,(.arr 65 (.arr 65 .bool))] [.bool,.int .i64,(.arr 65 (.arr 65 .bool)),.bool,(.arr 65 (.arr 65 .bool))] (withyref05_Check_l1 a1) ((0:Int),(fun i=>((([c68,c68,c68,c68,c68,c68,c68,c68,c68,c68,c68,c68,c68,c68,c68,c68,c68,c68,c68,c68,c68,c68,c68,c68,c68,c68,c68,c68,c68,c68,c68,c68,c68,c68,c68,c68,c68,c68,c68,c68,c68,c68,c68,c68,c68,c68,c68,c68,c68,c68,c68,c68,c68,c68,c68,c68,c68,c68,c68,c68,c68,c68,c68,c68,c68]:List (Nat→Bool))[i]?).getD (fun _=>false))),()))
 ((c25.1 && (cond c27 c70.1 true)),((cond c27 (cond c70.2.2.2.2.1 (cond (!(decide ((a1.length:Int)>(512:Int)))) (0:Int) (3:Int)) c70.2.2.1) c25.2.2.1)))
def withyref05_Check_e:Ent:=⟨40,[],[(.pure (.fl (.row (.prod (.int .i64) (.prod (.int .i64) (.int .i64))))) (Ty.dflt _))],[],[(.pure (.int .i64) (Ty.dflt _))],[]⟩
noncomputable def withyref05_Check:Fun:=⟨withyref05_Check_e,fun x=>let r:=withyref05_Check_r x.1; (r.1,(r.2,()))⟩
theorem withyref05_Check_ev:evFun Try.prog [withyref05_May] [⟨[3],[],⟨[],[],0⟩,[],[],[(1,[2]),(2,[])],[]⟩,⟨[5],[448],⟨[],[],0⟩,[],[],[(1,[2]),(4,[])],[]⟩,⟨[],[],⟨[],[],0⟩,[],[],[],[(1000003,([3,5],[]))]⟩] Try.f40 (codeOf Try.f40) withyref05_Check_e=(withyref05_Check).fn:=by kernel_rfl
theorem withyref05_Check_ok:FunOk Try.prog (withyref05_Check):=fun_ok (opers_ok (oks_cons withyref05_May_ok oks_nil)) Try.call40 Try.func40 (by kernel_rfl) fun x _=>(congrFun (withyref05_Check_ev) x).symm
noncomputable def withyref20_Up_l0 (a1:((List (Int × (Int × ((List Int) × Bool)))) × (List (Int × (Int × Int))))) (a2:Int) (a3:Int) (s0:HL [.int .i64]):Bool × Bool × HL [.int .i64] × HL [.bool,.int .i64,.bool]:=
 let c5:=(decide (s0.1<(a1.2.length:Int)))
 let c7:=(Int.toNat s0.1)
 let c8:=(decide (c7<a1.2.length))
 let c11:=((a1.2[c7]?).getD ((0:Int),((0:Int),(0:Int))))
 let c12:=c11.1
 let c14:=(c12==a2)
 let c16:=(cond c14 c14 true)
 let c22:=c11.2.1
 let c26:=(cond c14 (c22==a3) false)
 let c27:=(!c26)
 let c30:=(c27 && c27)
 let c33:=(c12==a3)
 let c34:=(c30 && c33)
 let c50:=(cond c26 true (cond c33 (c22==a2) false))
 ((cond c5 ((((decide ((0:Int)≤s0.1)) && c8) && c8) && ((((((((c16 && (cond c14 (c14 && c14) true)) && c16) && (cond c27 c27 true)) && (cond c27 c30 true)) && (cond c34 c34 true)) && (cond c34 (c34 && c34) true)) && (cond c27 (c30 && (cond c33 c34 true)) true)) && (cond c26 true c27))) true),(c5 && (!c50)),((IntKind.i64.wrap (s0.1+(1:Int))),()),((c5 && c50),s0.1,(!c5),()))
noncomputable def withyref20_Up_r (a1:((List (Int × (Int × ((List Int) × Bool)))) × (List (Int × (Int × Int))))) (a2:Int) (a3:Int):Bool × (Int):=
 let c58:=(loopD 0 [.int .i64] [.bool,.int .i64,.bool] (withyref20_Up_l0 a1 a2 a3) ((0:Int),()))
 (c58.1,((cond c58.2.2.2.1 (-1:Int) c58.2.2.1)))
def withyref20_Up_e:Ent:=⟨38,[],[(.pure (.row (.prod (.fl (.row (.prod (.int .i64) (.prod (.int .i64) (.prod (.fl (.int .u8)) .bool))))) (.fl (.row (.prod (.int .i64) (.prod (.int .i64) (.int .i64))))))) (Ty.dflt _)),(.pure (.int .i64) (Ty.dflt _)),(.pure (.int .i64) (Ty.dflt _))],[],[(.pure (.int .i64) (Ty.dflt _))],[]⟩
noncomputable def withyref20_Up:Fun:=⟨withyref20_Up_e,fun x=>let r:=withyref20_Up_r x.1 x.2.1 x.2.2.1; (r.1,(r.2,()))⟩
theorem withyref20_Up_ev:evFun Try.prog [] [⟨[7],[],⟨[],[],0⟩,[],[],[(1,[6]),(2,[])],[]⟩,⟨[],[],⟨[],[],0⟩,[],[],[],[(1000003,([7],[]))]⟩] Try.f38 (codeOf Try.f38) withyref20_Up_e=(withyref20_Up).fn:=by kernel_rfl
theorem withyref20_Up_ok:FunOk Try.prog (withyref20_Up):=fun_ok (opers_ok oks_nil) Try.call38 Try.func38 (by kernel_rfl) fun x _=>(congrFun (withyref20_Up_ev) x).symm
noncomputable def withyref20_May_l0 (a1:((List (Int × (Int × ((List Int) × Bool)))) × (List (Int × (Int × Int))))) (s0:HL [.int .i64]):Bool × Bool × HL [.int .i64] × HL [.bool,.bool,.bool]:=
 let c25:=(decide (s0.1<(a1.2.length:Int)))
 let c27:=(IntKind.i64.wrap (s0.1 - (1:Int)))
 let c29:=(Int.toNat c27)
 let c30:=(decide (c29<a1.2.length))
 let c34:=(Int.toNat s0.1)
 let c35:=(decide (c34<a1.2.length))
 let c39:=((a1.2[c29]?).getD ((0:Int),((0:Int),(0:Int))))
 let c40:=c39.1
 let c41:=((a1.2[c34]?).getD ((0:Int),((0:Int),(0:Int))))
 let c42:=c41.1
 let c43:=(decide (c40>c42))
 let c44:=(!c43)
 let c45:=(cond c44 c44 true)
 let c47:=(c44 && c44)
 let c50:=(c40==c42)
 let c51:=(c47 && c50)
 let c52:=(cond c51 c51 true)
 let c73:=(cond c43 true (cond c50 (decide (c39.2.1>c41.2.1)) false))
 ((cond c25 ((((((decide ((0:Int)≤c27)) && c30) && c30) && ((decide ((0:Int)≤s0.1)) && c35)) && c35) && (((((((c45 && c45) && (cond c44 c47 true)) && c52) && c52) && (cond c51 (c51 && c51) true)) && (cond c44 (c47 && (cond c50 c51 true)) true)) && (cond c43 true c44))) true),(c25 && (!c73)),((IntKind.i64.wrap (s0.1+(1:Int))),()),((c25 && c73),false,(!c25),()))
noncomputable def withyref20_May_l1 (a1:((List (Int × (Int × ((List Int) × Bool)))) × (List (Int × (Int × Int))))) (s1:HL [.int .i64]):Bool × Bool × HL [.int .i64] × HL [.bool,.bool,.bool]:=
 let c83:=(decide (s1.1<(a1.1.length:Int)))
 let c85:=(Int.toNat s1.1)
 let c86:=(decide (c85<a1.1.length))
 let c87:=((decide ((0:Int)≤s1.1)) && c86)
 let c91:=((a1.1[c85]?).getD ((0:Int),((0:Int),(([]:List Int),false))))
 let c95:=(withyref20_Up_r a1 c91.1 c91.2.1)
 let c100:=(decide (c95.2<(0:Int)))
 ((cond c83 ((((c87 && c86) && c87) && c86) && c95.1) true),(c83 && (!c100)),((IntKind.i64.wrap (s1.1+(1:Int))),()),((c83 && c100),false,(!c83),()))
noncomputable def withyref20_May_r (a1:((List (Int × (Int × ((List Int) × Bool)))) × (List (Int × (Int × Int))))):Bool × (Bool):=
 let c2:=(withyref05_Check_r a1.2)
 let c6:=(c2.2 !=(0:Int))
 let c7:=(!c6)
 let c9:=(cond c7 c7 true)
 let c21:=(!(cond c6 true (decide ((a1.1.length:Int)>(16384:Int)))))
 let c79:=(loopD 0 [.int .i64] [.bool,.bool,.bool] (withyref20_May_l0 a1) ((1:Int),()))
 let c81:=c79.2.2.2.1
 let c106:=(loopD 1 [.int .i64] [.bool,.bool,.bool] (withyref20_May_l1 a1) ((0:Int),()))
 ((((((c2.1 && c9) && c9) && c9) && (cond c6 true c7)) && (cond c21 (c79.1 && (cond c81 c106.1 true)) true)),((cond c21 (cond c81 (cond c106.2.2.2.1 true c106.2.2.1) c79.2.2.1) false)))
def withyref20_May_e:Ent:=⟨26,[],[(.pure (.row (.prod (.fl (.row (.prod (.int .i64) (.prod (.int .i64) (.prod (.fl (.int .u8)) .bool))))) (.fl (.row (.prod (.int .i64) (.prod (.int .i64) (.int .i64))))))) (Ty.dflt _))],[],[(.pure .bool (Ty.dflt _))],[]⟩
noncomputable def withyref20_May:Fun:=⟨withyref20_May_e,fun x=>let r:=withyref20_May_r x.1; (r.1,(r.2,()))⟩
theorem withyref20_May_ev:evFun Try.prog [withyref05_Check,withyref20_Up] [⟨[3],[],⟨[],[],0⟩,[],[],[(1,[2]),(2,[])],[]⟩,⟨[6],[],⟨[],[],0⟩,[],[],[(1,[2]),(4,[])],[]⟩,⟨[],[],⟨[],[],0⟩,[],[],[],[(1000003,([3,6],[]))]⟩] Try.f26 (codeOf Try.f26) withyref20_May_e=(withyref20_May).fn:=by kernel_rfl
theorem withyref20_May_ok:FunOk Try.prog (withyref20_May):=fun_ok (opers_ok (oks_cons withyref05_Check_ok (oks_cons withyref20_Up_ok oks_nil))) Try.call26 Try.func26 (by kernel_rfl) fun x _=>(congrFun (withyref20_May_ev) x).symm
noncomputable def withyref20_Flight_r (a1:(Int × (Int × ((List Int) × Bool)))) (a2:(Int × (Int × ((List Int) × Bool)))):Bool × (Bool):=
 let c4:=(a1.1==a2.1)
 let c6:=(cond c4 c4 true)
 let c18:=(cond c4 (a1.2.1==a2.2.1) false)
 let c19:=(cond c18 c18 true)
 let c31:=(cond c18 (a1.2.2.2==a2.2.2.2) false)
 let c32:=(cond c31 c31 true)
 ((((((((((((((c6 && c6) && (cond c4 (c4 && c4) true)) && c6) && c19) && c19) && (cond c18 (c18 && c18) true)) && c19) && c32) && c32) && c32) && c32) && (cond c31 (c31 && c31) true)) && c32),((cond c31 ((ByteArray.mk ((a1.2.2.1).map fun n=>UInt8.ofNat (Int.toNat n)).toArray)==(ByteArray.mk ((a2.2.2.1).map fun n=>UInt8.ofNat (Int.toNat n)).toArray)) false)))
def withyref20_Flight_e:Ent:=⟨28,[],[(.pure (.row (.prod (.int .i64) (.prod (.int .i64) (.prod (.fl (.int .u8)) .bool)))) (Ty.dflt _)),(.pure (.row (.prod (.int .i64) (.prod (.int .i64) (.prod (.fl (.int .u8)) .bool)))) (Ty.dflt _))],[],[(.pure .bool (Ty.dflt _))],[]⟩
noncomputable def withyref20_Flight:Fun:=⟨withyref20_Flight_e,fun x=>let r:=withyref20_Flight_r x.1 x.2.1; (r.1,(r.2,()))⟩
theorem withyref20_Flight_ev:evFun Try.prog [] [] Try.f28 (codeOf Try.f28) withyref20_Flight_e=(withyref20_Flight).fn:=by kernel_rfl
theorem withyref20_Flight_ok:FunOk Try.prog (withyref20_Flight):=fun_ok (opers_ok oks_nil) Try.call28 Try.func28 (by kernel_rfl) fun x _=>(congrFun (withyref20_Flight_ev) x).symm
noncomputable def withyref05_Same_l0 (a1:(List (Int × (Int × Int)))) (a2:(List (Int × (Int × Int)))) (s0:HL [.int .i64]):Bool × Bool × HL [.int .i64] × HL [.bool,.bool,.bool]:=
 let c9:=(decide (s0.1<(a1.length:Int)))
 let c10:=(decide ((0:Int)≤s0.1))
 let c11:=(Int.toNat s0.1)
 let c12:=(decide (c11<a1.length))
 let c15:=(decide (c11<a2.length))
 let c21:=((a1[c11]?).getD ((0:Int),((0:Int),(0:Int))))
 let c23:=((a2[c11]?).getD ((0:Int),((0:Int),(0:Int))))
 let c26:=c21.2
 let c28:=c23.2
 let c36:=(!((c21.1==c23.1) && ((c26.1==c28.1) && (c26.2==c28.2))))
 ((cond c9 ((((c10 && c12) && c12) && (c10 && c15)) && c15) true),(c9 && (!c36)),((IntKind.i64.wrap (s0.1+(1:Int))),()),((c9 && c36),false,(!c9),()))
noncomputable def withyref05_Same_r (a1:(List (Int × (Int × Int)))) (a2:(List (Int × (Int × Int)))):Bool × (Bool):=
 let c7:=(!((a1.length:Int) !=(a2.length:Int)))
 let c45:=(loopD 0 [.int .i64] [.bool,.bool,.bool] (withyref05_Same_l0 a1 a2) ((0:Int),()))
 ((cond c7 c45.1 true),((cond c7 (cond c45.2.2.2.1 true c45.2.2.1) false)))
def withyref05_Same_e:Ent:=⟨43,[],[(.pure (.fl (.row (.prod (.int .i64) (.prod (.int .i64) (.int .i64))))) (Ty.dflt _)),(.pure (.fl (.row (.prod (.int .i64) (.prod (.int .i64) (.int .i64))))) (Ty.dflt _))],[],[(.pure .bool (Ty.dflt _))],[]⟩
noncomputable def withyref05_Same:Fun:=⟨withyref05_Same_e,fun x=>let r:=withyref05_Same_r x.1 x.2.1; (r.1,(r.2,()))⟩
theorem withyref05_Same_ev:evFun Try.prog [] [⟨[5],[],⟨[],[],0⟩,[],[],[(1,[4]),(2,[])],[]⟩,⟨[],[],⟨[],[],0⟩,[],[],[],[(1000003,([5],[]))]⟩] Try.f43 (codeOf Try.f43) withyref05_Same_e=(withyref05_Same).fn:=by kernel_rfl
theorem withyref05_Same_ok:FunOk Try.prog (withyref05_Same):=fun_ok (opers_ok oks_nil) Try.call43 Try.func43 (by kernel_rfl) fun x _=>(congrFun (withyref05_Same_ev) x).symm
noncomputable def withyref20_Same_l0 (a1:((List (Int × (Int × ((List Int) × Bool)))) × (List (Int × (Int × Int))))) (a2:((List (Int × (Int × ((List Int) × Bool)))) × (List (Int × (Int × Int))))) (s0:HL [.int .i64]):Bool × Bool × HL [.int .i64] × HL [.bool,.bool,.bool]:=
 let c30:=(decide (s0.1<(a1.1.length:Int)))
 let c31:=(decide ((0:Int)≤s0.1))
 let c32:=(Int.toNat s0.1)
 let c33:=(decide (c32<a1.1.length))
 let c36:=(decide (c32<a2.1.length))
 let c42:=(withyref20_Flight_r ((a1.1[c32]?).getD ((0:Int),((0:Int),(([]:List Int),false)))) ((a2.1[c32]?).getD ((0:Int),((0:Int),(([]:List Int),false)))))
 let c47:=(!c42.2)
 ((cond c30 (((((c31 && c33) && c33) && (c31 && c36)) && c36) && c42.1) true),(c30 && (!c47)),((IntKind.i64.wrap (s0.1+(1:Int))),()),((c30 && c47),false,(!c30),()))
noncomputable def withyref20_Same_r (a1:((List (Int × (Int × ((List Int) × Bool)))) × (List (Int × (Int × Int))))) (a2:((List (Int × (Int × ((List Int) × Bool)))) × (List (Int × (Int × Int))))):Bool × (Bool):=
 let c4:=(withyref05_Same_r a1.2 a2.2)
 let c7:=(!c4.2)
 let c8:=(!c7)
 let c10:=(cond c8 c8 true)
 let c28:=(!(cond c7 true ((a1.1.length:Int) !=(a2.1.length:Int))))
 let c56:=(loopD 0 [.int .i64] [.bool,.bool,.bool] (withyref20_Same_l0 a1 a2) ((0:Int),()))
 ((((((((c4.1 && c10) && c10) && c10) && c10) && (cond c8 (c8 && c8) true)) && (cond c7 true c8)) && (cond c28 c56.1 true)),((cond c28 (cond c56.2.2.2.1 true c56.2.2.1) false)))
def withyref20_Same_e:Ent:=⟨29,[],[(.pure (.row (.prod (.fl (.row (.prod (.int .i64) (.prod (.int .i64) (.prod (.fl (.int .u8)) .bool))))) (.fl (.row (.prod (.int .i64) (.prod (.int .i64) (.int .i64))))))) (Ty.dflt _)),(.pure (.row (.prod (.fl (.row (.prod (.int .i64) (.prod (.int .i64) (.prod (.fl (.int .u8)) .bool))))) (.fl (.row (.prod (.int .i64) (.prod (.int .i64) (.int .i64))))))) (Ty.dflt _))],[],[(.pure .bool (Ty.dflt _))],[]⟩
noncomputable def withyref20_Same:Fun:=⟨withyref20_Same_e,fun x=>let r:=withyref20_Same_r x.1 x.2.1; (r.1,(r.2,()))⟩
theorem withyref20_Same_ev:evFun Try.prog [withyref05_Same,withyref20_Flight] [⟨[5],[],⟨[],[],0⟩,[],[],[(1,[4]),(2,[])],[]⟩,⟨[],[],⟨[],[],0⟩,[],[],[],[(1000003,([5],[]))]⟩] Try.f29 (codeOf Try.f29) withyref20_Same_e=(withyref20_Same).fn:=by kernel_rfl
theorem withyref20_Same_ok:FunOk Try.prog (withyref20_Same):=fun_ok (opers_ok (oks_cons withyref05_Same_ok (oks_cons withyref20_Flight_ok oks_nil))) Try.call29 Try.func29 (by kernel_rfl) fun x _=>(congrFun (withyref20_Same_ev) x).symm
noncomputable def withyref20_link_l0 (a1:((List (Int × (Int × ((List Int) × Bool)))) × (List (Int × (Int × Int))))) (a2:(Int × (Int × (Int × (Int × Int))))) (s0:HL [.int .i64,(.fl (.row (.prod (.int .i64) (.prod (.int .i64) (.int .i64)))))]):Bool × Bool × HL [.int .i64,(.fl (.row (.prod (.int .i64) (.prod (.int .i64) (.int .i64)))))] × HL [.bool,(.fl (.row (.prod (.int .i64) (.prod (.int .i64) (.int .i64)))))]:=
 let c6:=(decide (a2.2.2.1<a2.2.1))
 let c7:=(cond c6 a2.2.2.1 a2.2.1)
 let c8:=(cond c6 a2.2.1 a2.2.2.1)
 let c9:=(withyref20_Up_r a1 c7 c8)
 let c18:=(decide (s0.1<(a1.2.length:Int)))
 let c19:=c9.2
 let c20:=(s0.1 !=c19)
 let c22:=(Int.toNat s0.1)
 let c23:=(decide (c22<a1.2.length))
 let c30:=(((a1.2[c22]?).getD ((0:Int),((0:Int),(0:Int))))::([]:List (Int × (Int × Int))))
 ((cond c18 (cond c20 ((((decide ((0:Int)≤s0.1)) && c23) && c23) && (decide ((s0.2.1.length+c30.length)*24≤140737488355328))) true) true),c18,((IntKind.i64.wrap (s0.1+(1:Int))),(cond c20 (s0.2.1++c30) s0.2.1),()),((!c18),s0.2.1,()))
noncomputable def withyref20_link_l1 (a1:((List (Int × (Int × ((List Int) × Bool)))) × (List (Int × (Int × Int))))) (a2:(Int × (Int × (Int × (Int × Int))))) (s1:HL [.int .i64,(.fl (.row (.prod (.int .i64) (.prod (.int .i64) (.prod (.fl (.int .u8)) .bool))))),(.fl (.row (.prod (.int .i64) (.prod (.int .i64) (.int .i64)))))]):Bool × Bool × HL [.int .i64,(.fl (.row (.prod (.int .i64) (.prod (.int .i64) (.prod (.fl (.int .u8)) .bool))))),(.fl (.row (.prod (.int .i64) (.prod (.int .i64) (.int .i64)))))] × HL [.bool,(.fl (.row (.prod (.int .i64) (.prod (.int .i64) (.prod (.fl (.int .u8)) .bool))))),(.fl (.row (.prod (.int .i64) (.prod (.int .i64) (.int .i64)))))]:=
 let c6:=(decide (a2.2.2.1<a2.2.1))
 let c7:=(cond c6 a2.2.2.1 a2.2.1)
 let c8:=(cond c6 a2.2.1 a2.2.2.1)
 let c50:=(decide (s1.1<(a1.1.length:Int)))
 let c52:=(Int.toNat s1.1)
 let c53:=(decide (c52<a1.1.length))
 let c56:=((a1.1[c52]?).getD ((0:Int),((0:Int),(([]:List Int),false))))
 let c57:=c56.1
 let c58:=(c57==c7)
 let c59:=(cond c58 c58 true)
 let c65:=c56.2.1
 let c68:=(cond c58 (c65==c8) false)
 let c69:=(!c68)
 let c72:=(c69 && c69)
 let c75:=(c57==c8)
 let c76:=(c72 && c75)
 let c91:=(!(cond c68 true (cond c75 (c65==c7) false)))
 let c95:=(c56::([]:List (Int × (Int × ((List Int) × Bool)))))
 ((cond c50 ((((decide ((0:Int)≤s1.1)) && c53) && c53) && (((((((((c59 && (cond c58 (c58 && c58) true)) && c59) && (cond c69 c69 true)) && (cond c69 c72 true)) && (cond c76 c76 true)) && (cond c76 (c76 && c76) true)) && (cond c69 (c72 && (cond c75 c76 true)) true)) && (cond c68 true c69)) && (cond c91 (decide ((s1.2.1.length+c95.length)*48≤140737488355328)) true))) true),c50,((IntKind.i64.wrap (s1.1+(1:Int))),(cond c91 (s1.2.1++c95) s1.2.1),s1.2.2.1,()),((!c50),s1.2.1,s1.2.2.1,()))
noncomputable def withyref20_link_l2 (a1:((List (Int × (Int × ((List Int) × Bool)))) × (List (Int × (Int × Int))))) (a2:(Int × (Int × (Int × (Int × Int))))) (s2:HL [.int .i64,.bool,(.fl (.row (.prod (.int .i64) (.prod (.int .i64) (.int .i64)))))]):Bool × Bool × HL [.int .i64,.bool,(.fl (.row (.prod (.int .i64) (.prod (.int .i64) (.int .i64)))))] × HL [.bool,.bool,(.fl (.row (.prod (.int .i64) (.prod (.int .i64) (.int .i64)))))]:=
 let c6:=(decide (a2.2.2.1<a2.2.1))
 let c7:=(cond c6 a2.2.2.1 a2.2.1)
 let c8:=(cond c6 a2.2.1 a2.2.2.1)
 let c9:=(withyref20_Up_r a1 c7 c8)
 let c19:=c9.2
 let c117:=(c7,(c8,a2.2.2.2.2))
 let c144:=(decide (s2.1<(a1.2.length:Int)))
 let c146:=(Int.toNat s2.1)
 let c147:=(decide (c146<a1.2.length))
 let c151:=(!s2.2.1)
 let c152:=(cond c151 c151 true)
 let c153:=(c151 && c151)
 let c156:=((a1.2[c146]?).getD ((0:Int),((0:Int),(0:Int))))
 let c157:=c156.1
 let c158:=(decide (c157>c7))
 let c160:=(c153 && (!c158))
 let c163:=(c160 && c160)
 let c166:=(c157==c7)
 let c167:=(c163 && c166)
 let c187:=(cond c151 (cond c158 true (cond c166 (decide (c156.2.1≥c8)) false)) false)
 let c190:=(c117::([]:List (Int × (Int × Int))))
 let c191:=c190.length
 let c196:=(s2.1 !=c19)
 let c198:=(cond c187 (s2.2.2.1++c190) s2.2.2.1)
 let c200:=(c156::([]:List (Int × (Int × Int))))
 ((cond c144 ((((decide ((0:Int)≤s2.1)) && c147) && c147) && ((((((((((c152 && (cond c151 c153 true)) && (cond c160 c160 true)) && (cond c160 c163 true)) && (cond c167 c167 true)) && (cond c167 (c167 && c167) true)) && (cond c160 (c163 && (cond c166 c167 true)) true)) && (cond c151 (c153 && (cond c158 true c160)) true)) && c152) && (cond c187 (decide ((s2.2.2.1.length+c191)*24≤140737488355328)) true)) && (cond c196 (decide ((c198.length+c200.length)*24≤140737488355328)) true))) true),c144,((IntKind.i64.wrap (s2.1+(1:Int))),(cond c187 true s2.2.1),(cond c196 (c198++c200) c198),()),((!c144),s2.2.1,s2.2.2.1,()))
noncomputable def withyref20_link_r (a1:((List (Int × (Int × ((List Int) × Bool)))) × (List (Int × (Int × Int))))) (a2:(Int × (Int × (Int × (Int × Int))))):Bool × (((List (Int × (Int × ((List Int) × Bool)))) × (List (Int × (Int × Int))))):=
 let c6:=(decide (a2.2.2.1<a2.2.1))
 let c7:=(cond c6 a2.2.2.1 a2.2.1)
 let c8:=(cond c6 a2.2.1 a2.2.2.1)
 let c9:=(withyref20_Up_r a1 c7 c8)
 let c13:=(a2.1==(9:Int))
 let c19:=c9.2
 let c44:=(loopD 0 [.int .i64,(.fl (.row (.prod (.int .i64) (.prod (.int .i64) (.int .i64)))))] [.bool,(.fl (.row (.prod (.int .i64) (.prod (.int .i64) (.int .i64)))))] (withyref20_link_l0 a1 a2) ((0:Int),([]:List (Int × (Int × Int))),()))
 let c109:=(loopD 1 [.int .i64,(.fl (.row (.prod (.int .i64) (.prod (.int .i64) (.prod (.fl (.int .u8)) .bool))))),(.fl (.row (.prod (.int .i64) (.prod (.int .i64) (.int .i64)))))] [.bool,(.fl (.row (.prod (.int .i64) (.prod (.int .i64) (.prod (.fl (.int .u8)) .bool))))),(.fl (.row (.prod (.int .i64) (.prod (.int .i64) (.int .i64)))))] (withyref20_link_l1 a1 a2) ((0:Int),([]:List (Int × (Int × ((List Int) × Bool)))),c44.2.2.1,()))
 let c113:=(!c13)
 let c117:=(c7,(c8,a2.2.2.2.2))
 let c118:=(withyref05_May_r c117)
 let c121:=(!c118.2)
 let c122:=(!c121)
 let c125:=(c122 && c122)
 let c126:=(decide (c19<(0:Int)))
 let c127:=(c125 && c126)
 let c128:=(cond c127 c127 true)
 let c142:=(!(cond c121 true (cond c126 ((a1.2.length:Int)==(512:Int)) false)))
 let c190:=(c117::([]:List (Int × (Int × Int))))
 let c191:=c190.length
 let c213:=(loopD 2 [.int .i64,.bool,(.fl (.row (.prod (.int .i64) (.prod (.int .i64) (.int .i64)))))] [.bool,.bool,(.fl (.row (.prod (.int .i64) (.prod (.int .i64) (.int .i64)))))] (withyref20_link_l2 a1 a2) ((0:Int),false,([]:List (Int × (Int × Int))),()))
 let c216:=(!c213.2.2.1)
 let c217:=c213.2.2.2.1
 ((c9.1 && ((cond c13 (c44.1 && c109.1) true) && (cond c113 (((((((c118.1 && (cond c122 c122 true)) && c128) && c128) && c128) && (cond c122 (c125 && (cond c126 c127 true)) true)) && (cond c121 true c122)) && (cond c142 (c213.1 && (cond c216 (decide ((c217.length+c191)*24≤140737488355328)) true)) true)) true))),((cond c113 (cond c142 (a1.1,(cond c216 (c217++c190) c217)) a1) (c109.2.2.1,c109.2.2.2.1))))
def withyref20_link_e:Ent:=⟨71,[],[(.pure (.row (.prod (.fl (.row (.prod (.int .i64) (.prod (.int .i64) (.prod (.fl (.int .u8)) .bool))))) (.fl (.row (.prod (.int .i64) (.prod (.int .i64) (.int .i64))))))) (Ty.dflt _)),(.pure (.row (.prod (.int .i64) (.prod (.int .i64) (.prod (.int .i64) (.prod (.int .i64) (.int .i64)))))) (Ty.dflt _))],[],[(.pure (.row (.prod (.fl (.row (.prod (.int .i64) (.prod (.int .i64) (.prod (.fl (.int .u8)) .bool))))) (.fl (.row (.prod (.int .i64) (.prod (.int .i64) (.int .i64))))))) (Ty.dflt _))],[]⟩
noncomputable def withyref20_link:Fun:=⟨withyref20_link_e,fun x=>let r:=withyref20_link_r x.1 x.2.1; (r.1,(r.2,()))⟩
theorem withyref20_link_ev:evFun Try.prog [withyref20_Up,withyref05_May] [⟨[10],[1856],⟨[],[(1856,⟨.tt,(.var 45 (.row (.pair (.cst (.slice none 0 0)) (.own 3459 3))))⟩),(3459,⟨.tt,(.arr (.row (.prod (.int .i64) (.prod (.int .i64) (.int .i64)))) [] false)⟩)],0⟩,[],[1856],[(1,[]),(2,[])],[]⟩,⟨[11],[1856],⟨[],[(1856,⟨.tt,(.var 45 (.row (.pair (.own 5320 4) (.own 2628 3))))⟩),(5320,⟨.tt,(.arr (.row (.prod (.int .i64) (.prod (.int .i64) (.prod (.fl (.int .u8)) .bool)))) [] false)⟩),(2628,⟨.tt,(.arr (.row (.prod (.int .i64) (.prod (.int .i64) (.int .i64)))) [] false)⟩)],0⟩,[],[1856],[(1,[]),(4,[])],[]⟩,⟨[14,13],[1856],⟨[],[(1856,⟨.tt,(.var 45 (.row (.pair (.cst (.slice none 0 0)) (.own 6340 3))))⟩),(6340,⟨.tt,(.arr (.row (.prod (.int .i64) (.prod (.int .i64) (.int .i64)))) [] false)⟩)],0⟩,[],[1856],[(1,[]),(6,[13])],[]⟩,⟨[],[],⟨[],[],0⟩,[],[],[],[(1000003,([5,6,10,11,13,14],[]))]⟩] Try.f71 (codeOf Try.f71) withyref20_link_e=(withyref20_link).fn:=by kernel_rfl
theorem withyref20_link_ok:FunOk Try.prog (withyref20_link):=fun_ok (opers_ok (oks_cons withyref20_Up_ok (oks_cons withyref05_May_ok oks_nil))) Try.call71 Try.func71 (by kernel_rfl) fun x _=>(congrFun (withyref20_link_ev) x).symm
noncomputable def withyref04_At_r (a1:Int) (a2:Int):Bool × (Int):=
 let c3:=(Int.tmod a1 a2)
 ((a2 !=(0:Int)),((cond (decide (c3<(0:Int))) (IntKind.i64.wrap (c3+a2)) c3)))
def withyref04_At_e:Ent:=⟨72,[],[(.pure (.int .i64) (Ty.dflt _)),(.pure (.int .i64) (Ty.dflt _))],[],[(.pure (.int .i64) (Ty.dflt _))],[]⟩
noncomputable def withyref04_At:Fun:=⟨withyref04_At_e,fun x=>let r:=withyref04_At_r x.1 x.2.1; (r.1,(r.2,()))⟩
theorem withyref04_At_ev:evFun Try.prog [] [] Try.f72 (codeOf Try.f72) withyref04_At_e=(withyref04_At).fn:=by kernel_rfl
theorem withyref04_At_ok:FunOk Try.prog (withyref04_At):=fun_ok (opers_ok oks_nil) Try.call72 Try.func72 (by kernel_rfl) fun x _=>(congrFun (withyref04_At_ev) x).symm
noncomputable def withyref01_Burst_l0 (a1:(List Int)) (a2:Int) (a3:Int) (s0:HL [.int .i64,(.fl (.int .u8))]):Bool × Bool × HL [.int .i64,(.fl (.int .u8))] × HL [.bool,(.fl (.int .u8))]:=
 let c8:=(decide (s0.1<(32:Int)))
 let c11:=(IntKind.u64.wrap ((IntKind.i64.wrap ((31:Int) - s0.1))))
 let c20:=((Int.tmod (iShr .u32 .u64 a3 c11) (2:Int))==(1:Int))
 let c22:=(cond c20 c20 true)
 let c26:=(IntKind.i64.wrap (a2+s0.1))
 let c30:=(cond c20 (decide (c26≥(0:Int))) false)
 let c31:=(cond c30 c30 true)
 let c42:=(cond c30 (decide (c26<(IntKind.i64.wrap ((8:Int)*(a1.length:Int))))) false)
 let c43:=((8:Int) !=(0:Int))
 let c45:=(IntKind.i64.wrap (Int.tdiv c26 (8:Int)))
 let c47:=(Int.toNat c45)
 let c50:=(decide (c47<s0.2.1.length))
 let c51:=((decide ((0:Int)≤c45)) && c50)
 let c58:=(IntKind.u64.wrap ((IntKind.i64.wrap ((7:Int) - (Int.tmod c26 (8:Int))))))
 ((cond c8 (((((((((decide ((0:Int)≤c11)) && ((2:Int) !=(0:Int))) && c22) && c22) && c31) && c31) && (cond c30 (c30 && c30) true)) && c31) && (cond c42 (((((((c43 && c43) && c51) && c50) && c43) && (decide ((0:Int)≤c58))) && c51) && c50) true)) true),c8,((IntKind.i64.wrap (s0.1+(1:Int))),(cond c42 (s0.2.1.set c47 (iBxor .u8 ((s0.2.1[c47]?).getD (0:Int)) (iShl .u8 .u64 (1:Int) c58))) s0.2.1),()),((!c8),s0.2.1,()))
noncomputable def withyref01_Burst_r (a1:(List Int)) (a2:Int) (a3:Int):Bool × ((List Int)):=
 let c74:=(loopD 0 [.int .i64,(.fl (.int .u8))] [.bool,(.fl (.int .u8))] (withyref01_Burst_l0 a1 a2 a3) ((0:Int),(([]:List Int)++a1),()))
 (((decide ((([]:List Int).length+a1.length)*1≤140737488355328)) && c74.1),(c74.2.2.1))
def withyref01_Burst_e:Ent:=⟨114,[],[(.pure (.fl (.int .u8)) (Ty.dflt _)),(.pure (.int .i64) (Ty.dflt _)),(.pure (.int .u32) (Ty.dflt _))],[(0,(.arr (.int .u8) [] false))],[(.own 0 1)],[]⟩
noncomputable def withyref01_Burst:Fun:=⟨withyref01_Burst_e,fun x=>let r:=withyref01_Burst_r x.1 x.2.1 x.2.2.1; (r.1,(r.2,()))⟩
theorem withyref01_Burst_ev:evFun Try.prog [] [⟨[8],[192],⟨[],[],0⟩,[],[],[(1,[]),(2,[])],[]⟩] Try.f114 (codeOf Try.f114) withyref01_Burst_e=(withyref01_Burst).fn:=by kernel_rfl
theorem withyref01_Burst_ok:FunOk Try.prog (withyref01_Burst):=fun_ok (opers_ok oks_nil) Try.call114 Try.func114 (by kernel_rfl) fun x _=>(congrFun (withyref01_Burst_ev) x).symm
noncomputable def withyref04_Burst_r (a1:(List Int)) (a2:Int) (a3:Int):Bool × ((List Int)):=
 let c5:=(!((a1.length:Int)==(0:Int)))
 let c9:=(withyref04_At_r a2 (IntKind.i64.wrap ((8:Int)*(a1.length:Int))))
 let c13:=(withyref01_Burst_r a1 c9.2 a3)
 ((cond c5 (c9.1 && c13.1) true),((cond c5 c13.2 ([]:List Int))))
def withyref04_Burst_e:Ent:=⟨73,[],[(.pure (.fl (.int .u8)) (Ty.dflt _)),(.pure (.int .i64) (Ty.dflt _)),(.pure (.int .u32) (Ty.dflt _))],[(0,(.arr (.int .u8) [] false))],[(.own 0 1)],[]⟩
noncomputable def withyref04_Burst:Fun:=⟨withyref04_Burst_e,fun x=>let r:=withyref04_Burst_r x.1 x.2.1 x.2.2.1; (r.1,(r.2,()))⟩
theorem withyref04_Burst_ev:evFun Try.prog [withyref04_At,withyref01_Burst] [] Try.f73 (codeOf Try.f73) withyref04_Burst_e=(withyref04_Burst).fn:=by kernel_rfl
theorem withyref04_Burst_ok:FunOk Try.prog (withyref04_Burst):=fun_ok (opers_ok (oks_cons withyref04_At_ok (oks_cons withyref01_Burst_ok oks_nil))) Try.call73 Try.func73 (by kernel_rfl) fun x _=>(congrFun (withyref04_Burst_ev) x).symm
noncomputable def withyref20_Do_r (a1:((List (Int × (Int × ((List Int) × Bool)))) × (List (Int × (Int × Int))))) (a2:(Int × (Int × (Int × (Int × Int))))):Bool × (((List (Int × (Int × ((List Int) × Bool)))) × (List (Int × (Int × Int)))) × (Int × (Int × ((List Int) × Bool))) × Bool):=
 let c3:=(a2.1==(8:Int))
 let c4:=(!c3)
 let c6:=(cond c4 c4 true)
 let c12:=(cond c3 true (a2.1==(9:Int)))
 let c14:=(withyref20_link_r a1 a2)
 let c18:=(!c12)
 let c23:=((a1.1.length:Int)==(0:Int))
 let c24:=(!c23)
 let c25:=(cond c24 c24 true)
 let c31:=(cond c23 true (decide (a2.1<(2:Int))))
 let c32:=(!c31)
 let c33:=(cond c32 c32 true)
 let c41:=(!(cond c31 true (decide (a2.1>(7:Int)))))
 let c46:=(withyref04_At_r a2.2.2.2.1 (a1.1.length:Int))
 let c48:=c46.2
 let c49:=(decide ((0:Int)≤c48))
 let c50:=(Int.toNat c48)
 let c51:=(decide (c50<a1.1.length))
 let c62:=((a1.1.drop 0).take c50)
 let c68:=(IntKind.i64.wrap (c48+(1:Int)))
 let c70:=(Int.toNat c68)
 let c74:=(([]:List (Int × (Int × ((List Int) × Bool))))++c62)
 let c78:=((a1.1.drop c70).take (a1.1.length - c70))
 let c83:=(a2.1==(2:Int))
 let c85:=(a2.1==(3:Int))
 let c87:=(a2.1==(4:Int))
 let c88:=(([]:List (Int × (Int × ((List Int) × Bool))))++a1.1)
 let c89:=c88.length
 let c92:=(decide ((c89:Int)<(16384:Int)))
 let c93:=((a1.1[c50]?).getD ((0:Int),((0:Int),(([]:List Int),false))))
 let c94:=(c93::([]:List (Int × (Int × ((List Int) × Bool)))))
 let c95:=c94.length
 let c100:=(a2.1==(5:Int))
 let c101:=(c74++c78)
 let c106:=(a2.1==(6:Int))
 let c108:=c93.2.2
 let c110:=(!c108.2)
 let c112:=c108.1
 let c113:=c112.length
 let c116:=(withyref04_At_r a2.2.2.2.2 (IntKind.i64.wrap ((c113:Int)+(1:Int))))
 let c118:=c116.2
 let c120:=(Int.toNat c118)
 let c124:=(decide (c50<c89))
 let c125:=(c49 && c124)
 let c128:=((c88[c50]?).getD ((0:Int),((0:Int),(([]:List Int),false))))
 let c129:=c128.1
 let c130:=c128.2
 let c131:=c130.1
 let c135:=c130.2.2
 let c139:=(c88.set c50 (c129,(c131,(((c112.drop 0).take c120),c135))))
 let c141:=(decide (c50<c139.length))
 let c148:=(withyref04_Burst_r c112 a2.2.2.1 (IntKind.u32.wrap (a2.2.2.2.2)))
 let c156:=(c88.set c50 (c129,(c131,(c148.2,c135))))
 let c158:=(decide (c50<c156.length))
 let c176:=(!c83)
 let c180:=((c139[c50]?).getD ((0:Int),((0:Int),(([]:List Int),false))))
 let c182:=c180.2
 let c191:=((c156[c50]?).getD ((0:Int),((0:Int),(([]:List Int),false))))
 let c193:=c191.2
 let c217:=((0:Int),((0:Int),(([]:List Int),false)))
 (((((c6 && c6) && (cond c3 true c4)) && (cond c12 c14.1 true)) && (cond c18 ((((((c25 && c25) && (cond c23 true c24)) && c33) && c33) && (cond c31 true c32)) && (cond c41 (c46.1 && (((c49 && c51) && c51) && ((decide ((([]:List (Int × (Int × ((List Int) × Bool)))).length+a1.1.length)*48≤140737488355328)) && (((((c49 && (decide (c50≤a1.1.length))) && (decide ((([]:List (Int × (Int × ((List Int) × Bool)))).length+c62.length)*48≤140737488355328))) && ((decide ((0:Int)≤c68)) && (decide (c70≤a1.1.length)))) && (decide ((c74.length+c78.length)*48≤140737488355328))) && (cond c83 true (cond c85 true (cond c87 (cond c92 (decide ((c89+c95)*48≤140737488355328)) true) (cond c100 (decide ((c101.length+c95)*48≤140737488355328)) (cond c106 (cond c110 ((((c116.1 && ((decide ((0:Int)≤c118)) && (decide (c120≤c113)))) && c125) && c124) && ((c49 && c141) && c141)) true) (cond c110 (((c148.1 && c125) && c124) && ((c49 && c158) && c158)) true)))))))))) true)) true)),((cond c18 (cond c41 ((cond c176 (cond c85 c101 (cond c87 (cond c92 (c88++c94) c88) (cond c100 (c101++c94) (cond c106 (cond c110 (c139.set c50 (c180.1,(c182.1,(c182.2.1,true)))) c88) (cond c110 (c156.set c50 (c191.1,(c193.1,(c193.2.1,true)))) c88))))) c101),(cond c176 a1.2 a1.2)) a1) c14.2),(cond c18 (cond c41 (cond c176 c217 c93) c217) c217),(cond c18 (cond c41 (cond c176 false true) false) false)))
def withyref20_Do_e:Ent:=⟨30,[],[(.pure (.row (.prod (.fl (.row (.prod (.int .i64) (.prod (.int .i64) (.prod (.fl (.int .u8)) .bool))))) (.fl (.row (.prod (.int .i64) (.prod (.int .i64) (.int .i64))))))) (Ty.dflt _)),(.pure (.row (.prod (.int .i64) (.prod (.int .i64) (.prod (.int .i64) (.prod (.int .i64) (.int .i64)))))) (Ty.dflt _))],[],[(.pure (.row (.prod (.fl (.row (.prod (.int .i64) (.prod (.int .i64) (.prod (.fl (.int .u8)) .bool))))) (.fl (.row (.prod (.int .i64) (.prod (.int .i64) (.int .i64))))))) (Ty.dflt _)),(.pure (.row (.prod (.int .i64) (.prod (.int .i64) (.prod (.fl (.int .u8)) .bool)))) (Ty.dflt _)),(.pure .bool (Ty.dflt _))],[]⟩
noncomputable def withyref20_Do:Fun:=⟨withyref20_Do_e,fun x=>let r:=withyref20_Do_r x.1 x.2.1; (r.1,(r.2.1,r.2.2.1,r.2.2.2,()))⟩
theorem withyref20_Do_ev:evFun Try.prog [withyref20_link,withyref04_At,withyref04_Burst] [⟨[],[],⟨[],[],0⟩,[],[],[],[(1000003,([9],[]))]⟩] Try.f30 (codeOf Try.f30) withyref20_Do_e=(withyref20_Do).fn:=by kernel_rfl
theorem withyref20_Do_ok:FunOk Try.prog (withyref20_Do):=fun_ok (opers_ok (oks_cons withyref20_link_ok (oks_cons withyref04_At_ok (oks_cons withyref04_Burst_ok oks_nil)))) Try.call30 Try.func30 (by kernel_rfl) fun x _=>(congrFun (withyref20_Do_ev) x).symm
noncomputable def withylaw20_AirDoes_r (a1:((List (Int × (Int × ((List Int) × Bool)))) × (List (Int × (Int × Int))))) (a2:(Int × (Int × (Int × (Int × Int))))):Bool × (Bool):=
 let c1:=(withylaw20_light_r a1)
 let c4:=(!c1.2)
 let c5:=(withylaw20_awake_r)
 let c6:=c5.1
 let c10:=(!c4)
 let c12:=(air_Do_r a1 a2)
 let c14:=(withyref20_May_r a1)
 let c17:=(!c14.2)
 let c18:=(air_Check_r a1)
 let c19:=c18.1
 let c20:=c18.2
 let c22:=(c20==(1:Int))
 let c23:=(cond c22 c22 true)
 let c26:=c12.2.2.2.2.2.2.2.1
 let c29:=(cond c22 (c26==(1:Int)) false)
 let c30:=(cond c29 c29 true)
 let c33:=c12.2.2.2.2.2.2.1
 let c35:=(cond c29 (!c33) false)
 let c37:=c12.2.2.2.2.2.1
 let c43:=(withyref20_Flight_r c37 ((0:Int),((0:Int),(([]:List Int),false))))
 let c51:=(cond c35 c43.2 false)
 let c53:=c12.2.2.1
 let c54:=c12.2.1
 let c55:=c12.2.2.2.2.2.2.2.2.1
 let c58:=c12.2.2.2.2.1
 let c59:=c12.2.2.2.1
 let c60:=c12.2.2.2.2.2.2.2.2.2
 let c63:=(((c55.drop c54).take c53),((c60.drop c59).take c58))
 let c67:=(withyref20_Same_r c63 (([]:List (Int × (Int × ((List Int) × Bool)))),([]:List (Int × (Int × Int)))))
 let c75:=(cond c51 c67.2 false)
 let c82:=(!c17)
 let c83:=(withyref20_Do_r a1 a2)
 let c85:=(c20==(0:Int))
 let c86:=(cond c85 c85 true)
 let c90:=(cond c85 (c26==(0:Int)) false)
 let c98:=(cond c90 (c33==c83.2.2.2) false)
 let c101:=(withyref20_Flight_r c37 c83.2.2.1)
 let c109:=(cond c98 c101.2 false)
 let c112:=(withyref20_Same_r c63 c83.2.1)
 let c120:=(cond c109 c112.2 false)
 let c128:=(withyref20_May_r ((((cond c109 c55 c55).drop c54).take c53),(((cond c109 c60 c60).drop c59).take c58)))
 let c136:=(cond c120 c128.2 false)
 let c147:=c5.2
 (((c1.1 && (cond c4 c6 true)) && (cond c10 (c12.1 && ((c14.1 && (cond c17 ((((((((((c19 && c23) && c23) && c30) && c30) && (cond c35 ((c35 && c35) && c43.1) true)) && (cond c35 c35 true)) && (cond c51 ((c51 && c51) && c67.1) true)) && (cond c51 c51 true)) && (cond c75 c6 true)) && (cond c75 c75 true)) true)) && (cond c82 (c83.1 && ((((((((((((c19 && c86) && c86) && (cond c90 (c90 && c90) true)) && (cond c90 c90 true)) && (cond c98 ((c98 && c98) && c101.1) true)) && (cond c98 c98 true)) && (cond c109 ((c109 && c109) && c112.1) true)) && (cond c109 c109 true)) && (cond c120 (c120 && c128.1) true)) && (cond c120 c120 true)) && (cond c136 c6 true)) && (cond c136 c136 true))) true))) true)),((cond c10 (cond c82 (cond c136 c147 false) (cond c75 c147 false)) c147)))
def withylaw20_AirDoes_e:Ent:=⟨4,[],[(.pure (.row (.prod (.fl (.row (.prod (.int .i64) (.prod (.int .i64) (.prod (.fl (.int .u8)) .bool))))) (.fl (.row (.prod (.int .i64) (.prod (.int .i64) (.int .i64))))))) (Ty.dflt _)),(.pure (.row (.prod (.int .i64) (.prod (.int .i64) (.prod (.int .i64) (.prod (.int .i64) (.int .i64)))))) (Ty.dflt _))],[],[(.pure .bool (Ty.dflt _))],[]⟩
noncomputable def withylaw20_AirDoes:Fun:=⟨withylaw20_AirDoes_e,fun x=>let r:=withylaw20_AirDoes_r x.1 x.2.1; (r.1,(r.2,()))⟩
theorem withylaw20_AirDoes_ev:evFun Try.prog [withylaw20_light,withylaw20_awake,air_Do,withyref20_May,air_Check,withyref20_Flight,withyref20_Same,withyref20_Do] [] Try.f4 (codeOf Try.f4) withylaw20_AirDoes_e=(withylaw20_AirDoes).fn:=by kernel_rfl
theorem withylaw20_AirDoes_ok:FunOk Try.prog (withylaw20_AirDoes):=fun_ok (opers_ok (oks_cons withylaw20_light_ok (oks_cons withylaw20_awake_ok (oks_cons air_Do_ok (oks_cons withyref20_May_ok (oks_cons air_Check_ok (oks_cons withyref20_Flight_ok (oks_cons withyref20_Same_ok (oks_cons withyref20_Do_ok oks_nil))))))))) Try.call4 Try.func4 (by kernel_rfl) fun x _=>(congrFun (withylaw20_AirDoes_ev) x).symm
noncomputable def withyref03_May_l0 (a1:(Int × (Int × (Int × (Int × (List Int)))))) (s0:HL [.int .i64]):Bool × Bool × HL [.int .i64] × HL [.bool,.bool,.bool]:=
 let c11:=(a1.2.1::(a1.2.2.1::(a1.2.2.2.1::([]:List Int))))
 let c12:=c11.length
 let c14:=(decide (s0.1<(c12:Int)))
 let c16:=(Int.toNat s0.1)
 let c17:=(decide (c16<c12))
 let c20:=((c11[c16]?).getD (0:Int))
 let c22:=(decide (c20<(0:Int)))
 let c23:=(!c22)
 let c32:=(cond c22 true (decide (c20>(2147483647:Int))))
 ((cond c14 ((((decide ((0:Int)≤s0.1)) && c17) && c17) && ((cond c23 c23 true) && (cond c22 true c23))) true),(c14 && (!c32)),((IntKind.i64.wrap (s0.1+(1:Int))),()),((c14 && c32),false,(!c14),()))
noncomputable def withyref03_May_r (a1:(Int × (Int × (Int × (Int × (List Int)))))):Bool × (Bool):=
 let c40:=(loopD 0 [.int .i64] [.bool,.bool,.bool] (withyref03_May_l0 a1) ((0:Int),()))
 let c42:=c40.2.2.2.1
 let c44:=(decide (a1.1≥(1:Int)))
 let c45:=(cond c44 c44 true)
 let c50:=(cond c44 (decide (a1.1<(6:Int))) false)
 let c51:=(cond c50 c50 true)
 let c61:=(cond c50 (decide ((a1.2.2.2.2.length:Int)≤(16384:Int))) false)
 let c62:=(cond c61 c61 true)
 let c65:=(c61 && c61)
 let c67:=(a1.1==(3:Int))
 let c69:=(c65 && (!c67))
 let c70:=(cond c69 c69 true)
 ((c40.1 && (cond c42 (((((((((((((c45 && c45) && c45) && c51) && c51) && c51) && c51) && c62) && c62) && c70) && c70) && c70) && (cond c61 (c65 && (cond c67 true c69)) true)) && c62) true)),((cond c42 (cond c61 (cond c67 true ((a1.2.2.2.2.length:Int)==(0:Int))) false) c40.2.2.1)))
def withyref03_May_e:Ent:=⟨32,[],[(.pure (.row (.prod (.int .i64) (.prod (.int .i64) (.prod (.int .i64) (.prod (.int .i64) (.fl (.int .u8))))))) (Ty.dflt _))],[],[(.pure .bool (Ty.dflt _))],[]⟩
noncomputable def withyref03_May:Fun:=⟨withyref03_May_e,fun x=>let r:=withyref03_May_r x.1; (r.1,(r.2,()))⟩
theorem withyref03_May_ev:evFun Try.prog [] [⟨[13],[],⟨[],[],0⟩,[],[],[(1,[2]),(2,[])],[]⟩,⟨[],[],⟨[],[],0⟩,[],[],[],[(1000003,([13],[]))]⟩] Try.f32 (codeOf Try.f32) withyref03_May_e=(withyref03_May).fn:=by kernel_rfl
theorem withyref03_May_ok:FunOk Try.prog (withyref03_May):=fun_ok (opers_ok oks_nil) Try.call32 Try.func32 (by kernel_rfl) fun x _=>(congrFun (withyref03_May_ev) x).symm
noncomputable def withyref02_Num_l0 (a1:Int) (a2:Int) (s0:HL [.int .i64,.int .i64,(.fl (.int .u8))]):Bool × Bool × HL [.int .i64,.int .i64,(.fl (.int .u8))] × HL [.bool,(.fl (.int .u8))]:=
 let c2:=(decide (s0.1<a2))
 let c4:=((256:Int) !=(0:Int))
 let c9:=((IntKind.u8.wrap ((Int.tmod s0.2.1 (256:Int))))::([]:List Int))
 ((cond c2 ((c4 && (decide ((c9.length+s0.2.2.1.length)*1≤140737488355328))) && c4) true),c2,((IntKind.i64.wrap (s0.1+(1:Int))),(IntKind.i64.wrap (Int.tdiv s0.2.1 (256:Int))),(c9++s0.2.2.1),()),((!c2),s0.2.2.1,()))
noncomputable def withyref02_Num_r (a1:Int) (a2:Int):Bool × ((List Int)):=
 let c26:=(loopD 0 [.int .i64,.int .i64,(.fl (.int .u8))] [.bool,(.fl (.int .u8))] (withyref02_Num_l0 a1 a2) ((0:Int),a1,([]:List Int),()))
 (c26.1,(c26.2.2.1))
def withyref02_Num_e:Ent:=⟨74,[],[(.pure (.int .i64) (Ty.dflt _)),(.pure (.int .i64) (Ty.dflt _))],[(0,(.arr (.int .u8) [] false))],[(.own 0 1)],[]⟩
noncomputable def withyref02_Num:Fun:=⟨withyref02_Num_e,fun x=>let r:=withyref02_Num_r x.1 x.2.1; (r.1,(r.2,()))⟩
theorem withyref02_Num_ev:evFun Try.prog [] [⟨[6,0,5],[],⟨[],[],0⟩,[],[],[(1,[]),(2,[5])],[]⟩] Try.f74 (codeOf Try.f74) withyref02_Num_e=(withyref02_Num).fn:=by kernel_rfl
theorem withyref02_Num_ok:FunOk Try.prog (withyref02_Num):=fun_ok (opers_ok oks_nil) Try.call74 Try.func74 (by kernel_rfl) fun x _=>(congrFun (withyref02_Num_ev) x).symm
noncomputable def withyref01_Of_l0 (a1:(List Int)) (s0:HL [.int .i64,(.fl .bool)]):Bool × Bool × HL [.int .i64,(.fl .bool)] × HL [.bool,(.fl .bool)]:=
 let c7:=(decide (s0.1<(32:Int)))
 let c9:=(Int.toNat s0.1)
 let c12:=(decide (c9<s0.2.1.length))
 ((cond c7 (((decide ((0:Int)≤s0.1)) && c12) && c12) true),c7,((IntKind.i64.wrap (s0.1+(1:Int))),(s0.2.1.set c9 true),()),((!c7),s0.2.1,()))
noncomputable def withyref01_Of_l2 (a1:(List Int)) (s2:HL [.int .i64,(.fl .bool)]):Bool × Bool × HL [.int .i64,(.fl .bool)] × HL [.bool,(.fl .bool)]:=
 let c61:=(decide (s2.1<(31:Int)))
 let c62:=(IntKind.i64.wrap (s2.1+(1:Int)))
 let c64:=(Int.toNat c62)
 let c67:=(decide (c64<s2.2.1.length))
 let c71:=(Int.toNat s2.1)
 let c72:=(decide (c71<s2.2.1.length))
 ((cond c61 (((((decide ((0:Int)≤c62)) && c67) && c67) && ((decide ((0:Int)≤s2.1)) && c72)) && c72) true),c61,(c62,(s2.2.1.set c71 ((s2.2.1[c64]?).getD false)),()),((!c61),s2.2.1,()))
noncomputable def withyref01_Of_l3 (a1:(List Int)) (s3:HL [.int .i64,(.fl .bool)]):Bool × Bool × HL [.int .i64,(.fl .bool)] × HL [.bool,(.fl .bool)]:=
 let c50:=((2:Int) !=(0:Int))
 let c97:=(decide (s3.1<(32:Int)))
 let c99:=(IntKind.u64.wrap ((IntKind.i64.wrap ((31:Int) - s3.1))))
 let c105:=((Int.tmod (iShr .i64 .u64 (79764919:Int) c99) (2:Int))==(1:Int))
 let c107:=(Int.toNat s3.1)
 let c110:=(decide (c107<s3.2.1.length))
 let c111:=((decide ((0:Int)≤s3.1)) && c110)
 ((cond c97 (((decide ((0:Int)≤c99)) && c50) && (cond c105 (((c111 && c110) && c111) && c110) true)) true),c97,((IntKind.i64.wrap (s3.1+(1:Int))),(cond c105 (s3.2.1.set c107 (!((s3.2.1[c107]?).getD false))) s3.2.1),()),((!c97),s3.2.1,()))
noncomputable def withyref01_Of_l1 (a1:(List Int)) (s1:HL [.int .i64,(.fl .bool)]):Bool × Bool × HL [.int .i64,(.fl .bool)] × HL [.bool,(.fl .bool)]:=
 let c33:=(decide (s1.1<(IntKind.i64.wrap ((8:Int)*(a1.length:Int)))))
 let c34:=((8:Int) !=(0:Int))
 let c35:=(IntKind.i64.wrap (Int.tdiv s1.1 (8:Int)))
 let c37:=(Int.toNat c35)
 let c38:=(decide (c37<a1.length))
 let c46:=(IntKind.u64.wrap ((IntKind.i64.wrap ((7:Int) - (Int.tmod s1.1 (8:Int))))))
 let c50:=((2:Int) !=(0:Int))
 let c53:=(Int.toNat (0:Int))
 let c56:=(decide (c53<s1.2.1.length))
 let c80:=(loopD 2 [.int .i64,(.fl .bool)] [.bool,(.fl .bool)] (withyref01_Of_l2 a1) ((0:Int),s1.2.1,()))
 let c83:=(Int.toNat (31:Int))
 let c84:=c80.2.2.1
 let c86:=(decide (c83<c84.length))
 let c95:=(!(((s1.2.1[c53]?).getD false)==((Int.tmod (iShr .u8 .u64 ((a1[c37]?).getD (0:Int)) c46) (2:Int))==(1:Int))))
 let c124:=(c84.set c83 false)
 let c125:=(loopD 3 [.int .i64,(.fl .bool)] [.bool,(.fl .bool)] (withyref01_Of_l3 a1) ((0:Int),c124,()))
 ((cond c33 ((((((c34 && ((decide ((0:Int)≤c35)) && c38)) && c38) && c34) && (decide ((0:Int)≤c46))) && c50) && ((((decide ((0:Int)≤(0:Int))) && c56) && c56) && (c80.1 && ((((decide ((0:Int)≤(31:Int))) && c86) && c86) && (cond c95 c125.1 true))))) true),c33,((IntKind.i64.wrap (s1.1+(1:Int))),(cond c95 c125.2.2.1 c124),()),((!c33),s1.2.1,()))
noncomputable def withyref01_Of_l4 (a1:(List Int)) (s4:HL [.int .i64,.int .u32]):Bool × Bool × HL [.int .i64,.int .u32] × HL [.bool,.int .u32]:=
 let c25:=(loopD 0 [.int .i64,(.fl .bool)] [.bool,(.fl .bool)] (withyref01_Of_l0 a1) ((0:Int),(List.replicate (Int.toNat (32:Int)) false),()))
 let c138:=(loopD 1 [.int .i64,(.fl .bool)] [.bool,(.fl .bool)] (withyref01_Of_l1 a1) ((0:Int),c25.2.2.1,()))
 let c141:=(decide (s4.1<(32:Int)))
 let c143:=(Int.toNat s4.1)
 let c144:=c138.2.2.1
 let c146:=(decide (c143<c144.length))
 let c154:=(IntKind.u32.wrap (s4.2.1*(2:Int)))
 ((cond c141 (((decide ((0:Int)≤s4.1)) && c146) && c146) true),c141,((IntKind.i64.wrap (s4.1+(1:Int))),(cond (!((c144[c143]?).getD false)) (IntKind.u32.wrap (c154+(1:Int))) c154),()),((!c141),s4.2.1,()))
noncomputable def withyref01_Of_r (a1:(List Int)):Bool × (Int):=
 let c25:=(loopD 0 [.int .i64,(.fl .bool)] [.bool,(.fl .bool)] (withyref01_Of_l0 a1) ((0:Int),(List.replicate (Int.toNat (32:Int)) false),()))
 let c138:=(loopD 1 [.int .i64,(.fl .bool)] [.bool,(.fl .bool)] (withyref01_Of_l1 a1) ((0:Int),c25.2.2.1,()))
 let c158:=(loopD 4 [.int .i64,.int .u32] [.bool,.int .u32] (withyref01_Of_l4 a1) ((0:Int),(0:Int),()))
 (((((32:Int)==(32:Int)) && ((decide ((0:Int)≤(32:Int))) && (decide ((1:Int)*(32:Int)≤281474976710656)))) && (c25.1 && (c138.1 && c158.1))),(c158.2.2.1))
def withyref01_Of_e:Ent:=⟨115,[],[(.pure (.fl (.int .u8)) (Ty.dflt _))],[],[(.pure (.int .u32) (Ty.dflt _))],[]⟩
noncomputable def withyref01_Of:Fun:=⟨withyref01_Of_e,fun x=>let r:=withyref01_Of_r x.1; (r.1,(r.2,()))⟩
theorem withyref01_Of_ev:evFun Try.prog [] [⟨[4],[64],⟨[],[],0⟩,[],[],[(1,[]),(2,[])],[]⟩,⟨[5],[64],⟨[],[],0⟩,[],[],[(1,[]),(4,[])],[]⟩,⟨[8],[64],⟨[],[],0⟩,[],[],[(1,[]),(6,[])],[]⟩,⟨[9],[64],⟨[],[],0⟩,[],[],[(1,[]),(8,[])],[]⟩,⟨[11,10],[],⟨[],[],0⟩,[],[],[(1,[]),(10,[10])],[]⟩] Try.f115 (codeOf Try.f115) withyref01_Of_e=(withyref01_Of).fn:=by kernel_rfl
theorem withyref01_Of_ok:FunOk Try.prog (withyref01_Of):=fun_ok (opers_ok oks_nil) Try.call115 Try.func115 (by kernel_rfl) fun x _=>(congrFun (withyref01_Of_ev) x).symm
noncomputable def withyref01_Seal_r (a1:(List Int)):Bool × ((List Int)):=
 let c1:=(withyref01_Of_r a1)
 let c17:=(([]:List Int)++a1)
 let c19:=c1.2
 let c30:=((IntKind.u8.wrap ((iShr .u32 .u64 c19 (24:Int))))::((IntKind.u8.wrap ((iShr .u32 .u64 c19 (16:Int))))::((IntKind.u8.wrap ((iShr .u32 .u64 c19 (8:Int))))::((IntKind.u8.wrap (c19))::([]:List Int)))))
 ((c1.1 && (((((decide ((([]:List Int).length+a1.length)*1≤140737488355328)) && (decide ((0:Int)≤(24:Int)))) && (decide ((0:Int)≤(16:Int)))) && (decide ((0:Int)≤(8:Int)))) && (decide ((c17.length+c30.length)*1≤140737488355328)))),((c17++c30)))
def withyref01_Seal_e:Ent:=⟨75,[],[(.pure (.fl (.int .u8)) (Ty.dflt _))],[(0,(.arr (.int .u8) [] false))],[(.own 0 1)],[]⟩
noncomputable def withyref01_Seal:Fun:=⟨withyref01_Seal_e,fun x=>let r:=withyref01_Seal_r x.1; (r.1,(r.2,()))⟩
theorem withyref01_Seal_ev:evFun Try.prog [withyref01_Of] [] Try.f75 (codeOf Try.f75) withyref01_Seal_e=(withyref01_Seal).fn:=by kernel_rfl
theorem withyref01_Seal_ok:FunOk Try.prog (withyref01_Seal):=fun_ok (opers_ok (oks_cons withyref01_Of_ok oks_nil)) Try.call75 Try.func75 (by kernel_rfl) fun x _=>(congrFun (withyref01_Seal_ev) x).symm
noncomputable def withyref03_Bytes_r (a1:(Int × (Int × (Int × (Int × (List Int)))))):Bool × ((List Int)):=
 let c8:=(withyref02_Num_r (a1.2.2.2.2.length:Int) (2:Int))
 let c12:=(withyref02_Num_r a1.1 (1:Int))
 let c15:=c8.2
 let c17:=c12.2
 let c24:=(withyref02_Num_r a1.2.1 (4:Int))
 let c26:=(c15++c17)
 let c28:=c24.2
 let c34:=(withyref02_Num_r a1.2.2.1 (4:Int))
 let c36:=(c26++c28)
 let c38:=c34.2
 let c44:=(withyref02_Num_r a1.2.2.2.1 (4:Int))
 let c46:=(c36++c38)
 let c48:=c44.2
 let c53:=(c46++c48)
 let c58:=(withyref01_Seal_r (c53++a1.2.2.2.2))
 ((((c8.1 && c12.1) && (decide ((c15.length+c17.length)*1≤140737488355328))) && ((c24.1 && (decide ((c26.length+c28.length)*1≤140737488355328))) && ((c34.1 && (decide ((c36.length+c38.length)*1≤140737488355328))) && ((c44.1 && (decide ((c46.length+c48.length)*1≤140737488355328))) && ((decide ((c53.length+a1.2.2.2.2.length)*1≤140737488355328)) && c58.1))))),(c58.2))
def withyref03_Bytes_e:Ent:=⟨33,[],[(.pure (.row (.prod (.int .i64) (.prod (.int .i64) (.prod (.int .i64) (.prod (.int .i64) (.fl (.int .u8))))))) (Ty.dflt _))],[(0,(.arr (.int .u8) [] false))],[(.own 0 1)],[]⟩
noncomputable def withyref03_Bytes:Fun:=⟨withyref03_Bytes_e,fun x=>let r:=withyref03_Bytes_r x.1; (r.1,(r.2,()))⟩
theorem withyref03_Bytes_ev:evFun Try.prog [withyref02_Num,withyref01_Seal] [] Try.f33 (codeOf Try.f33) withyref03_Bytes_e=(withyref03_Bytes).fn:=by kernel_rfl
theorem withyref03_Bytes_ok:FunOk Try.prog (withyref03_Bytes):=fun_ok (opers_ok (oks_cons withyref02_Num_ok (oks_cons withyref01_Seal_ok oks_nil))) Try.call33 Try.func33 (by kernel_rfl) fun x _=>(congrFun (withyref03_Bytes_ev) x).symm
noncomputable def withyref01_Open_r (a1:(List Int)):Bool × ((List Int) × Bool):=
 let c5:=(!(decide ((a1.length:Int)<(4:Int))))
 let c6:=(IntKind.i64.wrap ((a1.length:Int) - (4:Int)))
 let c8:=(Int.toNat c6)
 let c10:=((decide ((0:Int)≤c6)) && (decide (c8≤a1.length)))
 let c14:=((a1.drop 0).take c8)
 let c15:=(withyref01_Seal_r c14)
 ((cond c5 ((c10 && c10) && c15.1) true),((cond c5 c14 ([]:List Int)),(cond c5 ((ByteArray.mk ((c15.2).map fun n=>UInt8.ofNat (Int.toNat n)).toArray)==(ByteArray.mk ((a1).map fun n=>UInt8.ofNat (Int.toNat n)).toArray)) false)))
def withyref01_Open_e:Ent:=⟨76,[],[(.pure (.fl (.int .u8)) (Ty.dflt _))],[],[(.pure (.fl (.int .u8)) (Ty.dflt _)),(.pure .bool (Ty.dflt _))],[]⟩
noncomputable def withyref01_Open:Fun:=⟨withyref01_Open_e,fun x=>let r:=withyref01_Open_r x.1; (r.1,(r.2.1,r.2.2,()))⟩
theorem withyref01_Open_ev:evFun Try.prog [withyref01_Seal] [] Try.f76 (codeOf Try.f76) withyref01_Open_e=(withyref01_Open).fn:=by kernel_rfl
theorem withyref01_Open_ok:FunOk Try.prog (withyref01_Open):=fun_ok (opers_ok (oks_cons withyref01_Seal_ok oks_nil)) Try.call76 Try.func76 (by kernel_rfl) fun x _=>(congrFun (withyref01_Open_ev) x).symm
noncomputable def withyref02_number_l0 (a1:(List Int)) (s0:HL [.int .i64,.int .i64]):Bool × Bool × HL [.int .i64,.int .i64] × HL [.bool,.int .i64]:=
 let c4:=(decide (s0.1<(a1.length:Int)))
 let c6:=(Int.toNat s0.1)
 let c7:=(decide (c6<a1.length))
 ((cond c4 (((decide ((0:Int)≤s0.1)) && c7) && c7) true),c4,((IntKind.i64.wrap (s0.1+(1:Int))),(IntKind.i64.wrap ((IntKind.i64.wrap (s0.2.1*(256:Int)))+(IntKind.i64.wrap (((a1[c6]?).getD (0:Int)))))),()),((!c4),s0.2.1,()))
noncomputable def withyref02_number_r (a1:(List Int)):Bool × (Int):=
 let c22:=(loopD 0 [.int .i64,.int .i64] [.bool,.int .i64] (withyref02_number_l0 a1) ((0:Int),(0:Int),()))
 (c22.1,(c22.2.2.1))
def withyref02_number_e:Ent:=⟨116,[],[(.pure (.fl (.int .u8)) (Ty.dflt _))],[],[(.pure (.int .i64) (Ty.dflt _))],[]⟩
noncomputable def withyref02_number:Fun:=⟨withyref02_number_e,fun x=>let r:=withyref02_number_r x.1; (r.1,(r.2,()))⟩
theorem withyref02_number_ev:evFun Try.prog [] [⟨[4,3],[],⟨[],[],0⟩,[],[],[(1,[]),(2,[3])],[]⟩] Try.f116 (codeOf Try.f116) withyref02_number_e=(withyref02_number).fn:=by kernel_rfl
theorem withyref02_number_ok:FunOk Try.prog (withyref02_number):=fun_ok (opers_ok oks_nil) Try.call116 Try.func116 (by kernel_rfl) fun x _=>(congrFun (withyref02_number_ev) x).symm
noncomputable def withyref02_Limit_l0 (a1:Int) (s0:HL [.int .i64,.int .i64]):Bool × Bool × HL [.int .i64,.int .i64] × HL [.bool,.int .i64]:=
 let c3:=(decide (s0.1<a1))
 (true,c3,((IntKind.i64.wrap (s0.1+(1:Int))),(IntKind.i64.wrap (s0.2.1*(256:Int))),()),((!c3),s0.2.1,()))
noncomputable def withyref02_Limit_r (a1:Int):Bool × (Int):=
 let c11:=(loopD 0 [.int .i64,.int .i64] [.bool,.int .i64] (withyref02_Limit_l0 a1) ((0:Int),(1:Int),()))
 let c14:=(IntKind.i64.wrap (c11.2.2.1 - (1:Int)))
 (c11.1,((cond (!(decide (c14>(2147483647:Int)))) c14 (2147483647:Int))))
def withyref02_Limit_e:Ent:=⟨117,[],[(.pure (.int .i64) (Ty.dflt _))],[],[(.pure (.int .i64) (Ty.dflt _))],[]⟩
noncomputable def withyref02_Limit:Fun:=⟨withyref02_Limit_e,fun x=>let r:=withyref02_Limit_r x.1; (r.1,(r.2,()))⟩
theorem withyref02_Limit_ev:evFun Try.prog [] [⟨[4,3],[],⟨[],[],0⟩,[],[],[(1,[]),(2,[3])],[]⟩,⟨[],[],⟨[],[],0⟩,[],[],[],[(1000003,([3,4],[]))]⟩] Try.f117 (codeOf Try.f117) withyref02_Limit_e=(withyref02_Limit).fn:=by kernel_rfl
theorem withyref02_Limit_ok:FunOk Try.prog (withyref02_Limit):=fun_ok (opers_ok oks_nil) Try.call117 Try.func117 (by kernel_rfl) fun x _=>(congrFun (withyref02_Limit_ev) x).symm
noncomputable def withyref02_Take_r (a1:Int) (a2:((List Int) × Int)):Bool × (Int × ((List Int) × Int)):=
 let c4:=(!(a2.2 !=(0:Int)))
 let c7:=(decide (a1<(1:Int)))
 let c8:=(!c7)
 let c16:=(!(cond c7 true (decide (a1>(4:Int)))))
 let c20:=(decide ((a2.1.length:Int)<a1))
 let c21:=(!c20)
 let c22:=(cond c21 c21 true)
 let c25:=(decide ((0:Int)≤a1))
 let c27:=(Int.toNat a1)
 let c28:=(decide (c27≤a2.1.length))
 let c36:=(withyref02_number_r ((a2.1.drop 0).take c27))
 let c37:=c36.1
 let c41:=(withyref02_Limit_r a1)
 let c51:=c36.2
 let c55:=(!(cond c20 true (decide (c51>c41.2))))
 let c56:=(c25 && c28)
 ((cond c4 (((cond c8 c8 true) && (cond c7 true c8)) && (cond c16 ((((((((c22 && c22) && c22) && (cond c21 (c21 && ((c21 && c25) && c28)) true)) && (cond c21 (c21 && c37) true)) && (cond c21 (c21 && c41.1) true)) && (cond c21 (c21 && c21) true)) && (cond c20 true c21)) && (cond c55 ((c56 && c37) && c56) true)) true)) true),((cond c4 (cond c16 (cond c55 c51 (0:Int)) (0:Int)) (0:Int)),(cond c4 (cond c16 (cond c55 (((a2.1.drop c27).take (a2.1.length - c27)),a2.2) (a2.1,(5:Int))) (a2.1,(1:Int))) a2)))
def withyref02_Take_e:Ent:=⟨77,[(0,(.var 116 (.pure (.row (.prod (.fl (.int .u8)) (.int .i64))) (Ty.dflt _))))],[(.ptr 0 []),(.pure (.int .i64) (Ty.dflt _))],[(0,(.var 116 (.pure (.row (.prod (.fl (.int .u8)) (.int .i64))) (Ty.dflt _))))],[(.pure (.int .i64) (Ty.dflt _))],[]⟩
noncomputable def withyref02_Take:Fun:=⟨withyref02_Take_e,fun x=>let r:=withyref02_Take_r x.1 x.2.1; (r.1,(r.2.1,r.2.2,()))⟩
theorem withyref02_Take_ev:evFun Try.prog [withyref02_number,withyref02_Limit] [] Try.f77 (codeOf Try.f77) withyref02_Take_e=(withyref02_Take).fn:=by kernel_rfl
theorem withyref02_Take_ok:FunOk Try.prog (withyref02_Take):=fun_ok (opers_ok (oks_cons withyref02_number_ok (oks_cons withyref02_Limit_ok oks_nil))) Try.call77 Try.func77 (by kernel_rfl) fun x _=>(congrFun (withyref02_Take_ev) x).symm
noncomputable def withyref03_Decode_r (a1:(List Int)):Bool × ((Int × (Int × (Int × (Int × (List Int))))) × Int):=
 let c5:=(!(decide ((a1.length:Int)>(16403:Int))))
 let c8:=(!(decide ((a1.length:Int)<(19:Int))))
 let c9:=(withyref01_Open_r a1)
 let c13:=(!(!c9.2.2))
 let c18:=(withyref02_Take_r (2:Int) (c9.2.1,(0:Int)))
 let c22:=(withyref02_Take_r (1:Int) c18.2.2)
 let c26:=(withyref02_Take_r (4:Int) c22.2.2)
 let c29:=(withyref02_Take_r (4:Int) c26.2.2)
 let c32:=(withyref02_Take_r (4:Int) c29.2.2)
 let c34:=c32.2.2
 let c36:=(c34.2 !=(0:Int))
 let c37:=(!c36)
 let c46:=(c22.2.1,(c26.2.1,(c29.2.1,(c32.2.1,c34.1))))
 let c47:=(withyref03_May_r c46)
 let c58:=(cond c36 true (!c47.2))
 let c59:=(!c58)
 let c60:=(withyref03_Bytes_r c46)
 let c66:=(cond c59 (c59 && c59) true)
 let c88:=(!(cond c58 true (!((ByteArray.mk ((c60.2).map fun n=>UInt8.ofNat (Int.toNat n)).toArray)==(ByteArray.mk ((a1).map fun n=>UInt8.ofNat (Int.toNat n)).toArray)))))
 let c93:=((0:Int),((0:Int),((0:Int),((0:Int),([]:List Int)))))
 ((cond c5 (cond c8 (c9.1 && (cond c13 (c18.1 && (c22.1 && (c26.1 && (c29.1 && (c32.1 && ((((((((cond c37 (c37 && c47.1) true) && (cond c37 c37 true)) && (cond c36 true c37)) && (cond c59 (c59 && c60.1) true)) && c66) && (cond c59 c59 true)) && c66) && (cond c58 true c59))))))) true)) true) true),((cond c5 (cond c8 (cond c13 (cond c88 c46 c93) c93) c93) c93),(cond c5 (cond c8 (cond c13 (cond c88 (0:Int) (5:Int)) (6:Int)) (5:Int)) (3:Int))))
def withyref03_Decode_e:Ent:=⟨34,[],[(.pure (.fl (.int .u8)) (Ty.dflt _))],[],[(.pure (.row (.prod (.int .i64) (.prod (.int .i64) (.prod (.int .i64) (.prod (.int .i64) (.fl (.int .u8))))))) (Ty.dflt _)),(.pure (.int .i64) (Ty.dflt _))],[]⟩
noncomputable def withyref03_Decode:Fun:=⟨withyref03_Decode_e,fun x=>let r:=withyref03_Decode_r x.1; (r.1,(r.2.1,r.2.2,()))⟩
theorem withyref03_Decode_ev:evFun Try.prog [withyref01_Open,withyref02_Take,withyref03_May,withyref03_Bytes] [] Try.f34 (codeOf Try.f34) withyref03_Decode_e=(withyref03_Decode).fn:=by kernel_rfl
theorem withyref03_Decode_ok:FunOk Try.prog (withyref03_Decode):=fun_ok (opers_ok (oks_cons withyref01_Open_ok (oks_cons withyref02_Take_ok (oks_cons withyref03_May_ok (oks_cons withyref03_Bytes_ok oks_nil))))) Try.call34 Try.func34 (by kernel_rfl) fun x _=>(congrFun (withyref03_Decode_ev) x).symm
noncomputable def withylaw20_AirBends_l0 (a1:(List (Int × (Int × Int)))) (a2:(List (Int × (Int × (Int × (Int × (List Int))))))) (a3:(List (Int × (Int × (Int × (Int × Int)))))) (s0:HL [.int .i64,.int .i64,.nat,.nat,.nat,.nat,(.fl (.row (.prod (.int .i64) (.prod (.int .i64) (.prod (.fl (.int .u8)) .bool))))),(.fl (.row (.prod (.int .i64) (.prod (.int .i64) (.int .i64)))))]):Bool × Bool × HL [.int .i64,.int .i64,.nat,.nat,.nat,.nat,(.fl (.row (.prod (.int .i64) (.prod (.int .i64) (.prod (.fl (.int .u8)) .bool))))),(.fl (.row (.prod (.int .i64) (.prod (.int .i64) (.int .i64)))))] × HL [.bool,.int .i64,.nat,.nat,.nat,.nat,(.fl (.row (.prod (.int .i64) (.prod (.int .i64) (.prod (.fl (.int .u8)) .bool))))),(.fl (.row (.prod (.int .i64) (.prod (.int .i64) (.int .i64)))))]:=
 let c35:=(decide (s0.1<(a1.length:Int)))
 let c36:=(cond c35 c35 true)
 let c42:=(cond c35 (s0.2.1==(0:Int)) false)
 let c44:=(Int.toNat s0.1)
 let c45:=(decide (c44<a1.length))
 let c46:=((decide ((0:Int)≤s0.1)) && c45)
 let c64:=((a1[c44]?).getD ((0:Int),((0:Int),(0:Int))))
 let c66:=c64.2
 let c73:=(air_Do_r (((s0.2.2.2.2.2.2.1.drop s0.2.2.1).take s0.2.2.2.1),((s0.2.2.2.2.2.2.2.1.drop s0.2.2.2.2.1).take s0.2.2.2.2.2.1)) ((8:Int),(c64.1,(c66.1,((0:Int),c66.2)))))
 (((c36 && c36) && (cond c42 ((((((c46 && c45) && c46) && c45) && c46) && c45) && c73.1) true)),c42,((IntKind.i64.wrap (s0.1+(1:Int))),c73.2.2.2.2.2.2.2.1,c73.2.1,c73.2.2.1,c73.2.2.2.1,c73.2.2.2.2.1,c73.2.2.2.2.2.2.2.2.1,c73.2.2.2.2.2.2.2.2.2,()),((!c42),s0.2.1,s0.2.2.1,s0.2.2.2.1,s0.2.2.2.2.1,s0.2.2.2.2.2.1,s0.2.2.2.2.2.2.1,s0.2.2.2.2.2.2.2.1,()))
noncomputable def withylaw20_AirBends_l2 (a1:(List (Int × (Int × Int)))) (a2:(List (Int × (Int × (Int × (Int × (List Int))))))) (a3:(List (Int × (Int × (Int × (Int × Int)))))) (s1:HL [.int .i64,.int .i64,.nat,.nat,.nat,.nat,(.fl .str),(.fl (.row (.prod (.int .i64) (.prod (.int .i64) (.prod (.fl (.int .u8)) .bool))))),(.fl (.row (.prod (.int .i64) (.prod (.int .i64) (.int .i64)))))]) (s2:HL [.int .i64,.bool]):Bool × Bool × HL [.int .i64,.bool] × HL [.bool,.bool]:=
 let c100:=(decide (s1.1<(a2.length:Int)))
 let c105:=(cond c100 (decide ((a1.length:Int)>(0:Int))) false)
 let c107:=(Int.toNat s1.1)
 let c117:=((a2[c107]?).getD ((0:Int),((0:Int),((0:Int),((0:Int),([]:List Int))))))
 let c118:=(withyref03_May_r c117)
 let c126:=(cond c105 c118.2 false)
 let c147:=(cond c126 (decide ((c117.2.2.2.2.length:Int)≤(100:Int))) false)
 let c149:=(withyref03_Bytes_r c117)
 let c154:=c149.2
 let c157:=((ByteArray.mk ((c154).map fun n=>UInt8.ofNat (Int.toNat n)).toArray)::([]:List ByteArray))
 let c162:=(Int.tmod s1.1 (a1.length:Int))
 let c164:=(Int.toNat c162)
 let c183:=((a1[c164]?).getD ((0:Int),((0:Int),(0:Int))))
 let c190:=(air_Put_r (((s1.2.2.2.2.2.2.2.1.drop s1.2.2.1).take s1.2.2.2.1),((s1.2.2.2.2.2.2.2.2.1.drop s1.2.2.2.2.1).take s1.2.2.2.2.2.1)) (c183.1,(c183.2.1,(c154,false))))
 let c204:=c190.2.2.1
 let c206:=(cond c147 c204.length s1.2.2.2.1)
 let c207:=(cond c147 0 s1.2.2.1)
 let c208:=(cond c147 c204 s1.2.2.2.2.2.2.2.1)
 let c211:=c190.2.2.2
 let c213:=(cond c147 c211.length s1.2.2.2.2.2.1)
 let c214:=(cond c147 0 s1.2.2.2.2.1)
 let c215:=(cond c147 c211 s1.2.2.2.2.2.2.2.2.1)
 let c220:=(air_Do_r (((c208.drop c207).take c206),((c215.drop c214).take c213)) ((a3[c107]?).getD ((0:Int),((0:Int),((0:Int),((0:Int),(0:Int)))))))
 let c229:=c220.2.2.2.2.2.1.2.2.1
 let c237:=(cond c147 (s1.2.2.2.2.2.2.1++c157) s1.2.2.2.2.2.2.1)
 let c238:=c237.length
 let c240:=(decide (s2.1<(c238:Int)))
 let c242:=(!s2.2.1)
 let c244:=(Int.toNat s2.1)
 let c245:=(decide (c244<c238))
 let c253:=(cond c242 c242 true)
 ((cond c240 ((((((cond c242 (c242 && (c242 && ((decide ((0:Int)≤s2.1)) && c245))) true) && (cond c242 (c242 && c245) true)) && c253) && c253) && (cond c242 (c242 && c242) true)) && (cond s2.2.1 true c242)) true),c240,((IntKind.i64.wrap (s2.1+(1:Int))),(cond s2.2.1 true (((c237[c244]?).getD ByteArray.empty)==(ByteArray.mk ((c229).map fun n=>UInt8.ofNat (Int.toNat n)).toArray))),()),((!c240),s2.2.1,()))
noncomputable def withylaw20_AirBends_l1 (a1:(List (Int × (Int × Int)))) (a2:(List (Int × (Int × (Int × (Int × (List Int))))))) (a3:(List (Int × (Int × (Int × (Int × Int)))))) (s1:HL [.int .i64,.int .i64,.nat,.nat,.nat,.nat,(.fl .str),(.fl (.row (.prod (.int .i64) (.prod (.int .i64) (.prod (.fl (.int .u8)) .bool))))),(.fl (.row (.prod (.int .i64) (.prod (.int .i64) (.int .i64)))))]):Bool × Bool × HL [.int .i64,.int .i64,.nat,.nat,.nat,.nat,(.fl .str),(.fl (.row (.prod (.int .i64) (.prod (.int .i64) (.prod (.fl (.int .u8)) .bool))))),(.fl (.row (.prod (.int .i64) (.prod (.int .i64) (.int .i64)))))] × HL [.bool,.bool,.nat,.nat,.nat,.nat,(.fl (.row (.prod (.int .i64) (.prod (.int .i64) (.prod (.fl (.int .u8)) .bool))))),(.fl (.row (.prod (.int .i64) (.prod (.int .i64) (.int .i64))))),.bool,.int .i64,.nat,.nat,.nat,.nat,(.fl (.row (.prod (.int .i64) (.prod (.int .i64) (.prod (.fl (.int .u8)) .bool))))),(.fl (.row (.prod (.int .i64) (.prod (.int .i64) (.int .i64)))))]:=
 let c94:=(decide (s1.1<(a3.length:Int)))
 let c95:=(cond c94 c94 true)
 let c99:=(cond c94 (s1.2.1==(0:Int)) false)
 let c100:=(decide (s1.1<(a2.length:Int)))
 let c101:=(cond c100 c100 true)
 let c105:=(cond c100 (decide ((a1.length:Int)>(0:Int))) false)
 let c106:=(decide ((0:Int)≤s1.1))
 let c107:=(Int.toNat s1.1)
 let c108:=(decide (c107<a2.length))
 let c109:=(c106 && c108)
 let c117:=((a2[c107]?).getD ((0:Int),((0:Int),((0:Int),((0:Int),([]:List Int))))))
 let c118:=(withyref03_May_r c117)
 let c126:=(cond c105 c118.2 false)
 let c131:=(cond c126 c126 true)
 let c147:=(cond c126 (decide ((c117.2.2.2.2.length:Int)≤(100:Int))) false)
 let c149:=(withyref03_Bytes_r c117)
 let c154:=c149.2
 let c157:=((ByteArray.mk ((c154).map fun n=>UInt8.ofNat (Int.toNat n)).toArray)::([]:List ByteArray))
 let c161:=((a1.length:Int) !=(0:Int))
 let c162:=(Int.tmod s1.1 (a1.length:Int))
 let c164:=(Int.toNat c162)
 let c165:=(decide (c164<a1.length))
 let c166:=((decide ((0:Int)≤c162)) && c165)
 let c183:=((a1[c164]?).getD ((0:Int),((0:Int),(0:Int))))
 let c190:=(air_Put_r (((s1.2.2.2.2.2.2.2.1.drop s1.2.2.1).take s1.2.2.2.1),((s1.2.2.2.2.2.2.2.2.1.drop s1.2.2.2.2.1).take s1.2.2.2.2.2.1)) (c183.1,(c183.2.1,(c154,false))))
 let c199:=((cond c147 c190.2.1 s1.2.1) !=(0:Int))
 let c200:=(!c199)
 let c201:=(decide (c107<a3.length))
 let c204:=c190.2.2.1
 let c206:=(cond c147 c204.length s1.2.2.2.1)
 let c207:=(cond c147 0 s1.2.2.1)
 let c208:=(cond c147 c204 s1.2.2.2.2.2.2.2.1)
 let c211:=c190.2.2.2
 let c213:=(cond c147 c211.length s1.2.2.2.2.2.1)
 let c214:=(cond c147 0 s1.2.2.2.2.1)
 let c215:=(cond c147 c211 s1.2.2.2.2.2.2.2.2.1)
 let c220:=(air_Do_r (((c208.drop c207).take c206),((c215.drop c214).take c213)) ((a3[c107]?).getD ((0:Int),((0:Int),((0:Int),((0:Int),(0:Int)))))))
 let c224:=(!c220.2.2.2.2.2.2.1)
 let c225:=(!c224)
 let c229:=c220.2.2.2.2.2.1.2.2.1
 let c230:=(withyref03_Decode_r c229)
 let c233:=(c230.2.2 !=(0:Int))
 let c234:=(!c233)
 let c237:=(cond c147 (s1.2.2.2.2.2.2.1++c157) s1.2.2.2.2.2.2.1)
 let c268:=(loopD 2 [.int .i64,.bool] [.bool,.bool] (withylaw20_AirBends_l2 a1 a2 a3 s1) ((0:Int),false,()))
 let c279:=(!c268.2.2.1)
 let c283:=(c200 && (c225 && (c234 && (!c279))))
 let c289:=c220.2.2.2.2.2.2.2.1
 let c291:=c220.2.1
 let c293:=c220.2.2.1
 let c295:=c220.2.2.2.1
 let c297:=c220.2.2.2.2.1
 let c300:=c220.2.2.2.2.2.2.2.2.1
 let c302:=c220.2.2.2.2.2.2.2.2.2
 (((c95 && c95) && (cond c99 ((((((((((((((c101 && c101) && c101) && (cond c105 (c105 && (c105 && c109)) true)) && (cond c105 (c105 && c108) true)) && (cond c105 (c105 && c118.1) true)) && (cond c105 c105 true)) && (cond c126 (c126 && (c126 && c109)) true)) && c131) && (cond c126 (c126 && c108) true)) && c131) && c131) && c131) && (cond c147 (((c109 && c108) && c149.1) && ((decide ((s1.2.2.2.2.2.2.1.length+c157.length)*16≤140737488355328)) && ((((((c161 && c166) && c165) && c161) && c166) && c165) && c190.1))) true)) && (cond c200 ((((c106 && c201) && c201) && c220.1) && (cond c225 (c230.1 && (cond c234 c268.1 true)) true)) true)) true)),(c99 && (c283 || (c200 && (cond c225 c233 c224)))),((IntKind.i64.wrap (s1.1+(1:Int))),(cond c283 c289 c289),(cond c283 c291 c291),(cond c283 c293 c293),(cond c283 c295 c295),(cond c283 c297 c297),(cond c283 c237 c237),(cond c283 c300 c300),(cond c283 c302 c302),()),((c99 && (cond c200 (c225 && (c234 && c279)) c199)),(cond c200 false false),(cond c200 c291 c207),(cond c200 c293 c206),(cond c200 c295 c214),(cond c200 c297 c213),(cond c200 c300 c208),(cond c200 c302 c215),(!c99),s1.2.1,s1.2.2.1,s1.2.2.2.1,s1.2.2.2.2.1,s1.2.2.2.2.2.1,s1.2.2.2.2.2.2.2.1,s1.2.2.2.2.2.2.2.2.1,()))
noncomputable def withylaw20_AirBends_r (a1:(List (Int × (Int × Int)))) (a2:(List (Int × (Int × (Int × (Int × (List Int))))))) (a3:(List (Int × (Int × (Int × (Int × Int)))))):Bool × (Bool):=
 let c4:=(decide ((a1.length:Int)>(20:Int)))
 let c5:=(!c4)
 let c7:=(cond c5 c5 true)
 let c16:=(cond c4 true (decide ((a2.length:Int)>(40:Int))))
 let c17:=(!c16)
 let c18:=(cond c17 c17 true)
 let c28:=(cond c16 true (decide ((a3.length:Int)>(150:Int))))
 let c29:=(withylaw20_awake_r)
 let c30:=c29.1
 let c33:=(!c28)
 let c91:=(loopD 0 [.int .i64,.int .i64,.nat,.nat,.nat,.nat,(.fl (.row (.prod (.int .i64) (.prod (.int .i64) (.prod (.fl (.int .u8)) .bool))))),(.fl (.row (.prod (.int .i64) (.prod (.int .i64) (.int .i64)))))] [.bool,.int .i64,.nat,.nat,.nat,.nat,(.fl (.row (.prod (.int .i64) (.prod (.int .i64) (.prod (.fl (.int .u8)) .bool))))),(.fl (.row (.prod (.int .i64) (.prod (.int .i64) (.int .i64)))))] (withylaw20_AirBends_l0 a1 a2 a3) ((0:Int),(0:Int),0,0,0,0,([]:List (Int × (Int × ((List Int) × Bool)))),([]:List (Int × (Int × Int))),()))
 let c323:=(loopD 1 [.int .i64,.int .i64,.nat,.nat,.nat,.nat,(.fl .str),(.fl (.row (.prod (.int .i64) (.prod (.int .i64) (.prod (.fl (.int .u8)) .bool))))),(.fl (.row (.prod (.int .i64) (.prod (.int .i64) (.int .i64)))))] [.bool,.bool,.nat,.nat,.nat,.nat,(.fl (.row (.prod (.int .i64) (.prod (.int .i64) (.prod (.fl (.int .u8)) .bool))))),(.fl (.row (.prod (.int .i64) (.prod (.int .i64) (.int .i64))))),.bool,.int .i64,.nat,.nat,.nat,.nat,(.fl (.row (.prod (.int .i64) (.prod (.int .i64) (.prod (.fl (.int .u8)) .bool))))),(.fl (.row (.prod (.int .i64) (.prod (.int .i64) (.int .i64)))))] (withylaw20_AirBends_l1 a1 a2 a3) ((0:Int),c91.2.2.1,c91.2.2.2.1,c91.2.2.2.2.1,c91.2.2.2.2.2.1,c91.2.2.2.2.2.2.1,([]:List ByteArray),c91.2.2.2.2.2.2.2.1,c91.2.2.2.2.2.2.2.2.1,()))
 let c325:=c323.2.2.2.2.2.2.2.2.2.1
 let c327:=(c323.2.2.2.2.2.2.2.2.2.2.1==(0:Int))
 let c336:=c29.2
 ((((((((c7 && c7) && (cond c4 true c5)) && c18) && c18) && (cond c16 true c17)) && (cond c28 c30 true)) && (cond c33 (c91.1 && (c323.1 && (cond c325 ((cond c327 c30 true) && (cond c327 c327 true)) true))) true)),((cond c33 (cond c325 (cond c327 c336 false) c323.2.2.1) c336)))
def withylaw20_AirBends_e:Ent:=⟨6,[],[(.pure (.fl (.row (.prod (.int .i64) (.prod (.int .i64) (.int .i64))))) (Ty.dflt _)),(.pure (.fl (.row (.prod (.int .i64) (.prod (.int .i64) (.prod (.int .i64) (.prod (.int .i64) (.fl (.int .u8)))))))) (Ty.dflt _)),(.pure (.fl (.row (.prod (.int .i64) (.prod (.int .i64) (.prod (.int .i64) (.prod (.int .i64) (.int .i64))))))) (Ty.dflt _))],[],[(.pure .bool (Ty.dflt _))],[]⟩
noncomputable def withylaw20_AirBends:Fun:=⟨withylaw20_AirBends_e,fun x=>let r:=withylaw20_AirBends_r x.1 x.2.1 x.2.2.1; (r.1,(r.2,()))⟩
theorem withylaw20_AirBends_ev:evFun Try.prog [withylaw20_awake,air_Do,withyref03_May,withyref03_Bytes,air_Put,withyref03_Decode] [⟨[9,8],[960],⟨[],[(960,⟨.tt,(.var 45 (.row (.pair (.sref 2822 4 0 0) (.sref 2823 3 0 0))))⟩),(2822,⟨.tt,(.arr (.row (.prod (.int .i64) (.prod (.int .i64) (.prod (.fl (.int .u8)) .bool)))) [] false)⟩),(2823,⟨.tt,(.arr (.row (.prod (.int .i64) (.prod (.int .i64) (.int .i64)))) [] false)⟩),(960,⟨.tt,(.var 45 (.row (.pair (.own 2817 4) (.own 2818 3))))⟩),(2817,⟨.tt,(.arr (.row (.prod (.int .i64) (.prod (.int .i64) (.prod (.fl (.int .u8)) .bool)))) [] false)⟩),(2818,⟨.tt,(.arr (.row (.prod (.int .i64) (.prod (.int .i64) (.int .i64)))) [] false)⟩)],0⟩,[],[960],[(1,[]),(2,[8])],[]⟩,⟨[11,10,8],[960],⟨[],[],0⟩,[],[],[(1,[6]),(4,[8])],[]⟩,⟨[18,17],[],⟨[],[],0⟩,[],[],[(1,[]),(6,[17])],[]⟩,⟨[],[],⟨[],[],0⟩,[],[],[],[(1000003,([8,9,10,11,14,17,18],[]))]⟩] Try.f6 (codeOf Try.f6) withylaw20_AirBends_e=(withylaw20_AirBends).fn:=by kernel_rfl
theorem withylaw20_AirBends_ok:FunOk Try.prog (withylaw20_AirBends):=fun_ok (opers_ok (oks_cons withylaw20_awake_ok (oks_cons air_Do_ok (oks_cons withyref03_May_ok (oks_cons withyref03_Bytes_ok (oks_cons air_Put_ok (oks_cons withyref03_Decode_ok oks_nil))))))) Try.call6 Try.func6 (by kernel_rfl) fun x _=>(congrFun (withylaw20_AirBends_ev) x).symm
end Go.Proofs.Ytfeepbajipdfaaa.T
