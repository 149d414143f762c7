/- What functions come to. -/
import Derived.Test.YtfeepbajipdfaaaTr4
import Derived.KernelRfl
import Derived.Test.YtfeepbajipdfaaaRows
namespace Go.Proofs.Ytfeepbajipdfaaa.T
open Go.Vm Go.Tm
set_option linter.unusedVariables false
noncomputable def withyref05_Node_r (a1:Int):Bool × (Bool):=
 let c2:=(decide (a1≥(1:Int)))
 let c4:=(cond c2 c2 true)
 ((c4 && c4),((cond c2 (decide (a1≤(64:Int))) false)))
def withyref05_Node_e:Ent:=⟨93,[],[(.pure (.int .i64) (Ty.dflt _))],[],[(.pure .bool (Ty.dflt _))],[]⟩
noncomputable def withyref05_Node:Fun:=⟨withyref05_Node_e,fun x=>let r:=withyref05_Node_r x.1; (r.1,(r.2,()))⟩
theorem withyref05_Node_ev:evFun Try.prog [] [] Try.f93 (codeOf Try.f93) withyref05_Node_e=(withyref05_Node).fn:=by kernel_rfl
theorem withyref05_Node_ok:FunOk Try.prog (withyref05_Node):=fun_ok (opers_ok oks_nil) Try.call93 Try.func93 (by kernel_rfl) fun x _=>(congrFun (withyref05_Node_ev) x).symm
noncomputable def withyref05_May_r (a1:(Int × (Int × Int))):Bool × (Bool):=
 let c2:=(withyref05_Node_r a1.1)
 let c4:=c2.2
 let c6:=(cond c4 c4 true)
 let c10:=(withyref05_Node_r a1.2.1)
 let c18:=(cond c4 c10.2 false)
 let c19:=(cond c18 c18 true)
 let c27:=(cond c18 (decide (a1.1<a1.2.1)) false)
 let c28:=(cond c27 c27 true)
 let c35:=(cond c27 (decide (a1.2.2≥(0:Int))) false)
 let c36:=(cond c35 c35 true)
 ((((((((((((((c2.1 && c6) && (cond c4 (c4 && c10.1) true)) && c6) && c19) && c19) && (cond c18 (c18 && c18) true)) && c19) && c28) && c28) && c28) && c36) && c36) && c36),((cond c35 (decide (a1.2.2≤(2147483647:Int))) false)))
def withyref05_May_e:Ent:=⟨81,[],[(.pure (.row (.prod (.int .i64) (.prod (.int .i64) (.int .i64)))) (Ty.dflt _))],[],[(.pure .bool (Ty.dflt _))],[]⟩
noncomputable def withyref05_May:Fun:=⟨withyref05_May_e,fun x=>let r:=withyref05_May_r x.1; (r.1,(r.2,()))⟩
theorem withyref05_May_ev:evFun Try.prog [withyref05_Node] [] Try.f81 (codeOf Try.f81) withyref05_May_e=(withyref05_May).fn:=by kernel_rfl
theorem withyref05_May_ok:FunOk Try.prog (withyref05_May):=fun_ok (opers_ok (oks_cons withyref05_Node_ok oks_nil)) Try.call81 Try.func81 (by kernel_rfl) fun x _=>(congrFun (withyref05_May_ev) x).symm
noncomputable def withyref05_Check_l0 (a1:(List (Int × (Int × Int)))) (s0:HL [.int .i64]):Bool × Bool × HL [.int .i64] × HL [.bool,.int .i64,.bool]:=
 let c4:=(decide (s0.1<(a1.length:Int)))
 let c6:=(Int.toNat s0.1)
 let c7:=(decide (c6<a1.length))
 let c11:=(withyref05_May_r ((a1[c6]?).getD ((0:Int),((0:Int),(0:Int)))))
 let c17:=(!c11.2)
 ((cond c4 ((((decide ((0:Int)≤s0.1)) && c7) && c7) && c11.1) true),(c4 && (!c17)),((IntKind.i64.wrap (s0.1+(1:Int))),()),((c4 && c17),(1:Int),(!c4),()))
noncomputable def withyref05_Check_l1 (a1:(List (Int × (Int × Int)))) (s1:HL [.int .i64,(.arr 65 (.arr 65 .bool))]):Bool × Bool × HL [.int .i64,(.arr 65 (.arr 65 .bool))] × HL [.bool,.int .i64,(.arr 65 (.arr 65 .bool)),.bool,(.arr 65 (.arr 65 .bool))]:=
 let c29:=(decide (s1.1<(a1.length:Int)))
 let c31:=(Int.toNat s1.1)
 let c32:=(decide (c31<a1.length))
 let c33:=((decide ((0:Int)≤s1.1)) && c32)
 let c37:=((a1[c31]?).getD ((0:Int),((0:Int),(0:Int))))
 let c38:=c37.1
 let c40:=(Int.toNat c38)
 let c42:=(decide (c40<65))
 let c46:=c37.2.1
 let c48:=(Int.toNat c46)
 let c49:=(decide (c48<65))
 let c53:=((((((c33 && c32) && c33) && c32) && ((decide ((0:Int)≤c38)) && c42)) && ((decide ((0:Int)≤c46)) && c49)) && (c42 && c49))
 let c55:=(s1.2.1 c40)
 let c56:=(c55 c48)
 let c57:=(!c56)
 ((cond c29 (c53 && (cond c57 c53 true)) true),(c29 && c57),((IntKind.i64.wrap (s1.1+(1:Int))),(fun j=>bif Nat.beq j c40 then (fun j=>bif Nat.beq j c48 then true else c55 j) else s1.2.1 j),()),((c29 && c56),(1:Int),s1.2.1,(!c29),s1.2.1,()))
noncomputable def withyref05_Check_r (a1:(List (Int × (Int × Int)))):Bool × (Int):=
 let c25:=(loopD 0 [.int .i64] [.bool,.int .i64,.bool] (withyref05_Check_l0 a1) ((0:Int),()))
 let c27:=c25.2.2.2.1
 let c68:=(fun i=>((([false,false,false,false,false,false,false,false,false,false,false,false,false,false,false,false,false,false,false,false,false,false,false,false,false,false,false,false,false,false,false,false,false,false,false,false,false,false,false,false,false,false,false,false,false,false,false,false,false,false,false,false,false,false,false,false,false,false,false,false,false,false,false,false,false]:List Bool)[i]?).getD false))
 let c70:=(loopD 1 [.int .i64,(.arr 65 (.arr 65 .bool))] [.bool,.int .i64,(.arr 65 (.arr 65 .bool)),.bool,(.arr 65 (.arr 65 .bool))] (withyref05_Check_l1 a1) ((0:Int),(fun i=>((([c68,c68,c68,c68,c68,c68,c68,c68,c68,c68,c68,c68,c68,c68,c68,c68,c68,c68,c68,c68,c68,c68,c68,c68,c68,c68,c68,c68,c68,c68,c68,c68,c68,c68,c68,c68,c68,c68,c68,c68,c68,c68,c68,c68,c68,c68,c68,c68,c68,c68,c68,c68,c68,c68,c68,c68,c68,c68,c68,c68,c68,c68,c68,c68,c68]:List (Nat→Bool))[i]?).getD (fun _=>false))),()))
 ((c25.1 && (cond c27 c70.1 true)),((cond c27 (cond c70.2.2.2.2.1 (cond (!(decide ((a1.length:Int)>(512:Int)))) (0:Int) (3:Int)) c70.2.2.1) c25.2.2.1)))
def withyref05_Check_e:Ent:=⟨40,[],[(.pure (.fl (.row (.prod (.int .i64) (.prod (.int .i64) (.int .i64))))) (Ty.dflt _))],[],[(.pure (.int .i64) (Ty.dflt _))],[]⟩
noncomputable def withyref05_Check:Fun:=⟨withyref05_Check_e,fun x=>let r:=withyref05_Check_r x.1; (r.1,(r.2,()))⟩
theorem withyref05_Check_ev:evFun Try.prog [withyref05_May] [⟨[3],[],⟨[],[],0⟩,[],[],[(1,[2]),(2,[])],[]⟩,⟨[5],[448],⟨[],[],0⟩,[],[],[(1,[2]),(4,[])],[]⟩,⟨[],[],⟨[],[],0⟩,[],[],[],[(1000003,([3,5],[]))]⟩] Try.f40 (codeOf Try.f40) withyref05_Check_e=(withyref05_Check).fn:=by kernel_rfl
theorem withyref05_Check_ok:FunOk Try.prog (withyref05_Check):=fun_ok (opers_ok (oks_cons withyref05_May_ok oks_nil)) Try.call40 Try.func40 (by kernel_rfl) fun x _=>(congrFun (withyref05_Check_ev) x).symm
noncomputable def edge_Node_r (a1:Int):Bool × (Bool):=
 let c2:=(decide (a1≥(1:Int)))
 let c4:=(cond c2 c2 true)
 ((c4 && c4),((cond c2 (decide (a1≤(64:Int))) false)))
def edge_Node_e:Ent:=⟨70,[],[(.pure (.int .i64) (Ty.dflt _))],[],[(.pure .bool (Ty.dflt _))],[]⟩
noncomputable def edge_Node:Fun:=⟨edge_Node_e,fun x=>let r:=edge_Node_r x.1; (r.1,(r.2,()))⟩
theorem edge_Node_ev:evFun Try.prog [] [] Try.f70 (codeOf Try.f70) edge_Node_e=(edge_Node).fn:=by kernel_rfl
theorem edge_Node_ok:FunOk Try.prog (edge_Node):=fun_ok (opers_ok oks_nil) Try.call70 Try.func70 (by kernel_rfl) fun x _=>(congrFun (edge_Node_ev) x).symm
noncomputable def edge_Check_r (a1:(Int × (Int × Int))):Bool × (Int):=
 let c2:=(edge_Node_r a1.1)
 let c5:=(!c2.2)
 let c6:=(!c5)
 let c8:=(cond c6 c6 true)
 let c12:=(edge_Node_r a1.2.1)
 let c22:=(cond c5 true (!c12.2))
 let c23:=(!c22)
 let c24:=(cond c23 c23 true)
 let c33:=(cond c22 true (decide (a1.1≥a1.2.1)))
 let c34:=(!c33)
 let c35:=(cond c34 c34 true)
 let c43:=(cond c33 true (decide (a1.2.2<(0:Int))))
 let c44:=(!c43)
 let c45:=(cond c44 c44 true)
 (((((((((((((((c2.1 && c8) && (cond c6 (c6 && c12.1) true)) && c8) && (cond c5 true c6)) && c24) && c24) && (cond c23 (c23 && c23) true)) && (cond c22 true c23)) && c35) && c35) && (cond c33 true c34)) && c45) && c45) && (cond c43 true c44)),((cond (!(cond c43 true (decide (a1.2.2>(2147483647:Int))))) (0:Int) (1:Int))))
def edge_Check_e:Ent:=⟨97,[],[(.pure (.row (.prod (.int .i64) (.prod (.int .i64) (.int .i64)))) (Ty.dflt _))],[],[(.pure (.int .i64) (Ty.dflt _))],[]⟩
noncomputable def edge_Check:Fun:=⟨edge_Check_e,fun x=>let r:=edge_Check_r x.1; (r.1,(r.2,()))⟩
theorem edge_Check_ev:evFun Try.prog [edge_Node] [] Try.f97 (codeOf Try.f97) edge_Check_e=(edge_Check).fn:=by kernel_rfl
theorem edge_Check_ok:FunOk Try.prog (edge_Check):=fun_ok (opers_ok (oks_cons edge_Node_ok oks_nil)) Try.call97 Try.func97 (by kernel_rfl) fun x _=>(congrFun (edge_Check_ev) x).symm
noncomputable def edge_CheckAll_l0 (a1:(List (Int × (Int × Int)))) (s0:HL [.int .i64,(.fl (.prod (.row (.prod (.int .i64) (.prod (.int .i64) (.int .i64)))) .bool))]):Bool × Bool × HL [.int .i64,(.fl (.prod (.row (.prod (.int .i64) (.prod (.int .i64) (.int .i64)))) .bool))] × HL [.bool,.int .i64,(.fl (.prod (.row (.prod (.int .i64) (.prod (.int .i64) (.int .i64)))) .bool)),.bool,(.fl (.prod (.row (.prod (.int .i64) (.prod (.int .i64) (.int .i64)))) .bool))]:=
 let c4:=(decide (s0.1<(a1.length:Int)))
 let c6:=(Int.toNat s0.1)
 let c7:=(decide (c6<a1.length))
 let c10:=((a1[c6]?).getD ((0:Int),((0:Int),(0:Int))))
 let c11:=(edge_Check_r c10)
 let c15:=(c11.2 !=(0:Int))
 let c16:=(!c15)
 let c30:=(c10.1,(c10.2.1,(0:Int)))
 let c33:=(cond c15 true (mapGet (k:=(.row (.prod (.int .i64) (.prod (.int .i64) (.int .i64))))) (v:=.bool) s0.2.1 c30 false))
 ((cond c4 ((((decide ((0:Int)≤s0.1)) && c7) && c7) && ((c11.1 && (cond c16 (c16 && c16) true)) && (cond c15 true c16))) true),(c4 && (!c33)),((IntKind.i64.wrap (s0.1+(1:Int))),(mapPut (k:=(.row (.prod (.int .i64) (.prod (.int .i64) (.int .i64))))) (v:=.bool) s0.2.1 c30 true),()),((c4 && c33),(1:Int),s0.2.1,(!c4),s0.2.1,()))
noncomputable def edge_CheckAll_r (a1:(List (Int × (Int × Int)))):Bool × (Int):=
 let c42:=(loopD 0 [.int .i64,(.fl (.prod (.row (.prod (.int .i64) (.prod (.int .i64) (.int .i64)))) .bool))] [.bool,.int .i64,(.fl (.prod (.row (.prod (.int .i64) (.prod (.int .i64) (.int .i64)))) .bool)),.bool,(.fl (.prod (.row (.prod (.int .i64) (.prod (.int .i64) (.int .i64)))) .bool))] (edge_CheckAll_l0 a1) ((0:Int),([]:List ((Int × (Int × Int)) × Bool)),()))
 (c42.1,((cond c42.2.2.2.2.1 (cond (!(decide ((a1.length:Int)>(512:Int)))) (0:Int) (3:Int)) c42.2.2.1)))
def edge_CheckAll_e:Ent:=⟨55,[],[(.pure (.fl (.row (.prod (.int .i64) (.prod (.int .i64) (.int .i64))))) (Ty.dflt _))],[],[(.pure (.int .i64) (Ty.dflt _))],[]⟩
noncomputable def edge_CheckAll:Fun:=⟨edge_CheckAll_e,fun x=>let r:=edge_CheckAll_r x.1; (r.1,(r.2,()))⟩
theorem edge_CheckAll_ev:evFun Try.prog [edge_Check] [⟨[10],[64],⟨[],[],0⟩,[],[],[(1,[2]),(2,[])],[]⟩,⟨[],[],⟨[],[],0⟩,[],[],[],[(1000003,([10],[]))]⟩] Try.f55 (codeOf Try.f55) edge_CheckAll_e=(edge_CheckAll).fn:=by kernel_rfl
theorem edge_CheckAll_ok:FunOk Try.prog (edge_CheckAll):=fun_ok (opers_ok (oks_cons edge_Check_ok oks_nil)) Try.call55 Try.func55 (by kernel_rfl) fun x _=>(congrFun (edge_CheckAll_ev) x).symm
def slices_Clone_api_Edge_r (a1:List (Int × (Int × Int))):Bool × (List (Int × (Int × Int))):=(decide (a1.length*24≤140737488355328),a1)
noncomputable def slices_Clone_api_Edge:Fun:=cloneF 84 (.row (.prod (.int .i64) (.prod (.int .i64) (.int .i64)))) 24
theorem slices_Clone_api_Edge_ok:FunOk Try.prog slices_Clone_api_Edge:=clone_ok (fn:=Try.f84) (c:=codeOf Try.f84) (opers_ok oks_nil) Try.call84 Try.func84 (by kernel_rfl) (by kernel_rfl) (by kernel_rfl) (fun _ _=>by kernel_rfl)
noncomputable def bits_Len32_r (a1:Int):Bool × (Int):=
 let c2:=(decide (a1≥(65536:Int)))
 let c8:=(cond c2 (iShr .u32 .u64 a1 (16:Int)) a1)
 let c10:=(decide (c8≥(256:Int)))
 let c16:=(IntKind.u8.wrap ((cond c10 (iShr .u32 .u64 c8 (8:Int)) c8)))
 let c18:=(Int.toNat c16)
 let c26:=(cond c2 (16:Int) (0:Int))
 (((cond c2 (decide ((0:Int)≤(16:Int))) true) && ((cond c10 (decide ((0:Int)≤(8:Int))) true) && ((decide ((0:Int)≤c16)) && (decide (c18<(ByteArray.mk #[0,1,2,2,3,3,3,3,4,4,4,4,4,4,4,4,5,5,5,5,5,5,5,5,5,5,5,5,5,5,5,5,6,6,6,6,6,6,6,6,6,6,6,6,6,6,6,6,6,6,6,6,6,6,6,6,6,6,6,6,6,6,6,6,7,7,7,7,7,7,7,7,7,7,7,7,7,7,7,7,7,7,7,7,7,7,7,7,7,7,7,7,7,7,7,7,7,7,7,7,7,7,7,7,7,7,7,7,7,7,7,7,7,7,7,7,7,7,7,7,7,7,7,7,7,7,7,7,8,8,8,8,8,8,8,8,8,8,8,8,8,8,8,8,8,8,8,8,8,8,8,8,8,8,8,8,8,8,8,8,8,8,8,8,8,8,8,8,8,8,8,8,8,8,8,8,8,8,8,8,8,8,8,8,8,8,8,8,8,8,8,8,8,8,8,8,8,8,8,8,8,8,8,8,8,8,8,8,8,8,8,8,8,8,8,8,8,8,8,8,8,8,8,8,8,8,8,8,8,8,8,8,8,8,8,8,8,8,8,8,8,8,8,8,8,8,8,8,8,8,8,8,8,8,8,8]).size))))),((IntKind.i64.wrap ((cond c10 (IntKind.i64.wrap (c26+(8:Int))) c26)+(IntKind.i64.wrap ((sAt (ByteArray.mk #[0,1,2,2,3,3,3,3,4,4,4,4,4,4,4,4,5,5,5,5,5,5,5,5,5,5,5,5,5,5,5,5,6,6,6,6,6,6,6,6,6,6,6,6,6,6,6,6,6,6,6,6,6,6,6,6,6,6,6,6,6,6,6,6,7,7,7,7,7,7,7,7,7,7,7,7,7,7,7,7,7,7,7,7,7,7,7,7,7,7,7,7,7,7,7,7,7,7,7,7,7,7,7,7,7,7,7,7,7,7,7,7,7,7,7,7,7,7,7,7,7,7,7,7,7,7,7,7,8,8,8,8,8,8,8,8,8,8,8,8,8,8,8,8,8,8,8,8,8,8,8,8,8,8,8,8,8,8,8,8,8,8,8,8,8,8,8,8,8,8,8,8,8,8,8,8,8,8,8,8,8,8,8,8,8,8,8,8,8,8,8,8,8,8,8,8,8,8,8,8,8,8,8,8,8,8,8,8,8,8,8,8,8,8,8,8,8,8,8,8,8,8,8,8,8,8,8,8,8,8,8,8,8,8,8,8,8,8,8,8,8,8,8,8,8,8,8,8,8,8,8,8,8,8,8,8]) c18)))))))
def bits_Len32_e:Ent:=⟨150,[],[(.pure (.int .u32) (Ty.dflt _))],[],[(.pure (.int .i64) (Ty.dflt _))],[]⟩
noncomputable def bits_Len32:Fun:=⟨bits_Len32_e,fun x=>let r:=bits_Len32_r x.1; (r.1,(r.2,()))⟩
theorem bits_Len32_ev:evFun Try.prog [] [] Try.f150 (codeOf Try.f150) bits_Len32_e=(bits_Len32).fn:=by kernel_rfl
theorem bits_Len32_ok:FunOk Try.prog (bits_Len32):=fun_ok (opers_ok oks_nil) Try.call150 Try.func150 (by kernel_rfl) fun x _=>(congrFun (bits_Len32_ev) x).symm
noncomputable def bits_Len64_r (a1:Int):Bool × (Int):=
 let c2:=(decide (a1≥(4294967296:Int)))
 let c8:=(cond c2 (iShr .u64 .u64 a1 (32:Int)) a1)
 let c10:=(decide (c8≥(65536:Int)))
 let c15:=(cond c10 (iShr .u64 .u64 c8 (16:Int)) c8)
 let c17:=(decide (c15≥(256:Int)))
 let c23:=(IntKind.u8.wrap ((cond c17 (iShr .u64 .u64 c15 (8:Int)) c15)))
 let c25:=(Int.toNat c23)
 let c34:=(cond c2 (32:Int) (0:Int))
 let c36:=(cond c10 (IntKind.i64.wrap (c34+(16:Int))) c34)
 (((cond c2 (decide ((0:Int)≤(32:Int))) true) && ((cond c10 (decide ((0:Int)≤(16:Int))) true) && ((cond c17 (decide ((0:Int)≤(8:Int))) true) && ((decide ((0:Int)≤c23)) && (decide (c25<(ByteArray.mk #[0,1,2,2,3,3,3,3,4,4,4,4,4,4,4,4,5,5,5,5,5,5,5,5,5,5,5,5,5,5,5,5,6,6,6,6,6,6,6,6,6,6,6,6,6,6,6,6,6,6,6,6,6,6,6,6,6,6,6,6,6,6,6,6,7,7,7,7,7,7,7,7,7,7,7,7,7,7,7,7,7,7,7,7,7,7,7,7,7,7,7,7,7,7,7,7,7,7,7,7,7,7,7,7,7,7,7,7,7,7,7,7,7,7,7,7,7,7,7,7,7,7,7,7,7,7,7,7,8,8,8,8,8,8,8,8,8,8,8,8,8,8,8,8,8,8,8,8,8,8,8,8,8,8,8,8,8,8,8,8,8,8,8,8,8,8,8,8,8,8,8,8,8,8,8,8,8,8,8,8,8,8,8,8,8,8,8,8,8,8,8,8,8,8,8,8,8,8,8,8,8,8,8,8,8,8,8,8,8,8,8,8,8,8,8,8,8,8,8,8,8,8,8,8,8,8,8,8,8,8,8,8,8,8,8,8,8,8,8,8,8,8,8,8,8,8,8,8,8,8,8,8,8,8,8,8]).size)))))),((IntKind.i64.wrap ((cond c17 (IntKind.i64.wrap (c36+(8:Int))) c36)+(IntKind.i64.wrap ((sAt (ByteArray.mk #[0,1,2,2,3,3,3,3,4,4,4,4,4,4,4,4,5,5,5,5,5,5,5,5,5,5,5,5,5,5,5,5,6,6,6,6,6,6,6,6,6,6,6,6,6,6,6,6,6,6,6,6,6,6,6,6,6,6,6,6,6,6,6,6,7,7,7,7,7,7,7,7,7,7,7,7,7,7,7,7,7,7,7,7,7,7,7,7,7,7,7,7,7,7,7,7,7,7,7,7,7,7,7,7,7,7,7,7,7,7,7,7,7,7,7,7,7,7,7,7,7,7,7,7,7,7,7,7,8,8,8,8,8,8,8,8,8,8,8,8,8,8,8,8,8,8,8,8,8,8,8,8,8,8,8,8,8,8,8,8,8,8,8,8,8,8,8,8,8,8,8,8,8,8,8,8,8,8,8,8,8,8,8,8,8,8,8,8,8,8,8,8,8,8,8,8,8,8,8,8,8,8,8,8,8,8,8,8,8,8,8,8,8,8,8,8,8,8,8,8,8,8,8,8,8,8,8,8,8,8,8,8,8,8,8,8,8,8,8,8,8,8,8,8,8,8,8,8,8,8,8,8,8,8,8,8]) c25)))))))
def bits_Len64_e:Ent:=⟨151,[],[(.pure (.int .u64) (Ty.dflt _))],[],[(.pure (.int .i64) (Ty.dflt _))],[]⟩
noncomputable def bits_Len64:Fun:=⟨bits_Len64_e,fun x=>let r:=bits_Len64_r x.1; (r.1,(r.2,()))⟩
theorem bits_Len64_ev:evFun Try.prog [] [] Try.f151 (codeOf Try.f151) bits_Len64_e=(bits_Len64).fn:=by kernel_rfl
theorem bits_Len64_ok:FunOk Try.prog (bits_Len64):=fun_ok (opers_ok oks_nil) Try.call151 Try.func151 (by kernel_rfl) fun x _=>(congrFun (bits_Len64_ev) x).symm
noncomputable def bits_Len_r (a1:Int):Bool × (Int):=
 let c3:=(bits_Len32_r (IntKind.u32.wrap (a1)))
 let c7:=(!false)
 let c8:=(bits_Len64_r a1)
 (((cond false c3.1 true) && (cond c7 c8.1 true)),((cond c7 c8.2 c3.2)))
def bits_Len_e:Ent:=⟨119,[],[(.pure (.int .u64) (Ty.dflt _))],[],[(.pure (.int .i64) (Ty.dflt _))],[]⟩
noncomputable def bits_Len:Fun:=⟨bits_Len_e,fun x=>let r:=bits_Len_r x.1; (r.1,(r.2,()))⟩
theorem bits_Len_ev:evFun Try.prog [bits_Len32,bits_Len64] [] Try.f119 (codeOf Try.f119) bits_Len_e=(bits_Len).fn:=by kernel_rfl
theorem bits_Len_ok:FunOk Try.prog (bits_Len):=fun_ok (opers_ok (oks_cons bits_Len32_ok (oks_cons bits_Len64_ok oks_nil))) Try.call119 Try.func119 (by kernel_rfl) fun x _=>(congrFun (bits_Len_ev) x).symm
def slices_pdqsortCmpFunc_api_Edge_e:Ent:=⟨118,[(0,(.arr (.row (.prod (.int .i64) (.prod (.int .i64) (.int .i64)))) [] false))],[(.own 0 3),(.pure (.int .i64) (Ty.dflt _)),(.pure (.int .i64) (Ty.dflt _)),(.pure (.int .i64) (Ty.dflt _)),(.fn 44 (.pure .unit (Ty.dflt _)))],[(0,(.arr (.row (.prod (.int .i64) (.prod (.int .i64) (.int .i64)))) [] false))],[],[]⟩
noncomputable def cmp_isNaN_int_r (a1:Int):Bool × (Bool):=
 (true,((a1 !=a1)))
def cmp_isNaN_int_e:Ent:=⟨120,[],[(.pure (.int .i64) (Ty.dflt _))],[],[(.pure .bool (Ty.dflt _))],[]⟩
noncomputable def cmp_isNaN_int:Fun:=⟨cmp_isNaN_int_e,fun x=>let r:=cmp_isNaN_int_r x.1; (r.1,(r.2,()))⟩
theorem cmp_isNaN_int_ev:evFun Try.prog [] [] Try.f120 (codeOf Try.f120) cmp_isNaN_int_e=(cmp_isNaN_int).fn:=by kernel_rfl
theorem cmp_isNaN_int_ok:FunOk Try.prog (cmp_isNaN_int):=fun_ok (opers_ok oks_nil) Try.call120 Try.func120 (by kernel_rfl) fun x _=>(congrFun (cmp_isNaN_int_ev) x).symm
noncomputable def cmp_Compare_int_r (a1:Int) (a2:Int):Bool × (Int):=
 let c1:=(cmp_isNaN_int_r a1)
 let c4:=(cmp_isNaN_int_r a2)
 let c10:=(!c4.2)
 ((c1.1 && c4.1),((cond (!c1.2) (cond c10 (cond (!(decide (a1<a2))) (cond (!(decide (a1>a2))) (0:Int) (1:Int)) (-1:Int)) (1:Int)) (cond c10 (-1:Int) (0:Int)))))
def cmp_Compare_int_e:Ent:=⟨87,[],[(.pure (.int .i64) (Ty.dflt _)),(.pure (.int .i64) (Ty.dflt _))],[],[(.pure (.int .i64) (Ty.dflt _))],[]⟩
noncomputable def cmp_Compare_int:Fun:=⟨cmp_Compare_int_e,fun x=>let r:=cmp_Compare_int_r x.1 x.2.1; (r.1,(r.2,()))⟩
theorem cmp_Compare_int_ev:evFun Try.prog [cmp_isNaN_int] [] Try.f87 (codeOf Try.f87) cmp_Compare_int_e=(cmp_Compare_int).fn:=by kernel_rfl
theorem cmp_Compare_int_ok:FunOk Try.prog (cmp_Compare_int):=fun_ok (opers_ok (oks_cons cmp_isNaN_int_ok oks_nil)) Try.call87 Try.func87 (by kernel_rfl) fun x _=>(congrFun (cmp_Compare_int_ev) x).symm
noncomputable def cmp_Or_int_l0 (a1:(List Int)) (s0:HL [.int .i64]):Bool × Bool × HL [.int .i64] × HL [.bool,.int .i64,.bool]:=
 let c4:=(decide (s0.1<(a1.length:Int)))
 let c6:=(Int.toNat s0.1)
 let c7:=(decide (c6<a1.length))
 let c12:=((a1[c6]?).getD (0:Int))
 let c14:=(c12 !=(0:Int))
 ((cond c4 (((decide ((0:Int)≤s0.1)) && c7) && c7) true),(c4 && (!c14)),((IntKind.i64.wrap (s0.1+(1:Int))),()),((c4 && c14),c12,(!c4),()))
noncomputable def cmp_Or_int_r (a1:(List Int)):Bool × (Int):=
 let c21:=(loopD 0 [.int .i64] [.bool,.int .i64,.bool] (cmp_Or_int_l0 a1) ((0:Int),()))
 (c21.1,((cond c21.2.2.2.1 (0:Int) c21.2.2.1)))
def cmp_Or_int_e:Ent:=⟨86,[],[(.pure (.fl (.int .i64)) (Ty.dflt _))],[],[(.pure (.int .i64) (Ty.dflt _))],[]⟩
noncomputable def cmp_Or_int:Fun:=⟨cmp_Or_int_e,fun x=>let r:=cmp_Or_int_r x.1; (r.1,(r.2,()))⟩
theorem cmp_Or_int_ev:evFun Try.prog [] [⟨[8],[],⟨[],[],0⟩,[],[],[(1,[2]),(2,[])],[]⟩,⟨[],[],⟨[],[],0⟩,[],[],[],[(1000003,([8],[]))]⟩] Try.f86 (codeOf Try.f86) cmp_Or_int_e=(cmp_Or_int).fn:=by kernel_rfl
theorem cmp_Or_int_ok:FunOk Try.prog (cmp_Or_int):=fun_ok (opers_ok oks_nil) Try.call86 Try.func86 (by kernel_rfl) fun x _=>(congrFun (cmp_Or_int_ev) x).symm
noncomputable def edge_Compare_r (a1:(Int × (Int × Int))) (a2:(Int × (Int × Int))):Bool × (Int):=
 let c6:=(cmp_Compare_int_r a1.2.2 a2.2.2)
 let c10:=(cmp_Compare_int_r a1.1 a2.1)
 let c15:=(cmp_Compare_int_r a1.2.1 a2.2.1)
 let c25:=(cmp_Or_int_r (c6.2::(c10.2::(c15.2::([]:List Int)))))
 ((((c6.1 && c10.1) && c15.1) && c25.1),(c25.2))
def edge_Compare_e:Ent:=⟨44,[],[(.pure (.row (.prod (.int .i64) (.prod (.int .i64) (.int .i64)))) (Ty.dflt _)),(.pure (.row (.prod (.int .i64) (.prod (.int .i64) (.int .i64)))) (Ty.dflt _))],[],[(.pure (.int .i64) (Ty.dflt _))],[]⟩
noncomputable def edge_Compare:Fun:=⟨edge_Compare_e,fun x=>let r:=edge_Compare_r x.1 x.2.1; (r.1,(r.2,()))⟩
theorem edge_Compare_ev:evFun Try.prog [cmp_Compare_int,cmp_Or_int] [] Try.f44 (codeOf Try.f44) edge_Compare_e=(edge_Compare).fn:=by kernel_rfl
theorem edge_Compare_ok:FunOk Try.prog (edge_Compare):=fun_ok (opers_ok (oks_cons cmp_Compare_int_ok (oks_cons cmp_Or_int_ok oks_nil))) Try.call44 Try.func44 (by kernel_rfl) fun x _=>(congrFun (edge_Compare_ev) x).symm
noncomputable def slices_insertionSortCmpFunc_api_Edge_l1 (a1:Int) (a2:Int) (a3:Unit) (a4:(List (Int × (Int × Int)))) (s1:HL [.int .i64,(.fl (.row (.prod (.int .i64) (.prod (.int .i64) (.int .i64)))))]):Bool × Bool × HL [.int .i64,(.fl (.row (.prod (.int .i64) (.prod (.int .i64) (.int .i64)))))] × HL [.bool,(.fl (.row (.prod (.int .i64) (.prod (.int .i64) (.int .i64)))))]:=
 let c5:=(decide (s1.1>a1))
 let c7:=(Int.toNat s1.1)
 let c10:=(decide (c7<s1.2.1.length))
 let c11:=((decide ((0:Int)≤s1.1)) && c10)
 let c19:=(cond c5 c5 true)
 let c22:=(IntKind.i64.wrap (s1.1 - (1:Int)))
 let c23:=(decide ((0:Int)≤c22))
 let c24:=(Int.toNat c22)
 let c25:=(decide (c24<s1.2.1.length))
 let c26:=(c23 && c25)
 let c35:=((s1.2.1[c7]?).getD ((0:Int),((0:Int),(0:Int))))
 let c36:=((s1.2.1[c24]?).getD ((0:Int),((0:Int),(0:Int))))
 let c37:=(edge_Compare_r c35 c36)
 let c49:=(cond c5 (decide (c37.2<(0:Int))) false)
 let c55:=(s1.2.1.set c7 c36)
 let c57:=(decide (c24<c55.length))
 ((((((((((cond c5 (c5 && (c5 && c11)) true) && (cond c5 (c5 && c10) true)) && c19) && (cond c5 (c5 && (c5 && c26)) true)) && (cond c5 (c5 && c25) true)) && (cond c5 (c5 && ((c5 && c5) && c37.1)) true)) && c19) && c19) && (cond c49 (((((((c26 && c25) && c11) && c10) && c11) && c10) && (c23 && c57)) && c57) true)),c49,(c22,(c55.set c24 c35),()),((!c49),s1.2.1,()))
noncomputable def slices_insertionSortCmpFunc_api_Edge_l0 (a1:Int) (a2:Int) (a3:Unit) (a4:(List (Int × (Int × Int)))) (s0:HL [.int .i64,(.fl (.row (.prod (.int .i64) (.prod (.int .i64) (.int .i64)))))]):Bool × Bool × HL [.int .i64,(.fl (.row (.prod (.int .i64) (.prod (.int .i64) (.int .i64)))))] × HL [.bool,(.fl (.row (.prod (.int .i64) (.prod (.int .i64) (.int .i64)))))]:=
 let c2:=(decide (s0.1<a2))
 let c66:=(loopD 1 [.int .i64,(.fl (.row (.prod (.int .i64) (.prod (.int .i64) (.int .i64)))))] [.bool,(.fl (.row (.prod (.int .i64) (.prod (.int .i64) (.int .i64)))))] (slices_insertionSortCmpFunc_api_Edge_l1 a1 a2 a3 a4) (s0.1,s0.2.1,()))
 ((cond c2 c66.1 true),c2,((IntKind.i64.wrap (s0.1+(1:Int))),c66.2.2.1,()),((!c2),s0.2.1,()))
noncomputable def slices_insertionSortCmpFunc_api_Edge_r (a1:Int) (a2:Int) (a3:Unit) (a4:(List (Int × (Int × Int)))):Bool × ((List (Int × (Int × Int)))):=
 let c74:=(loopD 0 [.int .i64,(.fl (.row (.prod (.int .i64) (.prod (.int .i64) (.int .i64)))))] [.bool,(.fl (.row (.prod (.int .i64) (.prod (.int .i64) (.int .i64)))))] (slices_insertionSortCmpFunc_api_Edge_l0 a1 a2 a3 a4) ((IntKind.i64.wrap (a1+(1:Int))),a4,()))
 (c74.1,(c74.2.2.1))
def slices_insertionSortCmpFunc_api_Edge_e:Ent:=⟨142,[(0,(.arr (.row (.prod (.int .i64) (.prod (.int .i64) (.int .i64)))) [] false))],[(.own 0 3),(.pure (.int .i64) (Ty.dflt _)),(.pure (.int .i64) (Ty.dflt _)),(.fn 44 (.pure .unit (Ty.dflt _)))],[(0,(.arr (.row (.prod (.int .i64) (.prod (.int .i64) (.int .i64)))) [] false))],[],[]⟩
noncomputable def slices_insertionSortCmpFunc_api_Edge:Fun:=⟨slices_insertionSortCmpFunc_api_Edge_e,fun x=>let r:=slices_insertionSortCmpFunc_api_Edge_r x.1 x.2.1 x.2.2.1 x.2.2.2.1; (r.1,(r.2,()))⟩
theorem slices_insertionSortCmpFunc_api_Edge_ev:evFun Try.prog [edge_Compare] [⟨[8],[0],⟨[],[],0⟩,[],[],[(1,[]),(2,[])],[]⟩,⟨[9],[0],⟨[],[],0⟩,[],[],[(1,[]),(4,[])],[]⟩] Try.f142 (codeOf Try.f142) slices_insertionSortCmpFunc_api_Edge_e=(slices_insertionSortCmpFunc_api_Edge).fn:=by kernel_rfl
theorem slices_insertionSortCmpFunc_api_Edge_ok:FunOk Try.prog (slices_insertionSortCmpFunc_api_Edge):=fun_ok (opers_ok (oks_cons edge_Compare_ok oks_nil)) Try.call142 Try.func142 (by kernel_rfl) fun x _=>(congrFun (slices_insertionSortCmpFunc_api_Edge_ev) x).symm
noncomputable def slices_siftDownCmpFunc_api_Edge_l0 (a1:Int) (a2:Int) (a3:Int) (a4:Unit) (a5:(List (Int × (Int × Int)))) (s0:HL [.int .i64,(.fl (.row (.prod (.int .i64) (.prod (.int .i64) (.int .i64)))))]):Bool × Bool × HL [.int .i64,(.fl (.row (.prod (.int .i64) (.prod (.int .i64) (.int .i64)))))] × HL [.bool,(.fl (.row (.prod (.int .i64) (.prod (.int .i64) (.int .i64))))),.bool,(.fl (.row (.prod (.int .i64) (.prod (.int .i64) (.int .i64)))))]:=
 let c4:=(IntKind.i64.wrap ((IntKind.i64.wrap ((2:Int)*s0.1))+(1:Int)))
 let c6:=(decide (c4≥a2))
 let c7:=(!c6)
 let c8:=(IntKind.i64.wrap (c4+(1:Int)))
 let c9:=(decide (c8<a2))
 let c10:=(c9 && c9)
 let c12:=(cond c9 c10 true)
 let c14:=(IntKind.i64.wrap (a3+c4))
 let c16:=(Int.toNat c14)
 let c19:=(decide (c16<s0.2.1.length))
 let c29:=(cond c9 c9 true)
 let c31:=(IntKind.i64.wrap (c14+(1:Int)))
 let c33:=(Int.toNat c31)
 let c34:=(decide (c33<s0.2.1.length))
 let c45:=(edge_Compare_r ((s0.2.1[c16]?).getD ((0:Int),((0:Int),(0:Int)))) ((s0.2.1[c33]?).getD ((0:Int),((0:Int),(0:Int)))))
 let c53:=(IntKind.i64.wrap (a3+s0.1))
 let c55:=(Int.toNat c53)
 let c56:=(decide (c55<s0.2.1.length))
 let c57:=((decide ((0:Int)≤c53)) && c56)
 let c64:=(cond (cond c9 (decide (c45.2<(0:Int))) false) c8 c4)
 let c65:=(IntKind.i64.wrap (a3+c64))
 let c66:=(decide ((0:Int)≤c65))
 let c67:=(Int.toNat c65)
 let c68:=(decide (c67<s0.2.1.length))
 let c69:=(c66 && c68)
 let c72:=((s0.2.1[c55]?).getD ((0:Int),((0:Int),(0:Int))))
 let c73:=((s0.2.1[c67]?).getD ((0:Int),((0:Int),(0:Int))))
 let c74:=(edge_Compare_r c72 c73)
 let c79:=(!(decide (c74.2<(0:Int))))
 let c80:=(!c79)
 let c86:=(s0.2.1.set c55 c73)
 let c88:=(decide (c67<c86.length))
 ((cond c7 ((((((((((c12 && (cond c9 (c9 && (c9 && ((decide ((0:Int)≤c14)) && c19))) true)) && (cond c9 (c9 && c19) true)) && c12) && c29) && (cond c9 (c9 && (c9 && ((decide ((0:Int)≤c31)) && c34))) true)) && (cond c9 (c9 && c34) true)) && (cond c9 (c9 && (c10 && c45.1)) true)) && c29) && c29) && (((((c57 && c56) && c69) && c68) && c74.1) && (cond c80 (((((((c69 && c68) && c57) && c56) && c57) && c56) && (c66 && c88)) && c88) true))) true),(c7 && c80),(c64,(c86.set c67 c72),()),((c7 && c79),s0.2.1,c6,s0.2.1,()))
noncomputable def slices_siftDownCmpFunc_api_Edge_r (a1:Int) (a2:Int) (a3:Int) (a4:Unit) (a5:(List (Int × (Int × Int)))):Bool × ((List (Int × (Int × Int)))):=
 let c101:=(loopD 0 [.int .i64,(.fl (.row (.prod (.int .i64) (.prod (.int .i64) (.int .i64)))))] [.bool,(.fl (.row (.prod (.int .i64) (.prod (.int .i64) (.int .i64))))),.bool,(.fl (.row (.prod (.int .i64) (.prod (.int .i64) (.int .i64)))))] (slices_siftDownCmpFunc_api_Edge_l0 a1 a2 a3 a4 a5) (a1,a5,()))
 (c101.1,((cond c101.2.2.2.1 c101.2.2.2.2.1 c101.2.2.1)))
def slices_siftDownCmpFunc_api_Edge_e:Ent:=⟨176,[(0,(.arr (.row (.prod (.int .i64) (.prod (.int .i64) (.int .i64)))) [] false))],[(.own 0 3),(.pure (.int .i64) (Ty.dflt _)),(.pure (.int .i64) (Ty.dflt _)),(.pure (.int .i64) (Ty.dflt _)),(.fn 44 (.pure .unit (Ty.dflt _)))],[(0,(.arr (.row (.prod (.int .i64) (.prod (.int .i64) (.int .i64)))) [] false))],[],[]⟩
noncomputable def slices_siftDownCmpFunc_api_Edge:Fun:=⟨slices_siftDownCmpFunc_api_Edge_e,fun x=>let r:=slices_siftDownCmpFunc_api_Edge_r x.1 x.2.1 x.2.2.1 x.2.2.2.1 x.2.2.2.2.1; (r.1,(r.2,()))⟩
theorem slices_siftDownCmpFunc_api_Edge_ev:evFun Try.prog [edge_Compare] [⟨[10],[0],⟨[],[],0⟩,[],[],[(1,[]),(2,[])],[]⟩] Try.f176 (codeOf Try.f176) slices_siftDownCmpFunc_api_Edge_e=(slices_siftDownCmpFunc_api_Edge).fn:=by kernel_rfl
theorem slices_siftDownCmpFunc_api_Edge_ok:FunOk Try.prog (slices_siftDownCmpFunc_api_Edge):=fun_ok (opers_ok (oks_cons edge_Compare_ok oks_nil)) Try.call176 Try.func176 (by kernel_rfl) fun x _=>(congrFun (slices_siftDownCmpFunc_api_Edge_ev) x).symm
noncomputable def slices_heapSortCmpFunc_api_Edge_l0 (a1:Int) (a2:Int) (a3:Unit) (a4:(List (Int × (Int × Int)))) (s0:HL [.int .i64,(.fl (.row (.prod (.int .i64) (.prod (.int .i64) (.int .i64)))))]):Bool × Bool × HL [.int .i64,(.fl (.row (.prod (.int .i64) (.prod (.int .i64) (.int .i64)))))] × HL [.bool,(.fl (.row (.prod (.int .i64) (.prod (.int .i64) (.int .i64)))))]:=
 let c4:=(decide (s0.1≥(0:Int)))
 let c7:=(IntKind.i64.wrap (a2 - a1))
 let c10:=(slices_siftDownCmpFunc_api_Edge_r s0.1 c7 a1 a3 s0.2.1)
 ((cond c4 c10.1 true),c4,((IntKind.i64.wrap (s0.1 - (1:Int))),c10.2,()),((!c4),s0.2.1,()))
noncomputable def slices_heapSortCmpFunc_api_Edge_l1 (a1:Int) (a2:Int) (a3:Unit) (a4:(List (Int × (Int × Int)))) (s1:HL [.int .i64,(.fl (.row (.prod (.int .i64) (.prod (.int .i64) (.int .i64)))))]):Bool × Bool × HL [.int .i64,(.fl (.row (.prod (.int .i64) (.prod (.int .i64) (.int .i64)))))] × HL [.bool,(.fl (.row (.prod (.int .i64) (.prod (.int .i64) (.int .i64)))))]:=
 let c25:=(decide (s1.1≥(0:Int)))
 let c26:=(IntKind.i64.wrap (a1+s1.1))
 let c27:=(decide ((0:Int)≤c26))
 let c28:=(Int.toNat c26)
 let c31:=(decide (c28<s1.2.1.length))
 let c35:=(Int.toNat a1)
 let c36:=(decide (c35<s1.2.1.length))
 let c37:=((decide ((0:Int)≤a1)) && c36)
 let c43:=(s1.2.1.set c35 ((s1.2.1[c28]?).getD ((0:Int),((0:Int),(0:Int)))))
 let c45:=(decide (c28<c43.length))
 let c51:=(slices_siftDownCmpFunc_api_Edge_r (0:Int) s1.1 a1 a3 (c43.set c28 ((s1.2.1[c35]?).getD ((0:Int),((0:Int),(0:Int))))))
 ((cond c25 (((((((((c27 && c31) && c31) && c37) && c36) && c37) && c36) && (c27 && c45)) && c45) && c51.1) true),c25,((IntKind.i64.wrap (s1.1 - (1:Int))),c51.2,()),((!c25),s1.2.1,()))
noncomputable def slices_heapSortCmpFunc_api_Edge_r (a1:Int) (a2:Int) (a3:Unit) (a4:(List (Int × (Int × Int)))):Bool × ((List (Int × (Int × Int)))):=
 let c7:=(IntKind.i64.wrap (a2 - a1))
 let c18:=(IntKind.i64.wrap (c7 - (1:Int)))
 let c21:=(loopD 0 [.int .i64,(.fl (.row (.prod (.int .i64) (.prod (.int .i64) (.int .i64)))))] [.bool,(.fl (.row (.prod (.int .i64) (.prod (.int .i64) (.int .i64)))))] (slices_heapSortCmpFunc_api_Edge_l0 a1 a2 a3 a4) ((IntKind.i64.wrap (Int.tdiv c18 (2:Int))),a4,()))
 let c59:=(loopD 1 [.int .i64,(.fl (.row (.prod (.int .i64) (.prod (.int .i64) (.int .i64)))))] [.bool,(.fl (.row (.prod (.int .i64) (.prod (.int .i64) (.int .i64)))))] (slices_heapSortCmpFunc_api_Edge_l1 a1 a2 a3 a4) (c18,c21.2.2.1,()))
 (((((2:Int) !=(0:Int)) && c21.1) && c59.1),(c59.2.2.1))
def slices_heapSortCmpFunc_api_Edge_e:Ent:=⟨143,[(0,(.arr (.row (.prod (.int .i64) (.prod (.int .i64) (.int .i64)))) [] false))],[(.own 0 3),(.pure (.int .i64) (Ty.dflt _)),(.pure (.int .i64) (Ty.dflt _)),(.fn 44 (.pure .unit (Ty.dflt _)))],[(0,(.arr (.row (.prod (.int .i64) (.prod (.int .i64) (.int .i64)))) [] false))],[],[]⟩
noncomputable def slices_heapSortCmpFunc_api_Edge:Fun:=⟨slices_heapSortCmpFunc_api_Edge_e,fun x=>let r:=slices_heapSortCmpFunc_api_Edge_r x.1 x.2.1 x.2.2.1 x.2.2.2.1; (r.1,(r.2,()))⟩
theorem slices_heapSortCmpFunc_api_Edge_ev:evFun Try.prog [slices_siftDownCmpFunc_api_Edge] [⟨[11],[0],⟨[],[],0⟩,[],[],[(1,[]),(2,[])],[]⟩,⟨[12],[0],⟨[],[],0⟩,[],[],[(1,[]),(4,[])],[]⟩] Try.f143 (codeOf Try.f143) slices_heapSortCmpFunc_api_Edge_e=(slices_heapSortCmpFunc_api_Edge).fn:=by kernel_rfl
theorem slices_heapSortCmpFunc_api_Edge_ok:FunOk Try.prog (slices_heapSortCmpFunc_api_Edge):=fun_ok (opers_ok (oks_cons slices_siftDownCmpFunc_api_Edge_ok oks_nil)) Try.call143 Try.func143 (by kernel_rfl) fun x _=>(congrFun (slices_heapSortCmpFunc_api_Edge_ev) x).symm
noncomputable def slices_nextPowerOfTwo_r (a1:Int):Bool × (Int):=
 let c2:=(bits_Len_r (IntKind.u64.wrap (a1)))
 let c4:=c2.2
 ((c2.1 && (decide ((0:Int)≤c4))),((iShl .u64 .i64 (1:Int) c4)))
def slices_nextPowerOfTwo_e:Ent:=⟨177,[],[(.pure (.int .i64) (Ty.dflt _))],[],[(.pure (.int .u64) (Ty.dflt _))],[]⟩
noncomputable def slices_nextPowerOfTwo:Fun:=⟨slices_nextPowerOfTwo_e,fun x=>let r:=slices_nextPowerOfTwo_r x.1; (r.1,(r.2,()))⟩
theorem slices_nextPowerOfTwo_ev:evFun Try.prog [bits_Len] [] Try.f177 (codeOf Try.f177) slices_nextPowerOfTwo_e=(slices_nextPowerOfTwo).fn:=by kernel_rfl
theorem slices_nextPowerOfTwo_ok:FunOk Try.prog (slices_nextPowerOfTwo):=fun_ok (opers_ok (oks_cons bits_Len_ok oks_nil)) Try.call177 Try.func177 (by kernel_rfl) fun x _=>(congrFun (slices_nextPowerOfTwo_ev) x).symm
noncomputable def __slices_xorshift__Next_r (a1:Int):Bool × (Int × Int):=
 let c10:=(iBxor .u64 a1 (iShl .u64 .u64 a1 (13:Int)))
 let c12:=(iBxor .u64 c10 (iShr .u64 .u64 c10 (7:Int)))
 let c14:=(iBxor .u64 c12 (iShl .u64 .u64 c12 (17:Int)))
 (((decide ((0:Int)≤(13:Int))) && ((decide ((0:Int)≤(7:Int))) && (decide ((0:Int)≤(17:Int))))),(c14,c14))
def __slices_xorshift__Next_e:Ent:=⟨178,[(0,(.var 214 (.pure (.int .u64) (Ty.dflt _))))],[(.ptr 0 [])],[(0,(.var 214 (.pure (.int .u64) (Ty.dflt _))))],[(.pure (.int .u64) (Ty.dflt _))],[]⟩
noncomputable def __slices_xorshift__Next:Fun:=⟨__slices_xorshift__Next_e,fun x=>let r:=__slices_xorshift__Next_r x.1; (r.1,(r.2.1,r.2.2,()))⟩
theorem __slices_xorshift__Next_ev:evFun Try.prog [] [] Try.f178 (codeOf Try.f178) __slices_xorshift__Next_e=(__slices_xorshift__Next).fn:=by kernel_rfl
theorem __slices_xorshift__Next_ok:FunOk Try.prog (__slices_xorshift__Next):=fun_ok (opers_ok oks_nil) Try.call178 Try.func178 (by kernel_rfl) fun x _=>(congrFun (__slices_xorshift__Next_ev) x).symm
noncomputable def slices_breakPatternsCmpFunc_api_Edge_l0 (a1:Int) (a2:Int) (a3:Unit) (a4:(List (Int × (Int × Int)))) (s0:HL [.int .i64,(.fl (.row (.prod (.int .i64) (.prod (.int .i64) (.int .i64))))),.int .u64]):Bool × Bool × HL [.int .i64,(.fl (.row (.prod (.int .i64) (.prod (.int .i64) (.int .i64))))),.int .u64] × HL [.bool,(.fl (.row (.prod (.int .i64) (.prod (.int .i64) (.int .i64))))),.int .u64]:=
 let c2:=(IntKind.i64.wrap (a2 - a1))
 let c5:=(slices_nextPowerOfTwo_r c2)
 let c8:=((4:Int) !=(0:Int))
 let c13:=(IntKind.i64.wrap (a1+(IntKind.i64.wrap ((IntKind.i64.wrap (Int.tdiv c2 (4:Int)))*(2:Int)))))
 let c16:=(decide (s0.1≤(IntKind.i64.wrap (c13+(1:Int)))))
 let c18:=(__slices_xorshift__Next_r s0.2.2.1)
 let c24:=(IntKind.i64.wrap ((iBand .u64 c18.2.1 (IntKind.u64.wrap (c5.2 - (1:Int))))))
 let c28:=(IntKind.i64.wrap (a1+(cond (decide (c24≥c2)) (IntKind.i64.wrap (c24 - c2)) c24)))
 let c29:=(decide ((0:Int)≤c28))
 let c30:=(Int.toNat c28)
 let c33:=(decide (c30<s0.2.1.length))
 let c37:=(Int.toNat s0.1)
 let c38:=(decide (c37<s0.2.1.length))
 let c39:=((decide ((0:Int)≤s0.1)) && c38)
 let c45:=(s0.2.1.set c37 ((s0.2.1[c30]?).getD ((0:Int),((0:Int),(0:Int)))))
 let c47:=(decide (c30<c45.length))
 ((c8 && (cond c16 (c18.1 && ((((((((c29 && c33) && c33) && c39) && c38) && c39) && c38) && (c29 && c47)) && c47)) true)),c16,((IntKind.i64.wrap (s0.1+(1:Int))),(c45.set c30 ((s0.2.1[c37]?).getD ((0:Int),((0:Int),(0:Int))))),c18.2.2,()),((!c16),s0.2.1,s0.2.2.1,()))
noncomputable def slices_breakPatternsCmpFunc_api_Edge_r (a1:Int) (a2:Int) (a3:Unit) (a4:(List (Int × (Int × Int)))):Bool × ((List (Int × (Int × Int)))):=
 let c2:=(IntKind.i64.wrap (a2 - a1))
 let c4:=(decide (c2≥(8:Int)))
 let c5:=(slices_nextPowerOfTwo_r c2)
 let c8:=((4:Int) !=(0:Int))
 let c13:=(IntKind.i64.wrap (a1+(IntKind.i64.wrap ((IntKind.i64.wrap (Int.tdiv c2 (4:Int)))*(2:Int)))))
 let c63:=(loopD 0 [.int .i64,(.fl (.row (.prod (.int .i64) (.prod (.int .i64) (.int .i64))))),.int .u64] [.bool,(.fl (.row (.prod (.int .i64) (.prod (.int .i64) (.int .i64))))),.int .u64] (slices_breakPatternsCmpFunc_api_Edge_l0 a1 a2 a3 a4) ((IntKind.i64.wrap (c13 - (1:Int))),a4,(IntKind.u64.wrap (c2)),()))
 ((cond c4 (c5.1 && (c8 && c63.1)) true),((cond c4 c63.2.2.1 a4)))
def slices_breakPatternsCmpFunc_api_Edge_e:Ent:=⟨144,[(0,(.arr (.row (.prod (.int .i64) (.prod (.int .i64) (.int .i64)))) [] false))],[(.own 0 3),(.pure (.int .i64) (Ty.dflt _)),(.pure (.int .i64) (Ty.dflt _)),(.fn 44 (.pure .unit (Ty.dflt _)))],[(0,(.arr (.row (.prod (.int .i64) (.prod (.int .i64) (.int .i64)))) [] false))],[],[]⟩
noncomputable def slices_breakPatternsCmpFunc_api_Edge:Fun:=⟨slices_breakPatternsCmpFunc_api_Edge_e,fun x=>let r:=slices_breakPatternsCmpFunc_api_Edge_r x.1 x.2.1 x.2.2.1 x.2.2.2.1; (r.1,(r.2,()))⟩
theorem slices_breakPatternsCmpFunc_api_Edge_ev:evFun Try.prog [slices_nextPowerOfTwo,__slices_xorshift__Next] [⟨[11],[0,513],⟨[],[],0⟩,[],[],[(1,[]),(2,[])],[]⟩] Try.f144 (codeOf Try.f144) slices_breakPatternsCmpFunc_api_Edge_e=(slices_breakPatternsCmpFunc_api_Edge).fn:=by kernel_rfl
theorem slices_breakPatternsCmpFunc_api_Edge_ok:FunOk Try.prog (slices_breakPatternsCmpFunc_api_Edge):=fun_ok (opers_ok (oks_cons slices_nextPowerOfTwo_ok (oks_cons __slices_xorshift__Next_ok oks_nil))) Try.call144 Try.func144 (by kernel_rfl) fun x _=>(congrFun (slices_breakPatternsCmpFunc_api_Edge_ev) x).symm
noncomputable def slices_order2CmpFunc_api_Edge_r (a1:Int) (a2:Int) (a3:Unit) (a4:(List (Int × (Int × Int)))) (a5:Int):Bool × (Int × Int × Int):=
 let c2:=(Int.toNat a2)
 let c5:=(decide (c2<a4.length))
 let c10:=(Int.toNat a1)
 let c11:=(decide (c10<a4.length))
 let c17:=(edge_Compare_r ((a4[c2]?).getD ((0:Int),((0:Int),(0:Int)))) ((a4[c10]?).getD ((0:Int),((0:Int),(0:Int)))))
 let c23:=(!(decide (c17.2<(0:Int))))
 (((((((decide ((0:Int)≤a2)) && c5) && c5) && ((decide ((0:Int)≤a1)) && c11)) && c11) && c17.1),((cond c23 a1 a2),(cond c23 a2 a1),(cond c23 a5 (IntKind.i64.wrap (a5+(1:Int))))))
def slices_order2CmpFunc_api_Edge_e:Ent:=⟨192,[(0,(.arr (.row (.prod (.int .i64) (.prod (.int .i64) (.int .i64)))) [] false)),(1,(.var 3 (.pure (.int .i64) (Ty.dflt _))))],[(.own 0 3),(.pure (.int .i64) (Ty.dflt _)),(.pure (.int .i64) (Ty.dflt _)),(.ptr 1 []),(.fn 44 (.pure .unit (Ty.dflt _)))],[(1,(.var 3 (.pure (.int .i64) (Ty.dflt _))))],[(.pure (.int .i64) (Ty.dflt _)),(.pure (.int .i64) (Ty.dflt _))],[0]⟩
noncomputable def slices_order2CmpFunc_api_Edge:Fun:=⟨slices_order2CmpFunc_api_Edge_e,fun x=>let r:=slices_order2CmpFunc_api_Edge_r x.1 x.2.1 x.2.2.1 x.2.2.2.1 x.2.2.2.2.1; (r.1,(r.2.1,r.2.2.1,r.2.2.2,()))⟩
theorem slices_order2CmpFunc_api_Edge_ev:evFun Try.prog [edge_Compare] [] Try.f192 (codeOf Try.f192) slices_order2CmpFunc_api_Edge_e=(slices_order2CmpFunc_api_Edge).fn:=by kernel_rfl
theorem slices_order2CmpFunc_api_Edge_ok:FunOk Try.prog (slices_order2CmpFunc_api_Edge):=fun_ok (opers_ok (oks_cons edge_Compare_ok oks_nil)) Try.call192 Try.func192 (by kernel_rfl) fun x _=>(congrFun (slices_order2CmpFunc_api_Edge_ev) x).symm
noncomputable def slices_medianCmpFunc_api_Edge_r (a1:Int) (a2:Int) (a3:Int) (a4:Unit) (a5:(List (Int × (Int × Int)))) (a6:Int):Bool × (Int × Int):=
 let c5:=(slices_order2CmpFunc_api_Edge_r a1 a2 a4 a5 a6)
 let c10:=(slices_order2CmpFunc_api_Edge_r c5.2.2.1 a3 a4 a5 c5.2.2.2)
 let c15:=(slices_order2CmpFunc_api_Edge_r c5.2.1 c10.2.1 a4 a5 c10.2.2.2)
 ((c5.1 && (c10.1 && c15.1)),(c15.2.2.1,c15.2.2.2))
def slices_medianCmpFunc_api_Edge_e:Ent:=⟨180,[(0,(.arr (.row (.prod (.int .i64) (.prod (.int .i64) (.int .i64)))) [] false)),(1,(.var 3 (.pure (.int .i64) (Ty.dflt _))))],[(.own 0 3),(.pure (.int .i64) (Ty.dflt _)),(.pure (.int .i64) (Ty.dflt _)),(.pure (.int .i64) (Ty.dflt _)),(.ptr 1 []),(.fn 44 (.pure .unit (Ty.dflt _)))],[(1,(.var 3 (.pure (.int .i64) (Ty.dflt _))))],[(.pure (.int .i64) (Ty.dflt _))],[0]⟩
noncomputable def slices_medianCmpFunc_api_Edge:Fun:=⟨slices_medianCmpFunc_api_Edge_e,fun x=>let r:=slices_medianCmpFunc_api_Edge_r x.1 x.2.1 x.2.2.1 x.2.2.2.1 x.2.2.2.2.1 x.2.2.2.2.2.1; (r.1,(r.2.1,r.2.2,()))⟩
theorem slices_medianCmpFunc_api_Edge_ev:evFun Try.prog [slices_order2CmpFunc_api_Edge] [] Try.f180 (codeOf Try.f180) slices_medianCmpFunc_api_Edge_e=(slices_medianCmpFunc_api_Edge).fn:=by kernel_rfl
theorem slices_medianCmpFunc_api_Edge_ok:FunOk Try.prog (slices_medianCmpFunc_api_Edge):=fun_ok (opers_ok (oks_cons slices_order2CmpFunc_api_Edge_ok oks_nil)) Try.call180 Try.func180 (by kernel_rfl) fun x _=>(congrFun (slices_medianCmpFunc_api_Edge_ev) x).symm
noncomputable def slices_medianAdjacentCmpFunc_api_Edge_r (a1:Int) (a2:Unit) (a3:(List (Int × (Int × Int)))) (a4:Int):Bool × (Int × Int):=
 let c7:=(slices_medianCmpFunc_api_Edge_r (IntKind.i64.wrap (a1 - (1:Int))) a1 (IntKind.i64.wrap (a1+(1:Int))) a2 a3 a4)
 (c7.1,(c7.2.1,c7.2.2))
def slices_medianAdjacentCmpFunc_api_Edge_e:Ent:=⟨179,[(0,(.arr (.row (.prod (.int .i64) (.prod (.int .i64) (.int .i64)))) [] false)),(1,(.var 3 (.pure (.int .i64) (Ty.dflt _))))],[(.own 0 3),(.pure (.int .i64) (Ty.dflt _)),(.ptr 1 []),(.fn 44 (.pure .unit (Ty.dflt _)))],[(1,(.var 3 (.pure (.int .i64) (Ty.dflt _))))],[(.pure (.int .i64) (Ty.dflt _))],[0]⟩
noncomputable def slices_medianAdjacentCmpFunc_api_Edge:Fun:=⟨slices_medianAdjacentCmpFunc_api_Edge_e,fun x=>let r:=slices_medianAdjacentCmpFunc_api_Edge_r x.1 x.2.1 x.2.2.1 x.2.2.2.1; (r.1,(r.2.1,r.2.2,()))⟩
theorem slices_medianAdjacentCmpFunc_api_Edge_ev:evFun Try.prog [slices_medianCmpFunc_api_Edge] [] Try.f179 (codeOf Try.f179) slices_medianAdjacentCmpFunc_api_Edge_e=(slices_medianAdjacentCmpFunc_api_Edge).fn:=by kernel_rfl
theorem slices_medianAdjacentCmpFunc_api_Edge_ok:FunOk Try.prog (slices_medianAdjacentCmpFunc_api_Edge):=fun_ok (opers_ok (oks_cons slices_medianCmpFunc_api_Edge_ok oks_nil)) Try.call179 Try.func179 (by kernel_rfl) fun x _=>(congrFun (slices_medianAdjacentCmpFunc_api_Edge_ev) x).symm
noncomputable def slices_choosePivotCmpFunc_api_Edge_r (a1:Int) (a2:Int) (a3:Unit) (a4:(List (Int × (Int × Int)))):Bool × (Int × Int):=
 let c1:=((4:Int) !=(0:Int))
 let c4:=(IntKind.i64.wrap (a2 - a1))
 let c6:=(decide (c4≥(8:Int)))
 let c8:=(decide (c4≥(50:Int)))
 let c9:=(IntKind.i64.wrap (Int.tdiv c4 (4:Int)))
 let c12:=(IntKind.i64.wrap (a1+(IntKind.i64.wrap (c9*(1:Int)))))
 let c16:=(slices_medianAdjacentCmpFunc_api_Edge_r c12 a3 a4 (0:Int))
 let c20:=(IntKind.i64.wrap (a1+(IntKind.i64.wrap (c9*(2:Int)))))
 let c22:=(slices_medianAdjacentCmpFunc_api_Edge_r c20 a3 a4 c16.2.2)
 let c26:=(IntKind.i64.wrap (a1+(IntKind.i64.wrap (c9*(3:Int)))))
 let c28:=(slices_medianAdjacentCmpFunc_api_Edge_r c26 a3 a4 c22.2.2)
 let c42:=(slices_medianCmpFunc_api_Edge_r (cond c8 c16.2.1 c12) (cond c8 c22.2.1 c20) (cond c8 c28.2.1 c26) a3 a4 (cond c8 c28.2.2 (0:Int)))
 let c50:=(cond c6 c42.2.2 (0:Int))
 let c51:=(c50==(0:Int))
 let c53:=(cond c6 c42.2.1 c20)
 let c55:=(c50==(12:Int))
 ((c1 && (c1 && (c1 && (cond c6 ((cond c8 (c16.1 && (c22.1 && c28.1)) true) && c42.1) true)))),((cond c51 c53 (cond c55 c53 c53)),(cond c51 (1:Int) (cond c55 (2:Int) (0:Int)))))
def slices_choosePivotCmpFunc_api_Edge_e:Ent:=⟨145,[(0,(.arr (.row (.prod (.int .i64) (.prod (.int .i64) (.int .i64)))) [] false))],[(.own 0 3),(.pure (.int .i64) (Ty.dflt _)),(.pure (.int .i64) (Ty.dflt _)),(.fn 44 (.pure .unit (Ty.dflt _)))],[],[(.pure (.int .i64) (Ty.dflt _)),(.pure (.int .i64) (Ty.dflt _))],[0]⟩
noncomputable def slices_choosePivotCmpFunc_api_Edge:Fun:=⟨slices_choosePivotCmpFunc_api_Edge_e,fun x=>let r:=slices_choosePivotCmpFunc_api_Edge_r x.1 x.2.1 x.2.2.1 x.2.2.2.1; (r.1,(r.2.1,r.2.2,()))⟩
theorem slices_choosePivotCmpFunc_api_Edge_ev:evFun Try.prog [slices_medianAdjacentCmpFunc_api_Edge,slices_medianCmpFunc_api_Edge] [⟨[],[],⟨[],[],0⟩,[],[],[],[(1000003,([12,13,14],[]))]⟩] Try.f145 (codeOf Try.f145) slices_choosePivotCmpFunc_api_Edge_e=(slices_choosePivotCmpFunc_api_Edge).fn:=by kernel_rfl
theorem slices_choosePivotCmpFunc_api_Edge_ok:FunOk Try.prog (slices_choosePivotCmpFunc_api_Edge):=fun_ok (opers_ok (oks_cons slices_medianAdjacentCmpFunc_api_Edge_ok (oks_cons slices_medianCmpFunc_api_Edge_ok oks_nil))) Try.call145 Try.func145 (by kernel_rfl) fun x _=>(congrFun (slices_choosePivotCmpFunc_api_Edge_ev) x).symm
noncomputable def slices_reverseRangeCmpFunc_api_Edge_l0 (a1:Int) (a2:Int) (a3:Unit) (a4:(List (Int × (Int × Int)))) (s0:HL [.int .i64,.int .i64,(.fl (.row (.prod (.int .i64) (.prod (.int .i64) (.int .i64)))))]):Bool × Bool × HL [.int .i64,.int .i64,(.fl (.row (.prod (.int .i64) (.prod (.int .i64) (.int .i64)))))] × HL [.bool,(.fl (.row (.prod (.int .i64) (.prod (.int .i64) (.int .i64)))))]:=
 let c2:=(decide (s0.2.1<s0.1))
 let c3:=(decide ((0:Int)≤s0.1))
 let c4:=(Int.toNat s0.1)
 let c7:=(decide (c4<s0.2.2.1.length))
 let c11:=(Int.toNat s0.2.1)
 let c12:=(decide (c11<s0.2.2.1.length))
 let c13:=((decide ((0:Int)≤s0.2.1)) && c12)
 let c19:=(s0.2.2.1.set c11 ((s0.2.2.1[c4]?).getD ((0:Int),((0:Int),(0:Int)))))
 let c21:=(decide (c4<c19.length))
 ((cond c2 ((((((((c3 && c7) && c7) && c13) && c12) && c13) && c12) && (c3 && c21)) && c21) true),c2,((IntKind.i64.wrap (s0.1 - (1:Int))),(IntKind.i64.wrap (s0.2.1+(1:Int))),(c19.set c4 ((s0.2.2.1[c11]?).getD ((0:Int),((0:Int),(0:Int))))),()),((!c2),s0.2.2.1,()))
noncomputable def slices_reverseRangeCmpFunc_api_Edge_r (a1:Int) (a2:Int) (a3:Unit) (a4:(List (Int × (Int × Int)))):Bool × ((List (Int × (Int × Int)))):=
 let c37:=(loopD 0 [.int .i64,.int .i64,(.fl (.row (.prod (.int .i64) (.prod (.int .i64) (.int .i64)))))] [.bool,(.fl (.row (.prod (.int .i64) (.prod (.int .i64) (.int .i64)))))] (slices_reverseRangeCmpFunc_api_Edge_l0 a1 a2 a3 a4) ((IntKind.i64.wrap (a2 - (1:Int))),a1,a4,()))
 (c37.1,(c37.2.2.1))
def slices_reverseRangeCmpFunc_api_Edge_e:Ent:=⟨146,[(0,(.arr (.row (.prod (.int .i64) (.prod (.int .i64) (.int .i64)))) [] false))],[(.own 0 3),(.pure (.int .i64) (Ty.dflt _)),(.pure (.int .i64) (Ty.dflt _)),(.fn 44 (.pure .unit (Ty.dflt _)))],[(0,(.arr (.row (.prod (.int .i64) (.prod (.int .i64) (.int .i64)))) [] false))],[],[]⟩
noncomputable def slices_reverseRangeCmpFunc_api_Edge:Fun:=⟨slices_reverseRangeCmpFunc_api_Edge_e,fun x=>let r:=slices_reverseRangeCmpFunc_api_Edge_r x.1 x.2.1 x.2.2.1 x.2.2.2.1; (r.1,(r.2,()))⟩
theorem slices_reverseRangeCmpFunc_api_Edge_ev:evFun Try.prog [] [⟨[9,8],[0],⟨[],[],0⟩,[],[],[(1,[]),(2,[])],[]⟩] Try.f146 (codeOf Try.f146) slices_reverseRangeCmpFunc_api_Edge_e=(slices_reverseRangeCmpFunc_api_Edge).fn:=by kernel_rfl
theorem slices_reverseRangeCmpFunc_api_Edge_ok:FunOk Try.prog (slices_reverseRangeCmpFunc_api_Edge):=fun_ok (opers_ok oks_nil) Try.call146 Try.func146 (by kernel_rfl) fun x _=>(congrFun (slices_reverseRangeCmpFunc_api_Edge_ev) x).symm
noncomputable def slices_partialInsertionSortCmpFunc_api_Edge_l1 (a1:Int) (a2:Int) (a3:Unit) (a4:(List (Int × (Int × Int)))) (s0:HL [.int .i64,.int .i64,(.fl (.row (.prod (.int .i64) (.prod (.int .i64) (.int .i64)))))]) (s1:HL [.int .i64]):Bool × Bool × HL [.int .i64] × HL [.bool,.int .i64]:=
 let c5:=(decide (s1.1<a2))
 let c7:=(Int.toNat s1.1)
 let c10:=(decide (c7<s0.2.2.1.length))
 let c19:=(cond c5 c5 true)
 let c22:=(IntKind.i64.wrap (s1.1 - (1:Int)))
 let c24:=(Int.toNat c22)
 let c25:=(decide (c24<s0.2.2.1.length))
 let c37:=(edge_Compare_r ((s0.2.2.1[c7]?).getD ((0:Int),((0:Int),(0:Int)))) ((s0.2.2.1[c24]?).getD ((0:Int),((0:Int),(0:Int)))))
 let c51:=(cond c5 (!(decide (c37.2<(0:Int)))) false)
 ((((((((((cond c5 (c5 && (c5 && ((decide ((0:Int)≤s1.1)) && c10))) true) && (cond c5 (c5 && c10) true)) && c19) && (cond c5 (c5 && (c5 && ((decide ((0:Int)≤c22)) && c25))) true)) && (cond c5 (c5 && c25) true)) && (cond c5 (c5 && ((c5 && c5) && c37.1)) true)) && c19) && c19) && c19),c51,((IntKind.i64.wrap (s1.1+(1:Int))),()),((!c51),s1.1,()))
noncomputable def slices_partialInsertionSortCmpFunc_api_Edge_l2 (a1:Int) (a2:Int) (a3:Unit) (a4:(List (Int × (Int × Int)))) (s2:HL [.int .i64,(.fl (.row (.prod (.int .i64) (.prod (.int .i64) (.int .i64)))))]):Bool × Bool × HL [.int .i64,(.fl (.row (.prod (.int .i64) (.prod (.int .i64) (.int .i64)))))] × HL [.bool,(.fl (.row (.prod (.int .i64) (.prod (.int .i64) (.int .i64)))))]:=
 let c90:=(decide (s2.1≥(1:Int)))
 let c92:=(Int.toNat s2.1)
 let c95:=(decide (c92<s2.2.1.length))
 let c96:=((decide ((0:Int)≤s2.1)) && c95)
 let c98:=(IntKind.i64.wrap (s2.1 - (1:Int)))
 let c99:=(decide ((0:Int)≤c98))
 let c100:=(Int.toNat c98)
 let c101:=(decide (c100<s2.2.1.length))
 let c102:=(c99 && c101)
 let c105:=((s2.2.1[c92]?).getD ((0:Int),((0:Int),(0:Int))))
 let c106:=((s2.2.1[c100]?).getD ((0:Int),((0:Int),(0:Int))))
 let c107:=(edge_Compare_r c105 c106)
 let c112:=(!(decide (c107.2<(0:Int))))
 let c113:=(!c112)
 let c119:=(s2.2.1.set c92 c106)
 let c121:=(decide (c100<c119.length))
 ((cond c90 (((((c96 && c95) && c102) && c101) && c107.1) && (cond c113 (((((((c102 && c101) && c96) && c95) && c96) && c95) && (c99 && c121)) && c121) true)) true),(c90 && c113),(c98,(c119.set c100 c105),()),((cond c90 c112 (!c90)),s2.2.1,()))
noncomputable def slices_partialInsertionSortCmpFunc_api_Edge_l3 (a1:Int) (a2:Int) (a3:Unit) (a4:(List (Int × (Int × Int)))) (s3:HL [.int .i64,(.fl (.row (.prod (.int .i64) (.prod (.int .i64) (.int .i64)))))]):Bool × Bool × HL [.int .i64,(.fl (.row (.prod (.int .i64) (.prod (.int .i64) (.int .i64)))))] × HL [.bool,(.fl (.row (.prod (.int .i64) (.prod (.int .i64) (.int .i64)))))]:=
 let c140:=(decide (s3.1<a2))
 let c142:=(Int.toNat s3.1)
 let c145:=(decide (c142<s3.2.1.length))
 let c146:=((decide ((0:Int)≤s3.1)) && c145)
 let c148:=(IntKind.i64.wrap (s3.1 - (1:Int)))
 let c149:=(decide ((0:Int)≤c148))
 let c150:=(Int.toNat c148)
 let c151:=(decide (c150<s3.2.1.length))
 let c152:=(c149 && c151)
 let c155:=((s3.2.1[c142]?).getD ((0:Int),((0:Int),(0:Int))))
 let c156:=((s3.2.1[c150]?).getD ((0:Int),((0:Int),(0:Int))))
 let c157:=(edge_Compare_r c155 c156)
 let c162:=(!(decide (c157.2<(0:Int))))
 let c163:=(!c162)
 let c169:=(s3.2.1.set c142 c156)
 let c171:=(decide (c150<c169.length))
 ((cond c140 (((((c146 && c145) && c152) && c151) && c157.1) && (cond c163 (((((((c152 && c151) && c146) && c145) && c146) && c145) && (c149 && c171)) && c171) true)) true),(c140 && c163),((IntKind.i64.wrap (s3.1+(1:Int))),(c169.set c150 c155),()),((cond c140 c162 (!c140)),s3.2.1,()))
noncomputable def slices_partialInsertionSortCmpFunc_api_Edge_l0 (a1:Int) (a2:Int) (a3:Unit) (a4:(List (Int × (Int × Int)))) (s0:HL [.int .i64,.int .i64,(.fl (.row (.prod (.int .i64) (.prod (.int .i64) (.int .i64)))))]):Bool × Bool × HL [.int .i64,.int .i64,(.fl (.row (.prod (.int .i64) (.prod (.int .i64) (.int .i64)))))] × HL [.bool,.bool,(.fl (.row (.prod (.int .i64) (.prod (.int .i64) (.int .i64))))),.bool,(.fl (.row (.prod (.int .i64) (.prod (.int .i64) (.int .i64)))))]:=
 let c2:=(decide (s0.2.1<(5:Int)))
 let c55:=(loopD 1 [.int .i64] [.bool,.int .i64] (slices_partialInsertionSortCmpFunc_api_Edge_l1 a1 a2 a3 a4 s0) (s0.1,()))
 let c57:=c55.2.2.1
 let c58:=(c57==a2)
 let c59:=(!c58)
 let c63:=(decide ((IntKind.i64.wrap (a2 - a1))<(50:Int)))
 let c64:=(!c63)
 let c65:=(IntKind.i64.wrap (c57 - (1:Int)))
 let c66:=(decide ((0:Int)≤c65))
 let c67:=(Int.toNat c65)
 let c68:=(decide (c67<s0.2.2.1.length))
 let c72:=(Int.toNat c57)
 let c73:=(decide (c72<s0.2.2.1.length))
 let c74:=((decide ((0:Int)≤c57)) && c73)
 let c80:=(s0.2.2.1.set c72 ((s0.2.2.1[c67]?).getD ((0:Int),((0:Int),(0:Int)))))
 let c82:=(decide (c67<c80.length))
 let c88:=(decide ((IntKind.i64.wrap (c57 - a1))≥(2:Int)))
 let c133:=(c80.set c67 ((s0.2.2.1[c72]?).getD ((0:Int),((0:Int),(0:Int)))))
 let c134:=(loopD 2 [.int .i64,(.fl (.row (.prod (.int .i64) (.prod (.int .i64) (.int .i64)))))] [.bool,(.fl (.row (.prod (.int .i64) (.prod (.int .i64) (.int .i64)))))] (slices_partialInsertionSortCmpFunc_api_Edge_l2 a1 a2 a3 a4) (c65,c133,()))
 let c138:=(decide ((IntKind.i64.wrap (a2 - c57))≥(2:Int)))
 let c185:=(cond c88 c134.2.2.1 c133)
 let c186:=(loopD 3 [.int .i64,(.fl (.row (.prod (.int .i64) (.prod (.int .i64) (.int .i64)))))] [.bool,(.fl (.row (.prod (.int .i64) (.prod (.int .i64) (.int .i64)))))] (slices_partialInsertionSortCmpFunc_api_Edge_l3 a1 a2 a3 a4) ((IntKind.i64.wrap (c57+(1:Int))),c185,()))
 ((cond c2 (c55.1 && (cond c59 (cond c64 (((((((((c66 && c68) && c68) && c74) && c73) && c74) && c73) && (c66 && c82)) && c82) && ((cond c88 c134.1 true) && (cond c138 c186.1 true))) true) true)) true),(c2 && (c59 && c64)),(c57,(IntKind.i64.wrap (s0.2.1+(1:Int))),(cond c138 c186.2.2.1 c185),()),((c2 && (cond c59 c63 c58)),(cond c59 false true),s0.2.2.1,(!c2),s0.2.2.1,()))
noncomputable def slices_partialInsertionSortCmpFunc_api_Edge_r (a1:Int) (a2:Int) (a3:Unit) (a4:(List (Int × (Int × Int)))):Bool × (Bool × (List (Int × (Int × Int)))):=
 let c206:=(loopD 0 [.int .i64,.int .i64,(.fl (.row (.prod (.int .i64) (.prod (.int .i64) (.int .i64)))))] [.bool,.bool,(.fl (.row (.prod (.int .i64) (.prod (.int .i64) (.int .i64))))),.bool,(.fl (.row (.prod (.int .i64) (.prod (.int .i64) (.int .i64)))))] (slices_partialInsertionSortCmpFunc_api_Edge_l0 a1 a2 a3 a4) ((IntKind.i64.wrap (a1+(1:Int))),(0:Int),a4,()))
 let c208:=c206.2.2.2.2.1
 (c206.1,((cond c208 false c206.2.2.1),(cond c208 c206.2.2.2.2.2.1 c206.2.2.2.1)))
def slices_partialInsertionSortCmpFunc_api_Edge_e:Ent:=⟨147,[(0,(.arr (.row (.prod (.int .i64) (.prod (.int .i64) (.int .i64)))) [] false))],[(.own 0 3),(.pure (.int .i64) (Ty.dflt _)),(.pure (.int .i64) (Ty.dflt _)),(.fn 44 (.pure .unit (Ty.dflt _)))],[(0,(.arr (.row (.prod (.int .i64) (.prod (.int .i64) (.int .i64)))) [] false))],[(.pure .bool (Ty.dflt _))],[]⟩
noncomputable def slices_partialInsertionSortCmpFunc_api_Edge:Fun:=⟨slices_partialInsertionSortCmpFunc_api_Edge_e,fun x=>let r:=slices_partialInsertionSortCmpFunc_api_Edge_r x.1 x.2.1 x.2.2.1 x.2.2.2.1; (r.1,(r.2.1,r.2.2,()))⟩
theorem slices_partialInsertionSortCmpFunc_api_Edge_ev:evFun Try.prog [edge_Compare] [⟨[9,10],[0],⟨[],[],0⟩,[],[],[(1,[8]),(2,[])],[]⟩,⟨[9],[],⟨[],[],0⟩,[],[],[(1,[]),(4,[9])],[]⟩,⟨[11],[0],⟨[],[],0⟩,[],[],[(1,[]),(6,[])],[]⟩,⟨[12],[0],⟨[],[],0⟩,[],[],[(1,[]),(8,[])],[]⟩,⟨[],[],⟨[],[],0⟩,[],[],[],[(1000003,([9,10,11,12],[]))]⟩] Try.f147 (codeOf Try.f147) slices_partialInsertionSortCmpFunc_api_Edge_e=(slices_partialInsertionSortCmpFunc_api_Edge).fn:=by kernel_rfl
theorem slices_partialInsertionSortCmpFunc_api_Edge_ok:FunOk Try.prog (slices_partialInsertionSortCmpFunc_api_Edge):=fun_ok (opers_ok (oks_cons edge_Compare_ok oks_nil)) Try.call147 Try.func147 (by kernel_rfl) fun x _=>(congrFun (slices_partialInsertionSortCmpFunc_api_Edge_ev) x).symm
noncomputable def slices_partitionEqualCmpFunc_api_Edge_l1 (a1:Int) (a2:Int) (a3:Int) (a4:Unit) (a5:(List (Int × (Int × Int)))) (s0:HL [.int .i64,.int .i64,(.fl (.row (.prod (.int .i64) (.prod (.int .i64) (.int .i64)))))]) (s1:HL [.int .i64]):Bool × Bool × HL [.int .i64] × HL [.bool,.int .i64]:=
 let c9:=(decide ((0:Int)≤a1))
 let c10:=(Int.toNat a1)
 let c26:=(decide (s1.1≤s0.2.1))
 let c29:=(decide (c10<s0.2.2.1.length))
 let c30:=(c9 && c29)
 let c39:=(Int.toNat s1.1)
 let c40:=(decide (c39<s0.2.2.1.length))
 let c50:=((s0.2.2.1[c10]?).getD ((0:Int),((0:Int),(0:Int))))
 let c52:=(edge_Compare_r c50 ((s0.2.2.1[c39]?).getD ((0:Int),((0:Int),(0:Int)))))
 let c58:=(cond c26 c26 true)
 let c67:=(cond c26 (!(decide (c52.2<(0:Int)))) false)
 (((((((((cond c26 (c26 && (c26 && c30)) true) && (cond c26 (c26 && c29) true)) && (cond c26 (c26 && (c26 && ((decide ((0:Int)≤s1.1)) && c40))) true)) && (cond c26 (c26 && c40) true)) && (cond c26 (c26 && ((c26 && c26) && c52.1)) true)) && c58) && c58) && c58),c67,((IntKind.i64.wrap (s1.1+(1:Int))),()),((!c67),s1.1,()))
noncomputable def slices_partitionEqualCmpFunc_api_Edge_l2 (a1:Int) (a2:Int) (a3:Int) (a4:Unit) (a5:(List (Int × (Int × Int)))) (s0:HL [.int .i64,.int .i64,(.fl (.row (.prod (.int .i64) (.prod (.int .i64) (.int .i64)))))]) (s2:HL [.int .i64]):Bool × Bool × HL [.int .i64] × HL [.bool,.int .i64]:=
 let c9:=(decide ((0:Int)≤a1))
 let c10:=(Int.toNat a1)
 let c29:=(decide (c10<s0.2.2.1.length))
 let c30:=(c9 && c29)
 let c50:=((s0.2.2.1[c10]?).getD ((0:Int),((0:Int),(0:Int))))
 let c72:=(loopD 1 [.int .i64] [.bool,.int .i64] (slices_partitionEqualCmpFunc_api_Edge_l1 a1 a2 a3 a4 a5 s0) (s0.1,()))
 let c74:=c72.2.2.1
 let c76:=(decide (c74≤s2.1))
 let c84:=(Int.toNat s2.1)
 let c85:=(decide (c84<s0.2.2.1.length))
 let c96:=(edge_Compare_r c50 ((s0.2.2.1[c84]?).getD ((0:Int),((0:Int),(0:Int)))))
 let c102:=(cond c76 c76 true)
 let c107:=(cond c76 (decide (c96.2<(0:Int))) false)
 ((((((((cond c76 (c76 && (c76 && c30)) true) && (cond c76 (c76 && c29) true)) && (cond c76 (c76 && (c76 && ((decide ((0:Int)≤s2.1)) && c85))) true)) && (cond c76 (c76 && c85) true)) && (cond c76 (c76 && ((c76 && c76) && c96.1)) true)) && c102) && c102),c107,((IntKind.i64.wrap (s2.1 - (1:Int))),()),((!c107),s2.1,()))
noncomputable def slices_partitionEqualCmpFunc_api_Edge_l0 (a1:Int) (a2:Int) (a3:Int) (a4:Unit) (a5:(List (Int × (Int × Int)))) (s0:HL [.int .i64,.int .i64,(.fl (.row (.prod (.int .i64) (.prod (.int .i64) (.int .i64)))))]):Bool × Bool × HL [.int .i64,.int .i64,(.fl (.row (.prod (.int .i64) (.prod (.int .i64) (.int .i64)))))] × HL [.bool,.int .i64,(.fl (.row (.prod (.int .i64) (.prod (.int .i64) (.int .i64)))))]:=
 let c72:=(loopD 1 [.int .i64] [.bool,.int .i64] (slices_partitionEqualCmpFunc_api_Edge_l1 a1 a2 a3 a4 a5 s0) (s0.1,()))
 let c74:=c72.2.2.1
 let c110:=(loopD 2 [.int .i64] [.bool,.int .i64] (slices_partitionEqualCmpFunc_api_Edge_l2 a1 a2 a3 a4 a5 s0) (s0.2.1,()))
 let c112:=c110.2.2.1
 let c113:=(decide (c74>c112))
 let c114:=(!c113)
 let c115:=(decide ((0:Int)≤c112))
 let c116:=(Int.toNat c112)
 let c117:=(decide (c116<s0.2.2.1.length))
 let c121:=(Int.toNat c74)
 let c122:=(decide (c121<s0.2.2.1.length))
 let c123:=((decide ((0:Int)≤c74)) && c122)
 let c129:=(s0.2.2.1.set c121 ((s0.2.2.1[c116]?).getD ((0:Int),((0:Int),(0:Int)))))
 let c131:=(decide (c116<c129.length))
 ((c72.1 && (c110.1 && (cond c114 ((((((((c115 && c117) && c117) && c123) && c122) && c123) && c122) && (c115 && c131)) && c131) true))),c114,((IntKind.i64.wrap (c74+(1:Int))),(IntKind.i64.wrap (c112 - (1:Int))),(c129.set c116 ((s0.2.2.1[c121]?).getD ((0:Int),((0:Int),(0:Int))))),()),(c113,c74,s0.2.2.1,()))
noncomputable def slices_partitionEqualCmpFunc_api_Edge_r (a1:Int) (a2:Int) (a3:Int) (a4:Unit) (a5:(List (Int × (Int × Int)))):Bool × (Int × (List (Int × (Int × Int)))):=
 let c1:=(decide ((0:Int)≤a3))
 let c2:=(Int.toNat a3)
 let c5:=(decide (c2<a5.length))
 let c9:=(decide ((0:Int)≤a1))
 let c10:=(Int.toNat a1)
 let c11:=(decide (c10<a5.length))
 let c12:=(c9 && c11)
 let c18:=(a5.set c10 ((a5[c2]?).getD ((0:Int),((0:Int),(0:Int)))))
 let c20:=(decide (c2<c18.length))
 let c147:=(loopD 0 [.int .i64,.int .i64,(.fl (.row (.prod (.int .i64) (.prod (.int .i64) (.int .i64)))))] [.bool,.int .i64,(.fl (.row (.prod (.int .i64) (.prod (.int .i64) (.int .i64)))))] (slices_partitionEqualCmpFunc_api_Edge_l0 a1 a2 a3 a4 a5) ((IntKind.i64.wrap (a1+(1:Int))),(IntKind.i64.wrap (a2 - (1:Int))),(c18.set c2 ((a5[c10]?).getD ((0:Int),((0:Int),(0:Int))))),()))
 ((((((((((c1 && c5) && c5) && c12) && c11) && c12) && c11) && (c1 && c20)) && c20) && c147.1),(c147.2.2.1,c147.2.2.2.1))
def slices_partitionEqualCmpFunc_api_Edge_e:Ent:=⟨148,[(0,(.arr (.row (.prod (.int .i64) (.prod (.int .i64) (.int .i64)))) [] false))],[(.own 0 3),(.pure (.int .i64) (Ty.dflt _)),(.pure (.int .i64) (Ty.dflt _)),(.pure (.int .i64) (Ty.dflt _)),(.fn 44 (.pure .unit (Ty.dflt _)))],[(0,(.arr (.row (.prod (.int .i64) (.prod (.int .i64) (.int .i64)))) [] false))],[(.pure (.int .i64) (Ty.dflt _))],[]⟩
noncomputable def slices_partitionEqualCmpFunc_api_Edge:Fun:=⟨slices_partitionEqualCmpFunc_api_Edge_e,fun x=>let r:=slices_partitionEqualCmpFunc_api_Edge_r x.1 x.2.1 x.2.2.1 x.2.2.2.1 x.2.2.2.2.1; (r.1,(r.2.1,r.2.2,()))⟩
theorem slices_partitionEqualCmpFunc_api_Edge_ev:evFun Try.prog [edge_Compare] [⟨[11,12],[0],⟨[],[],0⟩,[],[],[(1,[]),(2,[11])],[]⟩,⟨[11],[],⟨[],[],0⟩,[],[],[(1,[]),(4,[11])],[]⟩,⟨[12],[],⟨[],[],0⟩,[],[],[(1,[]),(6,[12])],[]⟩] Try.f148 (codeOf Try.f148) slices_partitionEqualCmpFunc_api_Edge_e=(slices_partitionEqualCmpFunc_api_Edge).fn:=by kernel_rfl
theorem slices_partitionEqualCmpFunc_api_Edge_ok:FunOk Try.prog (slices_partitionEqualCmpFunc_api_Edge):=fun_ok (opers_ok (oks_cons edge_Compare_ok oks_nil)) Try.call148 Try.func148 (by kernel_rfl) fun x _=>(congrFun (slices_partitionEqualCmpFunc_api_Edge_ev) x).symm
noncomputable def slices_partitionCmpFunc_api_Edge_l0 (a1:Int) (a2:Int) (a3:Int) (a4:Unit) (a5:(List (Int × (Int × Int)))) (s0:HL [.int .i64]):Bool × Bool × HL [.int .i64] × HL [.bool,.int .i64]:=
 let c2:=(Int.toNat a3)
 let c9:=(decide ((0:Int)≤a1))
 let c10:=(Int.toNat a1)
 let c18:=(a5.set c10 ((a5[c2]?).getD ((0:Int),((0:Int),(0:Int)))))
 let c27:=(IntKind.i64.wrap (a2 - (1:Int)))
 let c28:=(decide (s0.1≤c27))
 let c30:=(Int.toNat s0.1)
 let c32:=(c18.set c2 ((a5[c10]?).getD ((0:Int),((0:Int),(0:Int)))))
 let c33:=c32.length
 let c34:=(decide (c30<c33))
 let c43:=(decide (c10<c33))
 let c44:=(c9 && c43)
 let c54:=((c32[c10]?).getD ((0:Int),((0:Int),(0:Int))))
 let c55:=(edge_Compare_r ((c32[c30]?).getD ((0:Int),((0:Int),(0:Int)))) c54)
 let c61:=(cond c28 c28 true)
 let c68:=(cond c28 (decide (c55.2<(0:Int))) false)
 ((((((((cond c28 (c28 && (c28 && ((decide ((0:Int)≤s0.1)) && c34))) true) && (cond c28 (c28 && c34) true)) && (cond c28 (c28 && (c28 && c44)) true)) && (cond c28 (c28 && c43) true)) && (cond c28 (c28 && ((c28 && c28) && c55.1)) true)) && c61) && c61),c68,((IntKind.i64.wrap (s0.1+(1:Int))),()),((!c68),s0.1,()))
noncomputable def slices_partitionCmpFunc_api_Edge_l1 (a1:Int) (a2:Int) (a3:Int) (a4:Unit) (a5:(List (Int × (Int × Int)))) (s1:HL [.int .i64]):Bool × Bool × HL [.int .i64] × HL [.bool,.int .i64]:=
 let c2:=(Int.toNat a3)
 let c9:=(decide ((0:Int)≤a1))
 let c10:=(Int.toNat a1)
 let c18:=(a5.set c10 ((a5[c2]?).getD ((0:Int),((0:Int),(0:Int)))))
 let c32:=(c18.set c2 ((a5[c10]?).getD ((0:Int),((0:Int),(0:Int)))))
 let c33:=c32.length
 let c43:=(decide (c10<c33))
 let c44:=(c9 && c43)
 let c54:=((c32[c10]?).getD ((0:Int),((0:Int),(0:Int))))
 let c72:=(loopD 0 [.int .i64] [.bool,.int .i64] (slices_partitionCmpFunc_api_Edge_l0 a1 a2 a3 a4 a5) ((IntKind.i64.wrap (a1+(1:Int))),()))
 let c74:=c72.2.2.1
 let c76:=(decide (c74≤s1.1))
 let c78:=(Int.toNat s1.1)
 let c79:=(decide (c78<c33))
 let c96:=(edge_Compare_r ((c32[c78]?).getD ((0:Int),((0:Int),(0:Int)))) c54)
 let c102:=(cond c76 c76 true)
 let c109:=(cond c76 (!(decide (c96.2<(0:Int)))) false)
 (((((((((cond c76 (c76 && (c76 && ((decide ((0:Int)≤s1.1)) && c79))) true) && (cond c76 (c76 && c79) true)) && (cond c76 (c76 && (c76 && c44)) true)) && (cond c76 (c76 && c43) true)) && (cond c76 (c76 && ((c76 && c76) && c96.1)) true)) && c102) && c102) && c102),c109,((IntKind.i64.wrap (s1.1 - (1:Int))),()),((!c109),s1.1,()))
noncomputable def slices_partitionCmpFunc_api_Edge_l3 (a1:Int) (a2:Int) (a3:Int) (a4:Unit) (a5:(List (Int × (Int × Int)))) (s2:HL [.int .i64,.int .i64,(.fl (.row (.prod (.int .i64) (.prod (.int .i64) (.int .i64)))))]) (s3:HL [.int .i64]):Bool × Bool × HL [.int .i64] × HL [.bool,.int .i64]:=
 let c9:=(decide ((0:Int)≤a1))
 let c10:=(Int.toNat a1)
 let c151:=(decide (s3.1≤s2.2.1))
 let c153:=(Int.toNat s3.1)
 let c156:=(decide (c153<s2.2.2.1.length))
 let c164:=(decide (c10<s2.2.2.1.length))
 let c165:=(c9 && c164)
 let c175:=((s2.2.2.1[c10]?).getD ((0:Int),((0:Int),(0:Int))))
 let c176:=(edge_Compare_r ((s2.2.2.1[c153]?).getD ((0:Int),((0:Int),(0:Int)))) c175)
 let c182:=(cond c151 c151 true)
 let c187:=(cond c151 (decide (c176.2<(0:Int))) false)
 ((((((((cond c151 (c151 && (c151 && ((decide ((0:Int)≤s3.1)) && c156))) true) && (cond c151 (c151 && c156) true)) && (cond c151 (c151 && (c151 && c165)) true)) && (cond c151 (c151 && c164) true)) && (cond c151 (c151 && ((c151 && c151) && c176.1)) true)) && c182) && c182),c187,((IntKind.i64.wrap (s3.1+(1:Int))),()),((!c187),s3.1,()))
noncomputable def slices_partitionCmpFunc_api_Edge_l4 (a1:Int) (a2:Int) (a3:Int) (a4:Unit) (a5:(List (Int × (Int × Int)))) (s2:HL [.int .i64,.int .i64,(.fl (.row (.prod (.int .i64) (.prod (.int .i64) (.int .i64)))))]) (s4:HL [.int .i64]):Bool × Bool × HL [.int .i64] × HL [.bool,.int .i64]:=
 let c9:=(decide ((0:Int)≤a1))
 let c10:=(Int.toNat a1)
 let c164:=(decide (c10<s2.2.2.1.length))
 let c165:=(c9 && c164)
 let c175:=((s2.2.2.1[c10]?).getD ((0:Int),((0:Int),(0:Int))))
 let c191:=(loopD 3 [.int .i64] [.bool,.int .i64] (slices_partitionCmpFunc_api_Edge_l3 a1 a2 a3 a4 a5 s2) (s2.1,()))
 let c193:=c191.2.2.1
 let c195:=(decide (c193≤s4.1))
 let c197:=(Int.toNat s4.1)
 let c198:=(decide (c197<s2.2.2.1.length))
 let c215:=(edge_Compare_r ((s2.2.2.1[c197]?).getD ((0:Int),((0:Int),(0:Int)))) c175)
 let c221:=(cond c195 c195 true)
 let c228:=(cond c195 (!(decide (c215.2<(0:Int)))) false)
 (((((((((cond c195 (c195 && (c195 && ((decide ((0:Int)≤s4.1)) && c198))) true) && (cond c195 (c195 && c198) true)) && (cond c195 (c195 && (c195 && c165)) true)) && (cond c195 (c195 && c164) true)) && (cond c195 (c195 && ((c195 && c195) && c215.1)) true)) && c221) && c221) && c221),c228,((IntKind.i64.wrap (s4.1 - (1:Int))),()),((!c228),s4.1,()))
noncomputable def slices_partitionCmpFunc_api_Edge_l2 (a1:Int) (a2:Int) (a3:Int) (a4:Unit) (a5:(List (Int × (Int × Int)))) (s2:HL [.int .i64,.int .i64,(.fl (.row (.prod (.int .i64) (.prod (.int .i64) (.int .i64)))))]):Bool × Bool × HL [.int .i64,.int .i64,(.fl (.row (.prod (.int .i64) (.prod (.int .i64) (.int .i64)))))] × HL [.bool,.int .i64,(.fl (.row (.prod (.int .i64) (.prod (.int .i64) (.int .i64)))))]:=
 let c191:=(loopD 3 [.int .i64] [.bool,.int .i64] (slices_partitionCmpFunc_api_Edge_l3 a1 a2 a3 a4 a5 s2) (s2.1,()))
 let c193:=c191.2.2.1
 let c231:=(loopD 4 [.int .i64] [.bool,.int .i64] (slices_partitionCmpFunc_api_Edge_l4 a1 a2 a3 a4 a5 s2) (s2.2.1,()))
 let c233:=c231.2.2.1
 let c234:=(decide (c193>c233))
 let c235:=(!c234)
 let c236:=(decide ((0:Int)≤c233))
 let c237:=(Int.toNat c233)
 let c238:=(decide (c237<s2.2.2.1.length))
 let c242:=(Int.toNat c193)
 let c243:=(decide (c242<s2.2.2.1.length))
 let c244:=((decide ((0:Int)≤c193)) && c243)
 let c250:=(s2.2.2.1.set c242 ((s2.2.2.1[c237]?).getD ((0:Int),((0:Int),(0:Int)))))
 let c252:=(decide (c237<c250.length))
 ((c191.1 && (c231.1 && (cond c235 ((((((((c236 && c238) && c238) && c244) && c243) && c244) && c243) && (c236 && c252)) && c252) true))),c235,((IntKind.i64.wrap (c193+(1:Int))),(IntKind.i64.wrap (c233 - (1:Int))),(c250.set c237 ((s2.2.2.1[c242]?).getD ((0:Int),((0:Int),(0:Int))))),()),(c234,c233,s2.2.2.1,()))
noncomputable def slices_partitionCmpFunc_api_Edge_r (a1:Int) (a2:Int) (a3:Int) (a4:Unit) (a5:(List (Int × (Int × Int)))):Bool × (Int × Bool × (List (Int × (Int × Int)))):=
 let c1:=(decide ((0:Int)≤a3))
 let c2:=(Int.toNat a3)
 let c5:=(decide (c2<a5.length))
 let c9:=(decide ((0:Int)≤a1))
 let c10:=(Int.toNat a1)
 let c11:=(decide (c10<a5.length))
 let c12:=(c9 && c11)
 let c18:=(a5.set c10 ((a5[c2]?).getD ((0:Int),((0:Int),(0:Int)))))
 let c20:=(decide (c2<c18.length))
 let c27:=(IntKind.i64.wrap (a2 - (1:Int)))
 let c32:=(c18.set c2 ((a5[c10]?).getD ((0:Int),((0:Int),(0:Int)))))
 let c33:=c32.length
 let c43:=(decide (c10<c33))
 let c44:=(c9 && c43)
 let c54:=((c32[c10]?).getD ((0:Int),((0:Int),(0:Int))))
 let c72:=(loopD 0 [.int .i64] [.bool,.int .i64] (slices_partitionCmpFunc_api_Edge_l0 a1 a2 a3 a4 a5) ((IntKind.i64.wrap (a1+(1:Int))),()))
 let c74:=c72.2.2.1
 let c112:=(loopD 1 [.int .i64] [.bool,.int .i64] (slices_partitionCmpFunc_api_Edge_l1 a1 a2 a3 a4 a5) (c27,()))
 let c114:=c112.2.2.1
 let c115:=(decide (c74>c114))
 let c117:=(decide ((0:Int)≤c114))
 let c118:=(Int.toNat c114)
 let c119:=(decide (c118<c33))
 let c120:=(c117 && c119)
 let c125:=(c32.set c118 c54)
 let c127:=(decide (c10<c125.length))
 let c132:=(!c115)
 let c135:=(Int.toNat c74)
 let c136:=(decide (c135<c33))
 let c137:=((decide ((0:Int)≤c74)) && c136)
 let c142:=((c32[c118]?).getD ((0:Int),((0:Int),(0:Int))))
 let c143:=(c32.set c135 c142)
 let c145:=(decide (c118<c143.length))
 let c267:=(loopD 2 [.int .i64,.int .i64,(.fl (.row (.prod (.int .i64) (.prod (.int .i64) (.int .i64)))))] [.bool,.int .i64,(.fl (.row (.prod (.int .i64) (.prod (.int .i64) (.int .i64)))))] (slices_partitionCmpFunc_api_Edge_l2 a1 a2 a3 a4 a5) ((IntKind.i64.wrap (c74+(1:Int))),(IntKind.i64.wrap (c114 - (1:Int))),(c143.set c118 ((c32[c135]?).getD ((0:Int),((0:Int),(0:Int))))),()))
 let c269:=c267.2.2.2.1
 let c270:=c269.length
 let c271:=(decide (c10<c270))
 let c274:=c267.2.2.1
 let c276:=(Int.toNat c274)
 let c277:=(decide (c276<c270))
 let c278:=((decide ((0:Int)≤c274)) && c277)
 let c284:=(c269.set c276 ((c269[c10]?).getD ((0:Int),((0:Int),(0:Int)))))
 let c286:=(decide (c10<c284.length))
 ((((((((((c1 && c5) && c5) && c12) && c11) && c12) && c11) && (c1 && c20)) && c20) && (c72.1 && (c112.1 && ((cond c115 (((((((c44 && c43) && c120) && c119) && c120) && c119) && (c9 && c127)) && c127) true) && (cond c132 ((((((((c120 && c119) && c137) && c136) && c137) && c136) && (c117 && c145)) && c145) && (c267.1 && ((((((((c9 && c271) && c271) && c278) && c277) && c278) && c277) && (c9 && c286)) && c286))) true))))),((cond c132 c274 c114),(cond c132 false true),(cond c132 (c284.set c10 ((c269[c276]?).getD ((0:Int),((0:Int),(0:Int))))) (c125.set c10 c142))))
def slices_partitionCmpFunc_api_Edge_e:Ent:=⟨149,[(0,(.arr (.row (.prod (.int .i64) (.prod (.int .i64) (.int .i64)))) [] false))],[(.own 0 3),(.pure (.int .i64) (Ty.dflt _)),(.pure (.int .i64) (Ty.dflt _)),(.pure (.int .i64) (Ty.dflt _)),(.fn 44 (.pure .unit (Ty.dflt _)))],[(0,(.arr (.row (.prod (.int .i64) (.prod (.int .i64) (.int .i64)))) [] false))],[(.pure (.int .i64) (Ty.dflt _)),(.pure .bool (Ty.dflt _))],[]⟩
noncomputable def slices_partitionCmpFunc_api_Edge:Fun:=⟨slices_partitionCmpFunc_api_Edge_e,fun x=>let r:=slices_partitionCmpFunc_api_Edge_r x.1 x.2.1 x.2.2.1 x.2.2.2.1 x.2.2.2.2.1; (r.1,(r.2.1,r.2.2.1,r.2.2.2,()))⟩
theorem slices_partitionCmpFunc_api_Edge_ev:evFun Try.prog [edge_Compare] [⟨[12],[],⟨[],[],0⟩,[],[],[(1,[]),(2,[12])],[]⟩,⟨[13],[],⟨[],[],0⟩,[],[],[(1,[]),(4,[13])],[]⟩,⟨[12,13],[0],⟨[],[],0⟩,[],[],[(1,[]),(6,[13])],[]⟩,⟨[12],[],⟨[],[],0⟩,[],[],[(1,[]),(8,[12])],[]⟩,⟨[13],[],⟨[],[],0⟩,[],[],[(1,[]),(10,[13])],[]⟩,⟨[],[],⟨[],[],0⟩,[],[],[],[(1000003,([12,13],[]))]⟩] Try.f149 (codeOf Try.f149) slices_partitionCmpFunc_api_Edge_e=(slices_partitionCmpFunc_api_Edge).fn:=by kernel_rfl
theorem slices_partitionCmpFunc_api_Edge_ok:FunOk Try.prog (slices_partitionCmpFunc_api_Edge):=fun_ok (opers_ok (oks_cons edge_Compare_ok oks_nil)) Try.call149 Try.func149 (by kernel_rfl) fun x _=>(congrFun (slices_partitionCmpFunc_api_Edge_ev) x).symm
noncomputable def slices_pdqsortCmpFunc_api_Edge_s_l0 (g_slices_pdqsortCmpFunc_api_Edge:HL slices_pdqsortCmpFunc_api_Edge_e.ins→Bool × HL slices_pdqsortCmpFunc_api_Edge_e.outs) (a1:Int) (a2:Int) (a3:Int) (a4:Unit) (a5:(List (Int × (Int × Int)))) (s0:HL [.int .i64,.int .i64,.bool,.bool,.int .i64,(.fl (.row (.prod (.int .i64) (.prod (.int .i64) (.int .i64)))))]):Bool × Bool × HL [.int .i64,.int .i64,.bool,.bool,.int .i64,(.fl (.row (.prod (.int .i64) (.prod (.int .i64) (.int .i64)))))] × HL [.bool,(.fl (.row (.prod (.int .i64) (.prod (.int .i64) (.int .i64)))))]:=
 let c2:=(IntKind.i64.wrap (s0.1 - s0.2.1))
 let c4:=(decide (c2≤(12:Int)))
 let c7:=(slices_insertionSortCmpFunc_api_Edge_r s0.2.1 s0.1 a4 s0.2.2.2.2.2.1)
 let c11:=(!c4)
 let c14:=(s0.2.2.2.2.1==(0:Int))
 let c15:=(slices_heapSortCmpFunc_api_Edge_r s0.2.1 s0.1 a4 s0.2.2.2.2.2.1)
 let c18:=(!c14)
 let c20:=(!s0.2.2.2.1)
 let c21:=(slices_breakPatternsCmpFunc_api_Edge_r s0.2.1 s0.1 a4 s0.2.2.2.2.2.1)
 let c25:=(cond c20 c21.2 s0.2.2.2.2.2.1)
 let c26:=(slices_choosePivotCmpFunc_api_Edge_r s0.2.1 s0.1 a4 c25)
 let c28:=c26.2.2
 let c30:=(c28==(2:Int))
 let c31:=(slices_reverseRangeCmpFunc_api_Edge_r s0.2.1 s0.1 a4 c25)
 let c37:=(cond s0.2.2.2.1 s0.2.2.1 false)
 let c38:=(cond c37 c37 true)
 let c44:=(cond c37 ((cond c30 (1:Int) c28)==(1:Int)) false)
 let c46:=(cond c30 c31.2 c25)
 let c47:=(slices_partialInsertionSortCmpFunc_api_Edge_r s0.2.1 s0.1 a4 c46)
 let c51:=c47.2.1
 let c53:=(cond c44 (!c51) true)
 let c54:=(decide (s0.2.1>(0:Int)))
 let c55:=(cond c54 c54 true)
 let c56:=(IntKind.i64.wrap (s0.2.1 - (1:Int)))
 let c58:=(Int.toNat c56)
 let c59:=c47.2.2
 let c60:=(cond c44 c59 c46)
 let c61:=c60.length
 let c62:=(decide (c58<c61))
 let c72:=c26.2.1
 let c75:=(cond c30 (IntKind.i64.wrap ((IntKind.i64.wrap (s0.1 - (1:Int))) - (IntKind.i64.wrap (c72 - s0.2.1)))) c72)
 let c77:=(Int.toNat c75)
 let c78:=(decide (c77<c61))
 let c90:=(edge_Compare_r ((c60[c58]?).getD ((0:Int),((0:Int),(0:Int)))) ((c60[c77]?).getD ((0:Int),((0:Int),(0:Int)))))
 let c102:=(cond c54 (!(decide (c90.2<(0:Int)))) false)
 let c103:=(slices_partitionEqualCmpFunc_api_Edge_r s0.2.1 s0.1 c75 a4 c60)
 let c107:=(!c102)
 let c108:=(slices_partitionCmpFunc_api_Edge_r s0.2.1 s0.1 c75 a4 c60)
 let c112:=c108.2.1
 let c113:=(IntKind.i64.wrap (c112 - s0.2.1))
 let c114:=(IntKind.i64.wrap (s0.1 - c112))
 let c115:=(decide (c113<c114))
 let c117:=(cond c20 (IntKind.i64.wrap (s0.2.2.2.2.1 - (1:Int))) s0.2.2.2.2.1)
 let c118:=c108.2.2.2
 let c119:=(g_slices_pdqsortCmpFunc_api_Edge (s0.2.1,c112,c117,a4,c118,()))
 let c121:=(IntKind.i64.wrap (c112+(1:Int)))
 let c122:=(g_slices_pdqsortCmpFunc_api_Edge (c121,s0.1,c117,a4,c118,()))
 let c140:=(c11 && (c18 && (c53 && c107)))
 let c152:=(IntKind.i64.wrap (Int.tdiv c2 (8:Int)))
 (((cond c4 c7.1 true) && (cond c11 ((cond c14 c15.1 true) && (cond c18 ((cond c20 c21.1 true) && (c26.1 && ((cond c30 c31.1 true) && (((((cond s0.2.2.2.1 s0.2.2.2.1 true) && c38) && c38) && (cond c44 c47.1 true)) && (cond c53 ((((((((((c55 && (cond c54 (c54 && (c54 && ((decide ((0:Int)≤c56)) && c62))) true)) && (cond c54 (c54 && c62) true)) && (cond c54 (c54 && (c54 && ((decide ((0:Int)≤c75)) && c78))) true)) && (cond c54 (c54 && c78) true)) && (cond c54 (c54 && ((c54 && c54) && c90.1)) true)) && c55) && c55) && c55) && (cond c102 c103.1 true)) && (cond c107 (c108.1 && (((8:Int) !=(0:Int)) && (cond c115 c119.1 c122.1))) true)) true))))) true)) true)),(c140 || (c11 && (c18 && (c53 && c102)))),((cond c140 (cond c115 s0.1 c112) s0.1),(cond c140 (cond c115 c121 s0.2.1) c103.2.1),(cond c140 c108.2.2.1 s0.2.2.1),(cond c140 (cond c115 (decide (c113≥c152)) (decide (c114≥c152))) s0.2.2.2.1),(cond c140 c117 c117),(cond c140 (cond c115 c119.2.1 c122.2.1) c103.2.2),()),((cond c11 (cond c18 (c51 && c44) c14) c4),(cond c11 (cond c18 c59 c15.2) c7.2),()))
noncomputable def slices_pdqsortCmpFunc_api_Edge_s_r (g_slices_pdqsortCmpFunc_api_Edge:HL slices_pdqsortCmpFunc_api_Edge_e.ins→Bool × HL slices_pdqsortCmpFunc_api_Edge_e.outs) (a1:Int) (a2:Int) (a3:Int) (a4:Unit) (a5:(List (Int × (Int × Int)))):Bool × ((List (Int × (Int × Int)))):=
 let c174:=(loopD 0 [.int .i64,.int .i64,.bool,.bool,.int .i64,(.fl (.row (.prod (.int .i64) (.prod (.int .i64) (.int .i64)))))] [.bool,(.fl (.row (.prod (.int .i64) (.prod (.int .i64) (.int .i64)))))] (slices_pdqsortCmpFunc_api_Edge_s_l0 g_slices_pdqsortCmpFunc_api_Edge a1 a2 a3 a4 a5) (a2,a1,true,true,a3,a5,()))
 (c174.1,(c174.2.2.1))
noncomputable def slices_pdqsortCmpFunc_api_Edge_s (g_slices_pdqsortCmpFunc_api_Edge:HL slices_pdqsortCmpFunc_api_Edge_e.ins→Bool × HL slices_pdqsortCmpFunc_api_Edge_e.outs):HL slices_pdqsortCmpFunc_api_Edge_e.ins→Bool × HL slices_pdqsortCmpFunc_api_Edge_e.outs:=fun x=>let r:=slices_pdqsortCmpFunc_api_Edge_s_r g_slices_pdqsortCmpFunc_api_Edge x.1 x.2.1 x.2.2.1 x.2.2.2.1 x.2.2.2.2.1; (r.1,(r.2,()))
theorem slices_pdqsortCmpFunc_api_Edge_ev (g_slices_pdqsortCmpFunc_api_Edge:HL slices_pdqsortCmpFunc_api_Edge_e.ins→Bool × HL slices_pdqsortCmpFunc_api_Edge_e.outs):evFun Try.prog [slices_insertionSortCmpFunc_api_Edge,slices_heapSortCmpFunc_api_Edge,slices_breakPatternsCmpFunc_api_Edge,slices_choosePivotCmpFunc_api_Edge,slices_reverseRangeCmpFunc_api_Edge,slices_partialInsertionSortCmpFunc_api_Edge,edge_Compare,slices_partitionEqualCmpFunc_api_Edge,slices_partitionCmpFunc_api_Edge,⟨slices_pdqsortCmpFunc_api_Edge_e,g_slices_pdqsortCmpFunc_api_Edge⟩] [⟨[2,1,11,10,3],[0],⟨[],[],0⟩,[],[],[(1,[])],[]⟩,⟨[],[],⟨[],[],0⟩,[],[],[],[(1000003,([10,11,3,13,14,1,2],[]))]⟩] Try.f118 (codeOf Try.f118) slices_pdqsortCmpFunc_api_Edge_e=slices_pdqsortCmpFunc_api_Edge_s g_slices_pdqsortCmpFunc_api_Edge:=by kernel_rfl
noncomputable def slices_pdqsortCmpFunc_api_Edge:Fun:=⟨slices_pdqsortCmpFunc_api_Edge_e,recF slices_pdqsortCmpFunc_api_Edge_e (slices_pdqsortCmpFunc_api_Edge_s)⟩
theorem slices_pdqsortCmpFunc_api_Edge_ok:FunOk Try.prog (slices_pdqsortCmpFunc_api_Edge):=rec_ok Try.call118 fun g_slices_pdqsortCmpFunc_api_Edge hg_slices_pdqsortCmpFunc_api_Edge=>fun_ok (F:=⟨slices_pdqsortCmpFunc_api_Edge_e,slices_pdqsortCmpFunc_api_Edge_s g_slices_pdqsortCmpFunc_api_Edge⟩) (opers_ok (oks_cons slices_insertionSortCmpFunc_api_Edge_ok (oks_cons slices_heapSortCmpFunc_api_Edge_ok (oks_cons slices_breakPatternsCmpFunc_api_Edge_ok (oks_cons slices_choosePivotCmpFunc_api_Edge_ok (oks_cons slices_reverseRangeCmpFunc_api_Edge_ok (oks_cons slices_partialInsertionSortCmpFunc_api_Edge_ok (oks_cons edge_Compare_ok (oks_cons slices_partitionEqualCmpFunc_api_Edge_ok (oks_cons slices_partitionCmpFunc_api_Edge_ok (oks_cons hg_slices_pdqsortCmpFunc_api_Edge oks_nil))))))))))) Try.call118 Try.func118 (by kernel_rfl) fun x _=>(congrFun (slices_pdqsortCmpFunc_api_Edge_ev g_slices_pdqsortCmpFunc_api_Edge) x).symm
noncomputable def slices_pdqsortCmpFunc_api_Edge_r (a1:Int) (a2:Int) (a3:Int) (a4:Unit) (a5:(List (Int × (Int × Int)))):Bool × ((List (Int × (Int × Int)))):=let r:=recF slices_pdqsortCmpFunc_api_Edge_e (slices_pdqsortCmpFunc_api_Edge_s) (a1,a2,a3,a4,a5,()); (r.1,(r.2.1))
noncomputable def slices_SortFunc_api_Edge_r (a1:Unit) (a2:(List (Int × (Int × Int)))):Bool × ((List (Int × (Int × Int)))):=
 let c4:=(bits_Len_r (IntKind.u64.wrap ((a2.length:Int))))
 let c9:=(slices_pdqsortCmpFunc_api_Edge_r (0:Int) (a2.length:Int) c4.2 a1 a2)
 ((c4.1 && c9.1),(c9.2))
def slices_SortFunc_api_Edge_e:Ent:=⟨85,[(0,(.arr (.row (.prod (.int .i64) (.prod (.int .i64) (.int .i64)))) [] false))],[(.own 0 3),(.fn 44 (.pure .unit (Ty.dflt _)))],[(0,(.arr (.row (.prod (.int .i64) (.prod (.int .i64) (.int .i64)))) [] false))],[],[]⟩
noncomputable def slices_SortFunc_api_Edge:Fun:=⟨slices_SortFunc_api_Edge_e,fun x=>let r:=slices_SortFunc_api_Edge_r x.1 x.2.1; (r.1,(r.2,()))⟩
theorem slices_SortFunc_api_Edge_ev:evFun Try.prog [bits_Len,slices_pdqsortCmpFunc_api_Edge] [] Try.f85 (codeOf Try.f85) slices_SortFunc_api_Edge_e=(slices_SortFunc_api_Edge).fn:=by kernel_rfl
theorem slices_SortFunc_api_Edge_ok:FunOk Try.prog (slices_SortFunc_api_Edge):=fun_ok (opers_ok (oks_cons bits_Len_ok (oks_cons slices_pdqsortCmpFunc_api_Edge_ok oks_nil))) Try.call85 Try.func85 (by kernel_rfl) fun x _=>(congrFun (slices_SortFunc_api_Edge_ev) x).symm
noncomputable def edge_Sort_r (a1:(List (Int × (Int × Int)))):Bool × (Int × (List (Int × (Int × Int)))):=
 let c1:=(edge_CheckAll_r a1)
 let c3:=c1.2
 let c6:=(!(c3 !=(0:Int)))
 let c7:=(slices_Clone_api_Edge_r a1)
 let c11:=(slices_SortFunc_api_Edge_r () c7.2)
 ((c1.1 && (cond c6 (c7.1 && c11.1) true)),((cond c6 (0:Int) c3),(cond c6 c11.2 ([]:List (Int × (Int × Int))))))
def edge_Sort_e:Ent:=⟨42,[],[(.pure (.fl (.row (.prod (.int .i64) (.prod (.int .i64) (.int .i64))))) (Ty.dflt _))],[(0,(.arr (.row (.prod (.int .i64) (.prod (.int .i64) (.int .i64)))) [] false))],[(.own 0 3),(.pure (.int .i64) (Ty.dflt _))],[]⟩
noncomputable def edge_Sort:Fun:=⟨edge_Sort_e,fun x=>let r:=edge_Sort_r x.1; (r.1,(r.2.1,r.2.2,()))⟩
theorem edge_Sort_ev:evFun Try.prog [edge_CheckAll,slices_Clone_api_Edge,slices_SortFunc_api_Edge] [⟨[],[],⟨[],[],0⟩,[],[],[],[(1000003,([0],[]))]⟩] Try.f42 (codeOf Try.f42) edge_Sort_e=(edge_Sort).fn:=by kernel_rfl
theorem edge_Sort_ok:FunOk Try.prog (edge_Sort):=fun_ok (opers_ok (oks_cons edge_CheckAll_ok (oks_cons slices_Clone_api_Edge_ok (oks_cons slices_SortFunc_api_Edge_ok oks_nil)))) Try.call42 Try.func42 (by kernel_rfl) fun x _=>(congrFun (edge_Sort_ev) x).symm
noncomputable def join_New_l0 (a1:Int) (s0:HL [.int .i64,.int .i64,(.fl (.int .i64)),(.fl (.int .i64)),(.fl (.int .i64))]):Bool × Bool × HL [.int .i64,.int .i64,(.fl (.int .i64)),(.fl (.int .i64)),(.fl (.int .i64))] × HL [.bool,.int .i64,(.fl (.int .i64)),(.fl (.int .i64)),(.fl (.int .i64))]:=
 let c15:=(decide (s0.1<(IntKind.i64.wrap (a1+(1:Int)))))
 let c19:=(s0.1::([]:List Int))
 let c20:=c19.length
 let c25:=((1:Int)::([]:List Int))
 ((cond c15 (((decide ((s0.2.2.1.length+c20)*8≤140737488355328)) && (decide ((s0.2.2.2.1.length+c25.length)*8≤140737488355328))) && (decide ((s0.2.2.2.2.1.length+c20)*8≤140737488355328))) true),c15,((IntKind.i64.wrap (s0.1+(1:Int))),s0.2.1,(s0.2.2.1++c19),(s0.2.2.2.1++c25),(s0.2.2.2.2.1++c19),()),((!c15),s0.2.1,s0.2.2.1,s0.2.2.2.1,s0.2.2.2.2.1,()))
noncomputable def join_New_r (a1:Int):Bool × (Int × Int × (List Int) × (List Int) × (List Int)):=
 let c2:=(decide (a1<(0:Int)))
 let c3:=(!c2)
 let c11:=(!(cond c2 true (decide (a1>(4096:Int)))))
 let c42:=(loopD 0 [.int .i64,.int .i64,(.fl (.int .i64)),(.fl (.int .i64)),(.fl (.int .i64))] [.bool,.int .i64,(.fl (.int .i64)),(.fl (.int .i64)),(.fl (.int .i64))] (join_New_l0 a1) ((0:Int),a1,([]:List Int),([]:List Int),([]:List Int),()))
 (((((cond c3 c3 true) && (cond c2 true c3)) && (cond c11 c42.1 true)) && (c11 && (c11 && (c11 && c11)))),((cond c11 (0:Int) (1:Int)),c42.2.2.1,c42.2.2.2.1,c42.2.2.2.2.1,c42.2.2.2.2.2.1))
def join_New_e:Ent:=⟨123,[],[(.pure (.int .i64) (Ty.dflt _))],[(0,(.var 161 (.row (.pair (.own 1 1) (.pair (.own 2 1) (.pair (.own 3 1) (.pure (.int .i64) (Ty.dflt _)))))))),(1,(.arr (.int .i64) [] false)),(2,(.arr (.int .i64) [] false)),(3,(.arr (.int .i64) [] false))],[(.ptr 0 []),(.pure (.int .i64) (Ty.dflt _))],[]⟩
noncomputable def join_New:Fun:=⟨join_New_e,fun x=>let r:=join_New_r x.1; (r.1,(r.2.1,r.2.2.1,r.2.2.2.1,r.2.2.2.2.1,r.2.2.2.2.2,()))⟩
theorem join_New_ev:evFun Try.prog [] [⟨[17],[640],⟨[],[(640,⟨.tt,(.var 161 (.row (.pair (.own 1729 1) (.pair (.own 2113 1) (.pair (.own 2561 1) (.pure (.int .i64) (Ty.dflt _)))))))⟩),(1729,⟨.tt,(.arr (.int .i64) [] false)⟩),(2113,⟨.tt,(.arr (.int .i64) [] false)⟩),(2561,⟨.tt,(.arr (.int .i64) [] false)⟩)],0⟩,[],[640],[(1,[]),(2,[])],[]⟩,⟨[],[],⟨[],[],0⟩,[],[],[],[(1000003,([17],[]))]⟩] Try.f123 (codeOf Try.f123) join_New_e=(join_New).fn:=by kernel_rfl
theorem join_New_ok:FunOk Try.prog (join_New):=fun_ok (opers_ok oks_nil) Try.call123 Try.func123 (by kernel_rfl) fun x _=>(congrFun (join_New_ev) x).symm
noncomputable def span_sets_r:Bool × (Int × (List Int) × (List Int) × (List Int)):=
 let c1:=(join_New_r (64:Int))
 (c1.1,(c1.2.2.1,c1.2.2.2.1,c1.2.2.2.2.1,c1.2.2.2.2.2))
def span_sets_e:Ent:=⟨89,[],[],[(0,(.var 161 (.row (.pair (.own 1 1) (.pair (.own 2 1) (.pair (.own 3 1) (.pure (.int .i64) (Ty.dflt _)))))))),(1,(.arr (.int .i64) [] false)),(2,(.arr (.int .i64) [] false)),(3,(.arr (.int .i64) [] false))],[(.ptr 0 [])],[]⟩
noncomputable def span_sets:Fun:=⟨span_sets_e,fun x=>let r:=span_sets_r; (r.1,(r.2.1,r.2.2.1,r.2.2.2.1,r.2.2.2.2,()))⟩
theorem span_sets_ev:evFun Try.prog [join_New] [] Try.f89 (codeOf Try.f89) span_sets_e=(span_sets).fn:=by kernel_rfl
theorem span_sets_ok:FunOk Try.prog (span_sets):=fun_ok (opers_ok (oks_cons join_New_ok oks_nil)) Try.call89 Try.func89 (by kernel_rfl) fun x _=>(congrFun (span_sets_ev) x).symm
noncomputable def join_Join__has_r (a1:Int) (a2:Int) (a3:(List Int)) (a4:(List Int)) (a5:(List Int)):Bool × (Bool):=
 let c1:=(!false)
 let c3:=(cond c1 c1 true)
 let c8:=(cond c1 (decide (a1≥(1:Int))) false)
 let c9:=(cond c8 c8 true)
 ((((((((c3 && c3) && c9) && c9) && c9) && c9) && (cond c8 (c8 && c8) true)) && c9),((cond c8 (decide (a1<(a3.length:Int))) false)))
def join_Join__has_e:Ent:=⟨125,[(0,(.var 161 (.row (.pair (.own 1 1) (.pair (.own 2 1) (.pair (.own 3 1) (.pure (.int .i64) (Ty.dflt _)))))))),(1,(.arr (.int .i64) [] false)),(2,(.arr (.int .i64) [] false)),(3,(.arr (.int .i64) [] false))],[(.ptr 0 []),(.pure (.int .i64) (Ty.dflt _))],[],[(.pure .bool (Ty.dflt _))],[0,1,2,3]⟩
noncomputable def join_Join__has:Fun:=⟨join_Join__has_e,fun x=>let r:=join_Join__has_r x.1 x.2.1 x.2.2.1 x.2.2.2.1 x.2.2.2.2.1; (r.1,(r.2,()))⟩
theorem join_Join__has_ev:evFun Try.prog [] [] Try.f125 (codeOf Try.f125) join_Join__has_e=(join_Join__has).fn:=by kernel_rfl
theorem join_Join__has_ok:FunOk Try.prog (join_Join__has):=fun_ok (opers_ok oks_nil) Try.call125 Try.func125 (by kernel_rfl) fun x _=>(congrFun (join_Join__has_ev) x).symm
noncomputable def join_Join__top_l0 (a1:Int) (a2:Int) (a3:(List Int)) (a4:(List Int)) (a5:(List Int)) (s0:HL [.int .i64,(.fl (.int .i64))]):Bool × Bool × HL [.int .i64,(.fl (.int .i64))] × HL [.bool,.int .i64,(.fl (.int .i64))]:=
 let c1:=(decide ((0:Int)≤s0.1))
 let c2:=(Int.toNat s0.1)
 let c5:=(decide (c2<s0.2.1.length))
 let c6:=(c1 && c5)
 let c7:=(c6 && c5)
 let c8:=((s0.2.1[c2]?).getD (0:Int))
 let c9:=(c8 !=s0.1)
 let c11:=(Int.toNat c8)
 let c12:=(decide (c11<s0.2.1.length))
 let c19:=(s0.2.1.set c2 ((s0.2.1[c11]?).getD (0:Int)))
 let c21:=(decide (c2<c19.length))
 ((c7 && (cond c9 (((((c7 && ((decide ((0:Int)≤c8)) && c12)) && c12) && c6) && c5) && ((c1 && c21) && c21)) true)),c9,(((c19[c2]?).getD (0:Int)),c19,()),((!c9),s0.1,s0.2.1,()))
noncomputable def join_Join__top_r (a1:Int) (a2:Int) (a3:(List Int)) (a4:(List Int)) (a5:(List Int)):Bool × (Int × (List Int)):=
 let c32:=(loopD 0 [.int .i64,(.fl (.int .i64))] [.bool,.int .i64,(.fl (.int .i64))] (join_Join__top_l0 a1 a2 a3 a4 a5) (a1,a3,()))
 (c32.1,(c32.2.2.1,c32.2.2.2.1))
def join_Join__top_e:Ent:=⟨126,[(0,(.var 161 (.row (.pair (.own 1 1) (.pair (.own 2 1) (.pair (.own 3 1) (.pure (.int .i64) (Ty.dflt _)))))))),(1,(.arr (.int .i64) [] false)),(2,(.arr (.int .i64) [] false)),(3,(.arr (.int .i64) [] false))],[(.ptr 0 []),(.pure (.int .i64) (Ty.dflt _))],[(1,(.arr (.int .i64) [] false))],[(.pure (.int .i64) (Ty.dflt _))],[0,2,3]⟩
noncomputable def join_Join__top:Fun:=⟨join_Join__top_e,fun x=>let r:=join_Join__top_r x.1 x.2.1 x.2.2.1 x.2.2.2.1 x.2.2.2.2.1; (r.1,(r.2.1,r.2.2,()))⟩
theorem join_Join__top_ev:evFun Try.prog [] [⟨[1],[1],⟨[],[],0⟩,[],[],[(1,[]),(2,[1])],[]⟩] Try.f126 (codeOf Try.f126) join_Join__top_e=(join_Join__top).fn:=by kernel_rfl
theorem join_Join__top_ok:FunOk Try.prog (join_Join__top):=fun_ok (opers_ok oks_nil) Try.call126 Try.func126 (by kernel_rfl) fun x _=>(congrFun (join_Join__top_ev) x).symm
noncomputable def join_Join__Unite_r (a1:Int) (a2:Int) (a3:Int) (a4:(List Int)) (a5:(List Int)) (a6:(List Int)):Bool × (Bool × Int × (List Int) × (List Int) × (List Int)):=
 let c5:=(join_Join__has_r a1 a3 a4 a5 a6)
 let c8:=(!c5.2)
 let c9:=(!c8)
 let c12:=(join_Join__has_r a2 a3 a4 a5 a6)
 let c25:=(!(cond c8 true (!c12.2)))
 let c26:=(join_Join__top_r a1 a3 a4 a5 a6)
 let c29:=(join_Join__top_r a2 a3 c26.2.2 a5 a6)
 let c32:=c26.2.1
 let c33:=c29.2.1
 let c35:=(!(c32==c33))
 let c37:=(Int.toNat c32)
 let c39:=(decide (c37<a5.length))
 let c43:=(Int.toNat c33)
 let c44:=(decide (c43<a5.length))
 let c50:=(decide (((a5[c37]?).getD (0:Int))<((a5[c43]?).getD (0:Int))))
 let c51:=(cond c50 c33 c32)
 let c52:=(decide ((0:Int)≤c51))
 let c53:=(Int.toNat c51)
 let c54:=(decide (c53<a5.length))
 let c55:=(c52 && c54)
 let c57:=(cond c50 c32 c33)
 let c58:=(decide ((0:Int)≤c57))
 let c59:=(Int.toNat c57)
 let c60:=(decide (c59<a5.length))
 let c65:=(decide (c53<a6.length))
 let c66:=(c52 && c65)
 let c69:=(decide (c59<a6.length))
 let c73:=c29.2.2
 let c75:=(decide (c59<c73.length))
 (((((c5.1 && (cond c9 ((c9 && c9) && c12.1) true)) && (cond c9 c9 true)) && (cond c8 true c9)) && (cond c25 ((c26.1 && c29.1) && (cond c35 ((((((decide ((0:Int)≤c32)) && c39) && c39) && ((decide ((0:Int)≤c33)) && c44)) && c44) && (((((((((((((c55 && c54) && (c58 && c60)) && c60) && c66) && c65) && (c58 && c69)) && c69) && (c58 && c75)) && c75) && c55) && c54) && c66) && c65)) true)) true)),((cond c25 (cond c35 true false) false),(cond c25 (cond c35 (IntKind.i64.wrap (a3 - (1:Int))) a3) a3),(cond c25 (cond c35 (c73.set c59 c51) c73) a4),(cond c25 (cond c35 (a5.set c53 (IntKind.i64.wrap (((a5[c53]?).getD (0:Int))+((a5[c59]?).getD (0:Int))))) a5) a5),(cond c25 (cond c35 (a6.set c53 (if ((a6[c59]?).getD (0:Int))<((a6[c53]?).getD (0:Int)) then ((a6[c59]?).getD (0:Int)) else ((a6[c53]?).getD (0:Int)))) a6) a6)))
def join_Join__Unite_e:Ent:=⟨92,[(0,(.var 161 (.row (.pair (.own 1 1) (.pair (.own 2 1) (.pair (.own 3 1) (.pure (.int .i64) (Ty.dflt _)))))))),(1,(.arr (.int .i64) [] false)),(2,(.arr (.int .i64) [] false)),(3,(.arr (.int .i64) [] false))],[(.ptr 0 []),(.pure (.int .i64) (Ty.dflt _)),(.pure (.int .i64) (Ty.dflt _))],[(0,(.var 161 (.row (.pair (.own 1 1) (.pair (.own 2 1) (.pair (.own 3 1) (.pure (.int .i64) (Ty.dflt _)))))))),(1,(.arr (.int .i64) [] false)),(2,(.arr (.int .i64) [] false)),(3,(.arr (.int .i64) [] false))],[(.pure .bool (Ty.dflt _))],[]⟩
noncomputable def join_Join__Unite:Fun:=⟨join_Join__Unite_e,fun x=>let r:=join_Join__Unite_r x.1 x.2.1 x.2.2.1 x.2.2.2.1 x.2.2.2.2.1 x.2.2.2.2.2.1; (r.1,(r.2.1,r.2.2.1,r.2.2.2.1,r.2.2.2.2.1,r.2.2.2.2.2,()))⟩
theorem join_Join__Unite_ev:evFun Try.prog [join_Join__has,join_Join__top] [⟨[],[],⟨[],[],0⟩,[],[],[],[(1000003,([1,2],[]))]⟩] Try.f92 (codeOf Try.f92) join_Join__Unite_e=(join_Join__Unite).fn:=by kernel_rfl
theorem join_Join__Unite_ok:FunOk Try.prog (join_Join__Unite):=fun_ok (opers_ok (oks_cons join_Join__has_ok (oks_cons join_Join__top_ok oks_nil))) Try.call92 Try.func92 (by kernel_rfl) fun x _=>(congrFun (join_Join__Unite_ev) x).symm
noncomputable def span_Least_1_r (a1:(Int × (Int × Int))) (a2:Int) (a3:(List Int)) (a4:(List Int)) (a5:(List Int)):Bool × (Bool × Int × (List Int) × (List Int) × (List Int)):=
 let c8:=(join_Join__Unite_r a1.1 a1.2.1 a2 a3 a4 a5)
 (c8.1,((!c8.2.1),c8.2.2.1,c8.2.2.2.1,c8.2.2.2.2.1,c8.2.2.2.2.2))
def span_Least_1_e:Ent:=⟨91,[(0,(.var 125 (.ptr 1 []))),(1,(.var 161 (.row (.pair (.own 2 1) (.pair (.own 3 1) (.pair (.own 4 1) (.pure (.int .i64) (Ty.dflt _)))))))),(2,(.arr (.int .i64) [] false)),(3,(.arr (.int .i64) [] false)),(4,(.arr (.int .i64) [] false))],[(.pure (.row (.prod (.int .i64) (.prod (.int .i64) (.int .i64)))) (Ty.dflt _)),(.ptr 0 [])],[(1,(.var 161 (.row (.pair (.own 2 1) (.pair (.own 3 1) (.pair (.own 4 1) (.pure (.int .i64) (Ty.dflt _)))))))),(2,(.arr (.int .i64) [] false)),(3,(.arr (.int .i64) [] false)),(4,(.arr (.int .i64) [] false))],[(.pure .bool (Ty.dflt _))],[0]⟩
noncomputable def span_Least_1:Fun:=⟨span_Least_1_e,fun x=>let r:=span_Least_1_r x.1 x.2.1 x.2.2.1 x.2.2.2.1 x.2.2.2.2.1; (r.1,(r.2.1,r.2.2.1,r.2.2.2.1,r.2.2.2.2.1,r.2.2.2.2.2,()))⟩
theorem span_Least_1_ev:evFun Try.prog [join_Join__Unite] [] Try.f91 (codeOf Try.f91) span_Least_1_e=(span_Least_1).fn:=by kernel_rfl
theorem span_Least_1_ok:FunOk Try.prog (span_Least_1):=fun_ok (opers_ok (oks_cons join_Join__Unite_ok oks_nil)) Try.call91 Try.func91 (by kernel_rfl) fun x _=>(congrFun (span_Least_1_ev) x).symm
noncomputable def slices_IndexFunc_api_Edge_l0 (a1:Unit) (a2:(List (Int × (Int × Int)))) (a3:Int) (a4:(List Int)) (a5:(List Int)) (a6:(List Int)) (s0:HL [.int .i64,.int .i64,(.fl (.int .i64)),(.fl (.int .i64)),(.fl (.int .i64))]):Bool × Bool × HL [.int .i64,.int .i64,(.fl (.int .i64)),(.fl (.int .i64)),(.fl (.int .i64))] × HL [.bool,.int .i64,.int .i64,(.fl (.int .i64)),(.fl (.int .i64)),(.fl (.int .i64)),.bool,.int .i64,(.fl (.int .i64)),(.fl (.int .i64)),(.fl (.int .i64))]:=
 let c4:=(decide (s0.1<(a2.length:Int)))
 let c6:=(Int.toNat s0.1)
 let c7:=(decide (c6<a2.length))
 let c15:=(span_Least_1_r ((a2[c6]?).getD ((0:Int),((0:Int),(0:Int)))) s0.2.1 s0.2.2.1 s0.2.2.2.1 s0.2.2.2.2.1)
 let c20:=c15.2.1
 let c25:=c15.2.2.1
 let c26:=c15.2.2.2.1
 let c27:=c15.2.2.2.2.1
 let c28:=c15.2.2.2.2.2
 ((cond c4 ((((decide ((0:Int)≤s0.1)) && c7) && c7) && c15.1) true),(c4 && (!c20)),((IntKind.i64.wrap (s0.1+(1:Int))),c25,c26,c27,c28,()),((c4 && c20),s0.1,c25,c26,c27,c28,(!c4),s0.2.1,s0.2.2.1,s0.2.2.2.1,s0.2.2.2.2.1,()))
noncomputable def slices_IndexFunc_api_Edge_r (a1:Unit) (a2:(List (Int × (Int × Int)))) (a3:Int) (a4:(List Int)) (a5:(List Int)) (a6:(List Int)):Bool × (Int × Int × (List Int) × (List Int) × (List Int)):=
 let c36:=(loopD 0 [.int .i64,.int .i64,(.fl (.int .i64)),(.fl (.int .i64)),(.fl (.int .i64))] [.bool,.int .i64,.int .i64,(.fl (.int .i64)),(.fl (.int .i64)),(.fl (.int .i64)),.bool,.int .i64,(.fl (.int .i64)),(.fl (.int .i64)),(.fl (.int .i64))] (slices_IndexFunc_api_Edge_l0 a1 a2 a3 a4 a5 a6) ((0:Int),a3,a4,a5,a6,()))
 let c38:=c36.2.2.2.2.2.2.2.1
 (c36.1,((cond c38 (-1:Int) c36.2.2.1),(cond c38 c36.2.2.2.2.2.2.2.2.1 c36.2.2.2.1),(cond c38 c36.2.2.2.2.2.2.2.2.2.1 c36.2.2.2.2.1),(cond c38 c36.2.2.2.2.2.2.2.2.2.2.1 c36.2.2.2.2.2.1),(cond c38 c36.2.2.2.2.2.2.2.2.2.2.2.1 c36.2.2.2.2.2.2.1)))
def slices_IndexFunc_api_Edge_e:Ent:=⟨124,[(0,(.arr (.row (.prod (.int .i64) (.prod (.int .i64) (.int .i64)))) [] false)),(1,(.var 125 (.ptr 2 []))),(2,(.var 161 (.row (.pair (.own 3 1) (.pair (.own 4 1) (.pair (.own 5 1) (.pure (.int .i64) (Ty.dflt _)))))))),(3,(.arr (.int .i64) [] false)),(4,(.arr (.int .i64) [] false)),(5,(.arr (.int .i64) [] false))],[(.own 0 3),(.fn 91 (.pair (.ptr 1 []) (.pure .unit (Ty.dflt _))))],[(2,(.var 161 (.row (.pair (.own 3 1) (.pair (.own 4 1) (.pair (.own 5 1) (.pure (.int .i64) (Ty.dflt _)))))))),(3,(.arr (.int .i64) [] false)),(4,(.arr (.int .i64) [] false)),(5,(.arr (.int .i64) [] false))],[(.pure (.int .i64) (Ty.dflt _))],[0,1]⟩
noncomputable def slices_IndexFunc_api_Edge:Fun:=⟨slices_IndexFunc_api_Edge_e,fun x=>let r:=slices_IndexFunc_api_Edge_r x.1 x.2.1 x.2.2.1 x.2.2.2.1 x.2.2.2.2.1 x.2.2.2.2.2.1; (r.1,(r.2.1,r.2.2.1,r.2.2.2.1,r.2.2.2.2.1,r.2.2.2.2.2,()))⟩
theorem slices_IndexFunc_api_Edge_ev:evFun Try.prog [span_Least_1] [⟨[8],[2,3,4,5],⟨[],[],0⟩,[],[],[(1,[4]),(2,[])],[]⟩,⟨[],[],⟨[],[],0⟩,[],[],[],[(1000003,([8],[]))]⟩] Try.f124 (codeOf Try.f124) slices_IndexFunc_api_Edge_e=(slices_IndexFunc_api_Edge).fn:=by kernel_rfl
theorem slices_IndexFunc_api_Edge_ok:FunOk Try.prog (slices_IndexFunc_api_Edge):=fun_ok (opers_ok (oks_cons span_Least_1_ok oks_nil)) Try.call124 Try.func124 (by kernel_rfl) fun x _=>(congrFun (slices_IndexFunc_api_Edge_ev) x).symm
noncomputable def slices_DeleteFunc_api_Edge_l0 (a1:Unit) (a2:(List (Int × (Int × Int)))) (a3:Int) (a4:(List Int)) (a5:(List Int)) (a6:(List Int)) (s0:HL [.int .i64,.int .i64,(.fl (.row (.prod (.int .i64) (.prod (.int .i64) (.int .i64))))),.int .i64,(.fl (.int .i64)),(.fl (.int .i64)),(.fl (.int .i64))]):Bool × Bool × HL [.int .i64,.int .i64,(.fl (.row (.prod (.int .i64) (.prod (.int .i64) (.int .i64))))),.int .i64,(.fl (.int .i64)),(.fl (.int .i64)),(.fl (.int .i64))] × HL [.bool,.int .i64,(.fl (.row (.prod (.int .i64) (.prod (.int .i64) (.int .i64))))),.int .i64,(.fl (.int .i64)),(.fl (.int .i64)),(.fl (.int .i64))]:=
 let c16:=(decide (s0.1<(s0.2.2.1.length:Int)))
 let c18:=(Int.toNat s0.1)
 let c19:=(decide (c18<s0.2.2.1.length))
 let c22:=((s0.2.2.1[c18]?).getD ((0:Int),((0:Int),(0:Int))))
 let c27:=(span_Least_1_r c22 s0.2.2.2.1 s0.2.2.2.2.1 s0.2.2.2.2.2.1 s0.2.2.2.2.2.2.1)
 let c30:=(!c27.2.1)
 let c33:=(Int.toNat s0.2.1)
 let c34:=(decide (c33<s0.2.2.1.length))
 ((cond c16 ((((decide ((0:Int)≤s0.1)) && c19) && c19) && (c27.1 && (cond c30 (((decide ((0:Int)≤s0.2.1)) && c34) && c34) true))) true),c16,((IntKind.i64.wrap (s0.1+(1:Int))),(cond c30 (IntKind.i64.wrap (s0.2.1+(1:Int))) s0.2.1),(cond c30 (s0.2.2.1.set c33 c22) s0.2.2.1),c27.2.2.1,c27.2.2.2.1,c27.2.2.2.2.1,c27.2.2.2.2.2,()),((!c16),s0.2.1,s0.2.2.1,s0.2.2.2.1,s0.2.2.2.2.1,s0.2.2.2.2.2.1,s0.2.2.2.2.2.2.1,()))
noncomputable def slices_DeleteFunc_api_Edge_r (a1:Unit) (a2:(List (Int × (Int × Int)))) (a3:Int) (a4:(List Int)) (a5:(List Int)) (a6:(List Int)):Bool × (Nat × Nat × (List (Int × (Int × Int))) × Int × (List Int) × (List Int) × (List Int)):=
 let c6:=(slices_IndexFunc_api_Edge_r a1 a2 a3 a4 a5 a6)
 let c8:=c6.2.1
 let c11:=(!(c8==(-1:Int)))
 let c54:=c6.2.2.1
 let c55:=c6.2.2.2.1
 let c56:=c6.2.2.2.2.1
 let c57:=c6.2.2.2.2.2
 let c58:=(loopD 0 [.int .i64,.int .i64,(.fl (.row (.prod (.int .i64) (.prod (.int .i64) (.int .i64))))),.int .i64,(.fl (.int .i64)),(.fl (.int .i64)),(.fl (.int .i64))] [.bool,.int .i64,(.fl (.row (.prod (.int .i64) (.prod (.int .i64) (.int .i64))))),.int .i64,(.fl (.int .i64)),(.fl (.int .i64)),(.fl (.int .i64))] (slices_DeleteFunc_api_Edge_l0 a1 a2 a3 a4 a5 a6) ((IntKind.i64.wrap (c8+(1:Int))),c8,a2,c54,c55,c56,c57,()))
 let c60:=c58.2.2.1
 let c61:=(decide ((0:Int)≤c60))
 let c62:=(Int.toNat c60)
 let c63:=c58.2.2.2.1
 let c64:=c63.length
 let c72:=(c63.take c62++((List.replicate (c64 - c62) ((0:Int),((0:Int),(0:Int))))++c63.drop (c62+(List.replicate (c64 - c62) ((0:Int),((0:Int),(0:Int)))).length)))
 ((c6.1 && (cond c11 (c58.1 && ((c61 && (decide (c62≤c64))) && (c61 && (decide (c62≤c72.length))))) true)),((cond c11 0 0),(cond c11 c62 a2.length),(cond c11 c72 a2),(cond c11 c58.2.2.2.2.1 c54),(cond c11 c58.2.2.2.2.2.1 c55),(cond c11 c58.2.2.2.2.2.2.1 c56),(cond c11 c58.2.2.2.2.2.2.2.1 c57)))
def slices_DeleteFunc_api_Edge_e:Ent:=⟨90,[(0,(.arr (.row (.prod (.int .i64) (.prod (.int .i64) (.int .i64)))) [] false)),(1,(.var 125 (.ptr 2 []))),(2,(.var 161 (.row (.pair (.own 3 1) (.pair (.own 4 1) (.pair (.own 5 1) (.pure (.int .i64) (Ty.dflt _)))))))),(3,(.arr (.int .i64) [] false)),(4,(.arr (.int .i64) [] false)),(5,(.arr (.int .i64) [] false))],[(.own 0 3),(.fn 91 (.pair (.ptr 1 []) (.pure .unit (Ty.dflt _))))],[(0,(.arr (.row (.prod (.int .i64) (.prod (.int .i64) (.int .i64)))) [] false)),(2,(.var 161 (.row (.pair (.own 3 1) (.pair (.own 4 1) (.pair (.own 5 1) (.pure (.int .i64) (Ty.dflt _)))))))),(3,(.arr (.int .i64) [] false)),(4,(.arr (.int .i64) [] false)),(5,(.arr (.int .i64) [] false))],[(.sref 0 3 0 0)],[1]⟩
noncomputable def slices_DeleteFunc_api_Edge:Fun:=⟨slices_DeleteFunc_api_Edge_e,fun x=>let r:=slices_DeleteFunc_api_Edge_r x.1 x.2.1 x.2.2.1 x.2.2.2.1 x.2.2.2.2.1 x.2.2.2.2.2.1; (r.1,(r.2.1,r.2.2.1,r.2.2.2.1,r.2.2.2.2.1,r.2.2.2.2.2.1,r.2.2.2.2.2.2.1,r.2.2.2.2.2.2.2,()))⟩
theorem slices_DeleteFunc_api_Edge_ev:evFun Try.prog [slices_IndexFunc_api_Edge,span_Least_1] [⟨[6,5],[0,2,3,4,5],⟨[],[],0⟩,[],[],[(1,[]),(2,[5])],[]⟩,⟨[],[],⟨[],[],0⟩,[],[],[],[(1000003,([5,6],[]))]⟩] Try.f90 (codeOf Try.f90) slices_DeleteFunc_api_Edge_e=(slices_DeleteFunc_api_Edge).fn:=by kernel_rfl
theorem slices_DeleteFunc_api_Edge_ok:FunOk Try.prog (slices_DeleteFunc_api_Edge):=fun_ok (opers_ok (oks_cons slices_IndexFunc_api_Edge_ok (oks_cons span_Least_1_ok oks_nil))) Try.call90 Try.func90 (by kernel_rfl) fun x _=>(congrFun (slices_DeleteFunc_api_Edge_ev) x).symm
noncomputable def span_Least_r (a1:(List (Int × (Int × Int)))):Bool × (Nat × Nat × Int × (List (Int × (Int × Int)))):=
 let c1:=(edge_Sort_r a1)
 let c3:=c1.2.1
 let c6:=(!(c3 !=(0:Int)))
 let c7:=(span_sets_r)
 let c15:=(slices_DeleteFunc_api_Edge_r () c1.2.2 c7.2.1 c7.2.2.1 c7.2.2.2.1 c7.2.2.2.2)
 ((c1.1 && (cond c6 (c7.1 && c15.1) true)),((cond c6 c15.2.1 0),(cond c6 c15.2.2.1 0),(cond c6 (0:Int) c3),(cond c6 c15.2.2.2.1 ([]:List (Int × (Int × Int))))))
def span_Least_e:Ent:=⟨46,[],[(.pure (.fl (.row (.prod (.int .i64) (.prod (.int .i64) (.int .i64))))) (Ty.dflt _))],[(0,(.arr (.row (.prod (.int .i64) (.prod (.int .i64) (.int .i64)))) [] false))],[(.sref 0 3 0 0),(.pure (.int .i64) (Ty.dflt _))],[]⟩
noncomputable def span_Least:Fun:=⟨span_Least_e,fun x=>let r:=span_Least_r x.1; (r.1,(r.2.1,r.2.2.1,r.2.2.2.1,r.2.2.2.2,()))⟩
theorem span_Least_ev:evFun Try.prog [edge_Sort,span_sets,slices_DeleteFunc_api_Edge] [⟨[],[],⟨[],[],0⟩,[],[],[],[(1000003,([0],[]))]⟩] Try.f46 (codeOf Try.f46) span_Least_e=(span_Least).fn:=by kernel_rfl
theorem span_Least_ok:FunOk Try.prog (span_Least):=fun_ok (opers_ok (oks_cons edge_Sort_ok (oks_cons span_sets_ok (oks_cons slices_DeleteFunc_api_Edge_ok oks_nil)))) Try.call46 Try.func46 (by kernel_rfl) fun x _=>(congrFun (span_Least_ev) x).symm
noncomputable def withyref05_Same_l0 (a1:(List (Int × (Int × Int)))) (a2:(List (Int × (Int × Int)))) (s0:HL [.int .i64]):Bool × Bool × HL [.int .i64] × HL [.bool,.bool,.bool]:=
 let c9:=(decide (s0.1<(a1.length:Int)))
 let c10:=(decide ((0:Int)≤s0.1))
 let c11:=(Int.toNat s0.1)
 let c12:=(decide (c11<a1.length))
 let c15:=(decide (c11<a2.length))
 let c21:=((a1[c11]?).getD ((0:Int),((0:Int),(0:Int))))
 let c23:=((a2[c11]?).getD ((0:Int),((0:Int),(0:Int))))
 let c26:=c21.2
 let c28:=c23.2
 let c36:=(!((c21.1==c23.1) && ((c26.1==c28.1) && (c26.2==c28.2))))
 ((cond c9 ((((c10 && c12) && c12) && (c10 && c15)) && c15) true),(c9 && (!c36)),((IntKind.i64.wrap (s0.1+(1:Int))),()),((c9 && c36),false,(!c9),()))
noncomputable def withyref05_Same_r (a1:(List (Int × (Int × Int)))) (a2:(List (Int × (Int × Int)))):Bool × (Bool):=
 let c7:=(!((a1.length:Int) !=(a2.length:Int)))
 let c45:=(loopD 0 [.int .i64] [.bool,.bool,.bool] (withyref05_Same_l0 a1 a2) ((0:Int),()))
 ((cond c7 c45.1 true),((cond c7 (cond c45.2.2.2.1 true c45.2.2.1) false)))
def withyref05_Same_e:Ent:=⟨43,[],[(.pure (.fl (.row (.prod (.int .i64) (.prod (.int .i64) (.int .i64))))) (Ty.dflt _)),(.pure (.fl (.row (.prod (.int .i64) (.prod (.int .i64) (.int .i64))))) (Ty.dflt _))],[],[(.pure .bool (Ty.dflt _))],[]⟩
noncomputable def withyref05_Same:Fun:=⟨withyref05_Same_e,fun x=>let r:=withyref05_Same_r x.1 x.2.1; (r.1,(r.2,()))⟩
theorem withyref05_Same_ev:evFun Try.prog [] [⟨[5],[],⟨[],[],0⟩,[],[],[(1,[4]),(2,[])],[]⟩,⟨[],[],⟨[],[],0⟩,[],[],[],[(1000003,([5],[]))]⟩] Try.f43 (codeOf Try.f43) withyref05_Same_e=(withyref05_Same).fn:=by kernel_rfl
theorem withyref05_Same_ok:FunOk Try.prog (withyref05_Same):=fun_ok (opers_ok oks_nil) Try.call43 Try.func43 (by kernel_rfl) fun x _=>(congrFun (withyref05_Same_ev) x).symm
noncomputable def span_Forest_1_r (a1:(Int × (Int × Int))) (a2:Int) (a3:(List Int)) (a4:(List Int)) (a5:(List Int)):Bool × (Bool × Int × (List Int) × (List Int) × (List Int)):=
 let c8:=(join_Join__Unite_r a1.1 a1.2.1 a2 a3 a4 a5)
 (c8.1,((!c8.2.1),c8.2.2.1,c8.2.2.2.1,c8.2.2.2.2.1,c8.2.2.2.2.2))
def span_Forest_1_e:Ent:=⟨96,[(0,(.var 125 (.ptr 1 []))),(1,(.var 161 (.row (.pair (.own 2 1) (.pair (.own 3 1) (.pair (.own 4 1) (.pure (.int .i64) (Ty.dflt _)))))))),(2,(.arr (.int .i64) [] false)),(3,(.arr (.int .i64) [] false)),(4,(.arr (.int .i64) [] false))],[(.pure (.row (.prod (.int .i64) (.prod (.int .i64) (.int .i64)))) (Ty.dflt _)),(.ptr 0 [])],[(1,(.var 161 (.row (.pair (.own 2 1) (.pair (.own 3 1) (.pair (.own 4 1) (.pure (.int .i64) (Ty.dflt _)))))))),(2,(.arr (.int .i64) [] false)),(3,(.arr (.int .i64) [] false)),(4,(.arr (.int .i64) [] false))],[(.pure .bool (Ty.dflt _))],[0]⟩
noncomputable def span_Forest_1:Fun:=⟨span_Forest_1_e,fun x=>let r:=span_Forest_1_r x.1 x.2.1 x.2.2.1 x.2.2.2.1 x.2.2.2.2.1; (r.1,(r.2.1,r.2.2.1,r.2.2.2.1,r.2.2.2.2.1,r.2.2.2.2.2,()))⟩
theorem span_Forest_1_ev:evFun Try.prog [join_Join__Unite] [] Try.f96 (codeOf Try.f96) span_Forest_1_e=(span_Forest_1).fn:=by kernel_rfl
theorem span_Forest_1_ok:FunOk Try.prog (span_Forest_1):=fun_ok (opers_ok (oks_cons join_Join__Unite_ok oks_nil)) Try.call96 Try.func96 (by kernel_rfl) fun x _=>(congrFun (span_Forest_1_ev) x).symm
noncomputable def slices_IndexFunc_api_Edge_2_l0 (a1:(List (Int × (Int × Int)))) (a2:Unit) (a3:Int) (a4:(List Int)) (a5:(List Int)) (a6:(List Int)) (s0:HL [.int .i64,.int .i64,(.fl (.int .i64)),(.fl (.int .i64)),(.fl (.int .i64))]):Bool × Bool × HL [.int .i64,.int .i64,(.fl (.int .i64)),(.fl (.int .i64)),(.fl (.int .i64))] × HL [.bool,.int .i64,.int .i64,(.fl (.int .i64)),(.fl (.int .i64)),(.fl (.int .i64)),.bool,.int .i64,(.fl (.int .i64)),(.fl (.int .i64)),(.fl (.int .i64))]:=
 let c4:=(decide (s0.1<(a1.length:Int)))
 let c6:=(Int.toNat s0.1)
 let c7:=(decide (c6<a1.length))
 let c15:=(span_Forest_1_r ((a1[c6]?).getD ((0:Int),((0:Int),(0:Int)))) s0.2.1 s0.2.2.1 s0.2.2.2.1 s0.2.2.2.2.1)
 let c20:=c15.2.1
 let c25:=c15.2.2.1
 let c26:=c15.2.2.2.1
 let c27:=c15.2.2.2.2.1
 let c28:=c15.2.2.2.2.2
 ((cond c4 ((((decide ((0:Int)≤s0.1)) && c7) && c7) && c15.1) true),(c4 && (!c20)),((IntKind.i64.wrap (s0.1+(1:Int))),c25,c26,c27,c28,()),((c4 && c20),s0.1,c25,c26,c27,c28,(!c4),s0.2.1,s0.2.2.1,s0.2.2.2.1,s0.2.2.2.2.1,()))
noncomputable def slices_IndexFunc_api_Edge_2_r (a1:(List (Int × (Int × Int)))) (a2:Unit) (a3:Int) (a4:(List Int)) (a5:(List Int)) (a6:(List Int)):Bool × (Int × Int × (List Int) × (List Int) × (List Int)):=
 let c36:=(loopD 0 [.int .i64,.int .i64,(.fl (.int .i64)),(.fl (.int .i64)),(.fl (.int .i64))] [.bool,.int .i64,.int .i64,(.fl (.int .i64)),(.fl (.int .i64)),(.fl (.int .i64)),.bool,.int .i64,(.fl (.int .i64)),(.fl (.int .i64)),(.fl (.int .i64))] (slices_IndexFunc_api_Edge_2_l0 a1 a2 a3 a4 a5 a6) ((0:Int),a3,a4,a5,a6,()))
 let c38:=c36.2.2.2.2.2.2.2.1
 (c36.1,((cond c38 (-1:Int) c36.2.2.1),(cond c38 c36.2.2.2.2.2.2.2.2.1 c36.2.2.2.1),(cond c38 c36.2.2.2.2.2.2.2.2.2.1 c36.2.2.2.2.1),(cond c38 c36.2.2.2.2.2.2.2.2.2.2.1 c36.2.2.2.2.2.1),(cond c38 c36.2.2.2.2.2.2.2.2.2.2.2.1 c36.2.2.2.2.2.2.1)))
def slices_IndexFunc_api_Edge_2_e:Ent:=⟨124,[(0,(.var 125 (.ptr 1 []))),(1,(.var 161 (.row (.pair (.own 2 1) (.pair (.own 3 1) (.pair (.own 4 1) (.pure (.int .i64) (Ty.dflt _)))))))),(2,(.arr (.int .i64) [] false)),(3,(.arr (.int .i64) [] false)),(4,(.arr (.int .i64) [] false))],[(.pure (.fl (.row (.prod (.int .i64) (.prod (.int .i64) (.int .i64))))) (Ty.dflt _)),(.fn 96 (.pair (.ptr 0 []) (.pure .unit (Ty.dflt _))))],[(1,(.var 161 (.row (.pair (.own 2 1) (.pair (.own 3 1) (.pair (.own 4 1) (.pure (.int .i64) (Ty.dflt _)))))))),(2,(.arr (.int .i64) [] false)),(3,(.arr (.int .i64) [] false)),(4,(.arr (.int .i64) [] false))],[(.pure (.int .i64) (Ty.dflt _))],[0]⟩
noncomputable def slices_IndexFunc_api_Edge_2:Fun:=⟨slices_IndexFunc_api_Edge_2_e,fun x=>let r:=slices_IndexFunc_api_Edge_2_r x.1 x.2.1 x.2.2.1 x.2.2.2.1 x.2.2.2.2.1 x.2.2.2.2.2.1; (r.1,(r.2.1,r.2.2.1,r.2.2.2.1,r.2.2.2.2.1,r.2.2.2.2.2,()))⟩
theorem slices_IndexFunc_api_Edge_2_ev:evFun Try.prog [span_Forest_1] [⟨[8],[1,2,3,4],⟨[],[],0⟩,[],[],[(1,[4]),(2,[])],[]⟩,⟨[],[],⟨[],[],0⟩,[],[],[],[(1000003,([8],[]))]⟩] Try.f124 (codeOf Try.f124) slices_IndexFunc_api_Edge_2_e=(slices_IndexFunc_api_Edge_2).fn:=by kernel_rfl
theorem slices_IndexFunc_api_Edge_2_ok:FunOk Try.prog (slices_IndexFunc_api_Edge_2):=fun_ok (opers_ok (oks_cons span_Forest_1_ok oks_nil)) Try.call124 Try.func124 (by kernel_rfl) fun x _=>(congrFun (slices_IndexFunc_api_Edge_2_ev) x).symm
noncomputable def slices_ContainsFunc_api_Edge_r (a1:(List (Int × (Int × Int)))) (a2:Unit) (a3:Int) (a4:(List Int)) (a5:(List Int)) (a6:(List Int)):Bool × (Bool × Int × (List Int) × (List Int) × (List Int)):=
 let c6:=(slices_IndexFunc_api_Edge_2_r a1 a2 a3 a4 a5 a6)
 (c6.1,((decide (c6.2.1≥(0:Int))),c6.2.2.1,c6.2.2.2.1,c6.2.2.2.2.1,c6.2.2.2.2.2))
def slices_ContainsFunc_api_Edge_e:Ent:=⟨95,[(0,(.var 125 (.ptr 1 []))),(1,(.var 161 (.row (.pair (.own 2 1) (.pair (.own 3 1) (.pair (.own 4 1) (.pure (.int .i64) (Ty.dflt _)))))))),(2,(.arr (.int .i64) [] false)),(3,(.arr (.int .i64) [] false)),(4,(.arr (.int .i64) [] false))],[(.pure (.fl (.row (.prod (.int .i64) (.prod (.int .i64) (.int .i64))))) (Ty.dflt _)),(.fn 96 (.pair (.ptr 0 []) (.pure .unit (Ty.dflt _))))],[(1,(.var 161 (.row (.pair (.own 2 1) (.pair (.own 3 1) (.pair (.own 4 1) (.pure (.int .i64) (Ty.dflt _)))))))),(2,(.arr (.int .i64) [] false)),(3,(.arr (.int .i64) [] false)),(4,(.arr (.int .i64) [] false))],[(.pure .bool (Ty.dflt _))],[0]⟩
noncomputable def slices_ContainsFunc_api_Edge:Fun:=⟨slices_ContainsFunc_api_Edge_e,fun x=>let r:=slices_ContainsFunc_api_Edge_r x.1 x.2.1 x.2.2.1 x.2.2.2.1 x.2.2.2.2.1 x.2.2.2.2.2.1; (r.1,(r.2.1,r.2.2.1,r.2.2.2.1,r.2.2.2.2.1,r.2.2.2.2.2,()))⟩
theorem slices_ContainsFunc_api_Edge_ev:evFun Try.prog [slices_IndexFunc_api_Edge_2] [] Try.f95 (codeOf Try.f95) slices_ContainsFunc_api_Edge_e=(slices_ContainsFunc_api_Edge).fn:=by kernel_rfl
theorem slices_ContainsFunc_api_Edge_ok:FunOk Try.prog (slices_ContainsFunc_api_Edge):=fun_ok (opers_ok (oks_cons slices_IndexFunc_api_Edge_2_ok oks_nil)) Try.call95 Try.func95 (by kernel_rfl) fun x _=>(congrFun (slices_ContainsFunc_api_Edge_ev) x).symm
noncomputable def span_Forest_r (a1:(List (Int × (Int × Int)))):Bool × (Bool):=
 let c0:=(span_sets_r)
 let c3:=(edge_CheckAll_r a1)
 let c7:=(c3.2==(0:Int))
 let c14:=(slices_ContainsFunc_api_Edge_r a1 () c0.2.1 c0.2.2.1 c0.2.2.2.1 c0.2.2.2.2)
 let c20:=(cond c7 c7 true)
 ((c0.1 && (((c3.1 && (cond c7 ((c7 && c7) && c14.1) true)) && c20) && c20)),((cond c7 (!c14.2.1) false)))
def span_Forest_e:Ent:=⟨52,[],[(.pure (.fl (.row (.prod (.int .i64) (.prod (.int .i64) (.int .i64))))) (Ty.dflt _))],[],[(.pure .bool (Ty.dflt _))],[]⟩
noncomputable def span_Forest:Fun:=⟨span_Forest_e,fun x=>let r:=span_Forest_r x.1; (r.1,(r.2,()))⟩
theorem span_Forest_ev:evFun Try.prog [span_sets,edge_CheckAll,slices_ContainsFunc_api_Edge] [] Try.f52 (codeOf Try.f52) span_Forest_e=(span_Forest).fn:=by kernel_rfl
theorem span_Forest_ok:FunOk Try.prog (span_Forest):=fun_ok (opers_ok (oks_cons span_sets_ok (oks_cons edge_CheckAll_ok (oks_cons slices_ContainsFunc_api_Edge_ok oks_nil)))) Try.call52 Try.func52 (by kernel_rfl) fun x _=>(congrFun (span_Forest_ev) x).symm
noncomputable def span_united_l0 (a1:(List (Int × (Int × Int)))) (s0:HL [.int .i64,.int .i64,(.fl (.int .i64)),(.fl (.int .i64)),(.fl (.int .i64))]):Bool × Bool × HL [.int .i64,.int .i64,(.fl (.int .i64)),(.fl (.int .i64)),(.fl (.int .i64))] × HL [.bool,.int .i64,(.fl (.int .i64)),(.fl (.int .i64)),(.fl (.int .i64))]:=
 let c6:=(decide (s0.1<(a1.length:Int)))
 let c8:=(Int.toNat s0.1)
 let c9:=(decide (c8<a1.length))
 let c12:=((a1[c8]?).getD ((0:Int),((0:Int),(0:Int))))
 let c20:=(join_Join__Unite_r c12.1 c12.2.1 s0.2.1 s0.2.2.1 s0.2.2.2.1 s0.2.2.2.2.1)
 ((cond c6 ((((decide ((0:Int)≤s0.1)) && c9) && c9) && c20.1) true),c6,((IntKind.i64.wrap (s0.1+(1:Int))),c20.2.2.1,c20.2.2.2.1,c20.2.2.2.2.1,c20.2.2.2.2.2,()),((!c6),s0.2.1,s0.2.2.1,s0.2.2.2.1,s0.2.2.2.2.1,()))
noncomputable def span_united_r (a1:(List (Int × (Int × Int)))):Bool × (Int × (List Int) × (List Int) × (List Int)):=
 let c0:=(span_sets_r)
 let c37:=(loopD 0 [.int .i64,.int .i64,(.fl (.int .i64)),(.fl (.int .i64)),(.fl (.int .i64))] [.bool,.int .i64,(.fl (.int .i64)),(.fl (.int .i64)),(.fl (.int .i64))] (span_united_l0 a1) ((0:Int),c0.2.1,c0.2.2.1,c0.2.2.2.1,c0.2.2.2.2,()))
 ((c0.1 && c37.1),(c37.2.2.1,c37.2.2.2.1,c37.2.2.2.2.1,c37.2.2.2.2.2.1))
def span_united_e:Ent:=⟨121,[],[(.pure (.fl (.row (.prod (.int .i64) (.prod (.int .i64) (.int .i64))))) (Ty.dflt _))],[(0,(.var 161 (.row (.pair (.own 1 1) (.pair (.own 2 1) (.pair (.own 3 1) (.pure (.int .i64) (Ty.dflt _)))))))),(1,(.arr (.int .i64) [] false)),(2,(.arr (.int .i64) [] false)),(3,(.arr (.int .i64) [] false))],[(.ptr 0 [])],[]⟩
noncomputable def span_united:Fun:=⟨span_united_e,fun x=>let r:=span_united_r x.1; (r.1,(r.2.1,r.2.2.1,r.2.2.2.1,r.2.2.2.2,()))⟩
theorem span_united_ev:evFun Try.prog [span_sets,join_Join__Unite] [⟨[9],[64,65,66,67],⟨[],[],0⟩,[],[],[(1,[]),(2,[])],[]⟩] Try.f121 (codeOf Try.f121) span_united_e=(span_united).fn:=by kernel_rfl
theorem span_united_ok:FunOk Try.prog (span_united):=fun_ok (opers_ok (oks_cons span_sets_ok (oks_cons join_Join__Unite_ok oks_nil))) Try.call121 Try.func121 (by kernel_rfl) fun x _=>(congrFun (span_united_ev) x).symm
noncomputable def join_Join__Same_r (a1:Int) (a2:Int) (a3:Int) (a4:(List Int)) (a5:(List Int)) (a6:(List Int)):Bool × (Bool × (List Int)):=
 let c5:=(join_Join__has_r a1 a3 a4 a5 a6)
 let c7:=c5.2
 let c10:=(join_Join__has_r a2 a3 a4 a5 a6)
 let c20:=(cond c7 c10.2 false)
 let c21:=(c20 && c20)
 let c22:=(join_Join__top_r a1 a3 a4 a5 a6)
 let c28:=(cond c20 c22.2.2 a4)
 let c29:=(join_Join__top_r a2 a3 c28 a5 a6)
 (((((((c5.1 && (cond c7 ((c7 && c7) && c10.1) true)) && (cond c7 c7 true)) && (cond c20 (c21 && c22.1) true)) && (cond c20 (c21 && c29.1) true)) && (cond c20 c21 true)) && (cond c20 c20 true)),((cond c20 (c22.2.1==c29.2.1) false),(cond c20 c29.2.2 c28)))
def join_Join__Same_e:Ent:=⟨122,[(0,(.var 161 (.row (.pair (.own 1 1) (.pair (.own 2 1) (.pair (.own 3 1) (.pure (.int .i64) (Ty.dflt _)))))))),(1,(.arr (.int .i64) [] false)),(2,(.arr (.int .i64) [] false)),(3,(.arr (.int .i64) [] false))],[(.ptr 0 []),(.pure (.int .i64) (Ty.dflt _)),(.pure (.int .i64) (Ty.dflt _))],[(1,(.arr (.int .i64) [] false))],[(.pure .bool (Ty.dflt _))],[0,2,3]⟩
noncomputable def join_Join__Same:Fun:=⟨join_Join__Same_e,fun x=>let r:=join_Join__Same_r x.1 x.2.1 x.2.2.1 x.2.2.2.1 x.2.2.2.2.1 x.2.2.2.2.2.1; (r.1,(r.2.1,r.2.2,()))⟩
theorem join_Join__Same_ev:evFun Try.prog [join_Join__has,join_Join__top] [] Try.f122 (codeOf Try.f122) join_Join__Same_e=(join_Join__Same).fn:=by kernel_rfl
theorem join_Join__Same_ok:FunOk Try.prog (join_Join__Same):=fun_ok (opers_ok (oks_cons join_Join__has_ok (oks_cons join_Join__top_ok oks_nil))) Try.call122 Try.func122 (by kernel_rfl) fun x _=>(congrFun (join_Join__Same_ev) x).symm
noncomputable def span_Linked_r (a1:(List (Int × (Int × Int)))) (a2:Int) (a3:Int):Bool × (Bool):=
 let c1:=(edge_CheckAll_r a1)
 let c5:=(c1.2==(0:Int))
 let c6:=(span_united_r a1)
 let c13:=(c5 && (c5 && c5))
 let c21:=(join_Join__Same_r a2 a3 c6.2.1 c6.2.2.1 c6.2.2.2.1 c6.2.2.2.2)
 ((((c1.1 && (cond c5 (c5 && c6.1) true)) && (cond c5 ((c5 && c13) && (c13 && c21.1)) true)) && (cond c5 c5 true)),((cond c5 c21.2.1 false)))
def span_Linked_e:Ent:=⟨88,[],[(.pure (.fl (.row (.prod (.int .i64) (.prod (.int .i64) (.int .i64))))) (Ty.dflt _)),(.pure (.int .i64) (Ty.dflt _)),(.pure (.int .i64) (Ty.dflt _))],[],[(.pure .bool (Ty.dflt _))],[]⟩
noncomputable def span_Linked:Fun:=⟨span_Linked_e,fun x=>let r:=span_Linked_r x.1 x.2.1 x.2.2.1; (r.1,(r.2,()))⟩
theorem span_Linked_ev:evFun Try.prog [edge_CheckAll,span_united,join_Join__Same] [] Try.f88 (codeOf Try.f88) span_Linked_e=(span_Linked).fn:=by kernel_rfl
theorem span_Linked_ok:FunOk Try.prog (span_Linked):=fun_ok (opers_ok (oks_cons edge_CheckAll_ok (oks_cons span_united_ok (oks_cons join_Join__Same_ok oks_nil)))) Try.call88 Try.func88 (by kernel_rfl) fun x _=>(congrFun (span_Linked_ev) x).symm
noncomputable def withylaw07_awake_r:Bool × (Bool):=
 let c6:=((3:Int),(1:Int))
 let c7:=((2:Int),c6)
 let c8:=((1:Int),c6)
 let c13:=(span_Least_r (((1:Int),((2:Int),(5:Int)))::(c7::(c8::([]:List (Int × (Int × Int)))))))
 let c17:=(c13.2.2.2.1==(0:Int))
 let c18:=(c17 && c17)
 let c21:=c13.2.2.1
 let c22:=c13.2.1
 let c23:=c13.2.2.2.2
 let c28:=(withyref05_Same_r ((c23.drop c22).take c21) (c8::(c7::([]:List (Int × (Int × Int))))))
 let c38:=(cond c17 c28.2 false)
 let c41:=(((cond c17 c23 c23).drop c22).take c21)
 let c42:=(span_Forest_r c41)
 let c50:=(cond c38 c42.2 false)
 let c51:=(span_Linked_r c41 (1:Int) (2:Int))
 ((c13.1 && (((((((cond c17 c18 true) && (cond c17 (c17 && (c18 && c28.1)) true)) && (cond c17 c17 true)) && (cond c38 (c38 && c42.1) true)) && (cond c38 c38 true)) && (cond c50 (c50 && c51.1) true)) && (cond c50 c50 true))),((cond c50 c51.2 false)))
def withylaw07_awake_e:Ent:=⟨45,[],[],[],[(.pure .bool (Ty.dflt _))],[]⟩
noncomputable def withylaw07_awake:Fun:=⟨withylaw07_awake_e,fun x=>let r:=withylaw07_awake_r; (r.1,(r.2,()))⟩
theorem withylaw07_awake_ev:evFun Try.prog [span_Least,withyref05_Same,span_Forest,span_Linked] [] Try.f45 (codeOf Try.f45) withylaw07_awake_e=(withylaw07_awake).fn:=by kernel_rfl
theorem withylaw07_awake_ok:FunOk Try.prog (withylaw07_awake):=fun_ok (opers_ok (oks_cons span_Least_ok (oks_cons withyref05_Same_ok (oks_cons span_Forest_ok (oks_cons span_Linked_ok oks_nil))))) Try.call45 Try.func45 (by kernel_rfl) fun x _=>(congrFun (withylaw07_awake_ev) x).symm
noncomputable def withyref07_Reach_l1 (a1:(List (Int × (Int × Int)))) (a2:Int) (s1:HL [.int .i64,(.arr 65 .bool)]):Bool × Bool × HL [.int .i64,(.arr 65 .bool)] × HL [.bool,(.arr 65 .bool)]:=
 let c19:=(decide (s1.1<(a1.length:Int)))
 let c21:=(Int.toNat s1.1)
 let c22:=(decide (c21<a1.length))
 let c23:=((decide ((0:Int)≤s1.1)) && c22)
 let c24:=(c23 && c22)
 let c25:=((a1[c21]?).getD ((0:Int),((0:Int),(0:Int))))
 let c26:=c25.1
 let c28:=(Int.toNat c26)
 let c29:=(decide (c28<65))
 let c32:=((c24 && ((decide ((0:Int)≤c26)) && c29)) && c29)
 let c34:=(s1.2.1 c28)
 let c35:=(!c34)
 let c47:=c25.2.1
 let c49:=(Int.toNat c47)
 let c50:=(decide (c49<65))
 let c51:=((decide ((0:Int)≤c47)) && c50)
 let c61:=(cond c34 true (s1.2.1 c49))
 ((cond c19 (((((((c32 && (cond c35 (c35 && (c35 && c23)) true)) && (cond c35 c35 true)) && (cond c35 (c35 && c22) true)) && (cond c35 (c35 && c51) true)) && (cond c35 (c35 && c50) true)) && (cond c34 true c35)) && (cond c61 (c32 && ((c24 && c51) && c50)) true)) true),c19,((IntKind.i64.wrap (s1.1+(1:Int))),(cond c61 (fun j=>bif Nat.beq j c49 then true else (fun j=>bif Nat.beq j c28 then true else s1.2.1 j) j) s1.2.1),()),((!c19),s1.2.1,()))
noncomputable def withyref07_Reach_l0 (a1:(List (Int × (Int × Int)))) (a2:Int) (s0:HL [.int .i64,(.arr 65 .bool)]):Bool × Bool × HL [.int .i64,(.arr 65 .bool)] × HL [.bool,(.arr 65 .bool)]:=
 let c14:=(decide (s0.1<(64:Int)))
 let c76:=(loopD 1 [.int .i64,(.arr 65 .bool)] [.bool,(.arr 65 .bool)] (withyref07_Reach_l1 a1 a2) ((0:Int),s0.2.1,()))
 ((cond c14 c76.1 true),c14,((IntKind.i64.wrap (s0.1+(1:Int))),c76.2.2.1,()),((!c14),s0.2.1,()))
noncomputable def withyref07_Reach_r (a1:(List (Int × (Int × Int)))) (a2:Int):Bool × ((Nat→Bool)):=
 let c1:=(withyref05_Node_r a2)
 let c5:=(!(!c1.2))
 let c7:=(Int.toNat a2)
 let c9:=(decide (c7<65))
 let c83:=(fun i=>((([false,false,false,false,false,false,false,false,false,false,false,false,false,false,false,false,false,false,false,false,false,false,false,false,false,false,false,false,false,false,false,false,false,false,false,false,false,false,false,false,false,false,false,false,false,false,false,false,false,false,false,false,false,false,false,false,false,false,false,false,false,false,false,false,false]:List Bool)[i]?).getD false))
 let c85:=(loopD 0 [.int .i64,(.arr 65 .bool)] [.bool,(.arr 65 .bool)] (withyref07_Reach_l0 a1 a2) ((0:Int),(fun j=>bif Nat.beq j c7 then true else c83 j),()))
 ((c1.1 && (cond c5 ((((decide ((0:Int)≤a2)) && c9) && c9) && c85.1) true)),((cond c5 c85.2.2.1 c83)))
def withyref07_Reach_e:Ent:=⟨94,[],[(.pure (.fl (.row (.prod (.int .i64) (.prod (.int .i64) (.int .i64))))) (Ty.dflt _)),(.pure (.int .i64) (Ty.dflt _))],[],[(.pure (.arr 65 .bool) (Ty.dflt _))],[]⟩
noncomputable def withyref07_Reach:Fun:=⟨withyref07_Reach_e,fun x=>let r:=withyref07_Reach_r x.1 x.2.1; (r.1,(r.2,()))⟩
theorem withyref07_Reach_ev:evFun Try.prog [withyref05_Node] [⟨[6],[128],⟨[],[],0⟩,[],[],[(1,[]),(2,[])],[]⟩,⟨[7],[128],⟨[],[],0⟩,[],[],[(1,[]),(4,[])],[]⟩,⟨[],[],⟨[],[],0⟩,[],[],[],[(1000003,([6,7],[]))]⟩] Try.f94 (codeOf Try.f94) withyref07_Reach_e=(withyref07_Reach).fn:=by kernel_rfl
theorem withyref07_Reach_ok:FunOk Try.prog (withyref07_Reach):=fun_ok (opers_ok (oks_cons withyref05_Node_ok oks_nil)) Try.call94 Try.func94 (by kernel_rfl) fun x _=>(congrFun (withyref07_Reach_ev) x).symm
noncomputable def withyref07_Linked_r (a1:(List (Int × (Int × Int)))) (a2:Int) (a3:Int):Bool × (Bool):=
 let c1:=(withyref05_Node_r a2)
 let c3:=c1.2
 let c5:=(withyref05_Node_r a3)
 let c15:=(cond c3 c5.2 false)
 let c18:=(withyref07_Reach_r a1 a2)
 let c24:=(Int.toNat a3)
 let c26:=(decide (c24<65))
 ((((((c1.1 && (cond c3 (c3 && c5.1) true)) && (cond c3 c3 true)) && (cond c15 ((c15 && c15) && c18.1) true)) && (cond c15 (c15 && (c15 && (((decide ((0:Int)≤a3)) && c26) && c26))) true)) && (cond c15 c15 true)),((cond c15 (c18.2 c24) false)))
def withyref07_Linked_e:Ent:=⟨48,[],[(.pure (.fl (.row (.prod (.int .i64) (.prod (.int .i64) (.int .i64))))) (Ty.dflt _)),(.pure (.int .i64) (Ty.dflt _)),(.pure (.int .i64) (Ty.dflt _))],[],[(.pure .bool (Ty.dflt _))],[]⟩
noncomputable def withyref07_Linked:Fun:=⟨withyref07_Linked_e,fun x=>let r:=withyref07_Linked_r x.1 x.2.1 x.2.2.1; (r.1,(r.2,()))⟩
theorem withyref07_Linked_ev:evFun Try.prog [withyref05_Node,withyref07_Reach] [] Try.f48 (codeOf Try.f48) withyref07_Linked_e=(withyref07_Linked).fn:=by kernel_rfl
theorem withyref07_Linked_ok:FunOk Try.prog (withyref07_Linked):=fun_ok (opers_ok (oks_cons withyref05_Node_ok (oks_cons withyref07_Reach_ok oks_nil))) Try.call48 Try.func48 (by kernel_rfl) fun x _=>(congrFun (withyref07_Linked_ev) x).symm
noncomputable def withyref05_Less_r (a1:(Int × (Int × Int))) (a2:(Int × (Int × Int))):Bool × (Bool):=
 let c7:=(!(a1.2.2 !=a2.2.2))
 let c10:=(decide (a1.1<a2.1))
 let c11:=(!c10)
 let c13:=(cond c11 c11 true)
 let c15:=(c11 && c11)
 let c18:=(a1.1==a2.1)
 let c19:=(c15 && c18)
 let c20:=(cond c19 c19 true)
 ((cond c7 (((((((c13 && c13) && (cond c11 c15 true)) && c20) && c20) && (cond c19 (c19 && c19) true)) && (cond c11 (c15 && (cond c18 c19 true)) true)) && (cond c10 true c11)) true),((cond c7 (cond c10 true (cond c18 (decide (a1.2.1<a2.2.1)) false)) (decide (a1.2.2<a2.2.2)))))
def withyref05_Less_e:Ent:=⟨50,[],[(.pure (.row (.prod (.int .i64) (.prod (.int .i64) (.int .i64)))) (Ty.dflt _)),(.pure (.row (.prod (.int .i64) (.prod (.int .i64) (.int .i64)))) (Ty.dflt _))],[],[(.pure .bool (Ty.dflt _))],[]⟩
noncomputable def withyref05_Less:Fun:=⟨withyref05_Less_e,fun x=>let r:=withyref05_Less_r x.1 x.2.1; (r.1,(r.2,()))⟩
theorem withyref05_Less_ev:evFun Try.prog [] [] Try.f50 (codeOf Try.f50) withyref05_Less_e=(withyref05_Less).fn:=by kernel_rfl
theorem withyref05_Less_ok:FunOk Try.prog (withyref05_Less):=fun_ok (opers_ok oks_nil) Try.call50 Try.func50 (by kernel_rfl) fun x _=>(congrFun (withyref05_Less_ev) x).symm
noncomputable def withyref05_Sort_l1 (a1:(List (Int × (Int × Int)))) (s1:HL [.int .i64,(.fl (.row (.prod (.int .i64) (.prod (.int .i64) (.int .i64)))))]):Bool × Bool × HL [.int .i64,(.fl (.row (.prod (.int .i64) (.prod (.int .i64) (.int .i64)))))] × HL [.bool,(.fl (.row (.prod (.int .i64) (.prod (.int .i64) (.int .i64)))))]:=
 let c13:=(decide (s1.1>(0:Int)))
 let c15:=(Int.toNat s1.1)
 let c18:=(decide (c15<s1.2.1.length))
 let c19:=((decide ((0:Int)≤s1.1)) && c18)
 let c27:=(cond c13 c13 true)
 let c30:=(IntKind.i64.wrap (s1.1 - (1:Int)))
 let c31:=(decide ((0:Int)≤c30))
 let c32:=(Int.toNat c30)
 let c33:=(decide (c32<s1.2.1.length))
 let c34:=(c31 && c33)
 let c43:=((s1.2.1[c15]?).getD ((0:Int),((0:Int),(0:Int))))
 let c44:=((s1.2.1[c32]?).getD ((0:Int),((0:Int),(0:Int))))
 let c45:=(withyref05_Less_r c43 c44)
 let c53:=(cond c13 c45.2 false)
 let c58:=(s1.2.1.set c15 c44)
 let c60:=(decide (c32<c58.length))
 (((((((((cond c13 (c13 && (c13 && c19)) true) && (cond c13 (c13 && c18) true)) && c27) && (cond c13 (c13 && (c13 && c34)) true)) && (cond c13 (c13 && c33) true)) && (cond c13 ((c13 && c13) && c45.1) true)) && c27) && (cond c53 ((c19 && c18) && ((((c34 && c33) && c19) && c18) && ((c31 && c60) && c60))) true)),c53,(c30,(c58.set c32 c43),()),((!c53),s1.2.1,()))
noncomputable def withyref05_Sort_l0 (a1:(List (Int × (Int × Int)))) (s0:HL [.int .i64,(.fl (.row (.prod (.int .i64) (.prod (.int .i64) (.int .i64)))))]):Bool × Bool × HL [.int .i64,(.fl (.row (.prod (.int .i64) (.prod (.int .i64) (.int .i64)))))] × HL [.bool,(.fl (.row (.prod (.int .i64) (.prod (.int .i64) (.int .i64)))))]:=
 let c10:=(decide (s0.1<(s0.2.1.length:Int)))
 let c69:=(loopD 1 [.int .i64,(.fl (.row (.prod (.int .i64) (.prod (.int .i64) (.int .i64)))))] [.bool,(.fl (.row (.prod (.int .i64) (.prod (.int .i64) (.int .i64)))))] (withyref05_Sort_l1 a1) (s0.1,s0.2.1,()))
 ((cond c10 c69.1 true),c10,((IntKind.i64.wrap (s0.1+(1:Int))),c69.2.2.1,()),((!c10),s0.2.1,()))
noncomputable def withyref05_Sort_r (a1:(List (Int × (Int × Int)))):Bool × ((List (Int × (Int × Int)))):=
 let c76:=(loopD 0 [.int .i64,(.fl (.row (.prod (.int .i64) (.prod (.int .i64) (.int .i64)))))] [.bool,(.fl (.row (.prod (.int .i64) (.prod (.int .i64) (.int .i64)))))] (withyref05_Sort_l0 a1) ((0:Int),(([]:List (Int × (Int × Int)))++a1),()))
 (((decide ((([]:List (Int × (Int × Int))).length+a1.length)*24≤140737488355328)) && c76.1),(c76.2.2.1))
def withyref05_Sort_e:Ent:=⟨51,[],[(.pure (.fl (.row (.prod (.int .i64) (.prod (.int .i64) (.int .i64))))) (Ty.dflt _))],[(0,(.arr (.row (.prod (.int .i64) (.prod (.int .i64) (.int .i64)))) [] false))],[(.own 0 3)],[]⟩
noncomputable def withyref05_Sort:Fun:=⟨withyref05_Sort_e,fun x=>let r:=withyref05_Sort_r x.1; (r.1,(r.2,()))⟩
theorem withyref05_Sort_ev:evFun Try.prog [withyref05_Less] [⟨[4],[192],⟨[],[],0⟩,[],[],[(1,[]),(2,[])],[]⟩,⟨[5],[192],⟨[],[],0⟩,[],[],[(1,[]),(4,[])],[]⟩] Try.f51 (codeOf Try.f51) withyref05_Sort_e=(withyref05_Sort).fn:=by kernel_rfl
theorem withyref05_Sort_ok:FunOk Try.prog (withyref05_Sort):=fun_ok (opers_ok (oks_cons withyref05_Less_ok oks_nil)) Try.call51 Try.func51 (by kernel_rfl) fun x _=>(congrFun (withyref05_Sort_ev) x).symm
noncomputable def withyref05_Same_2_l0 (a1:(List (Int × (Int × Int)))) (a2:(List (Int × (Int × Int)))) (s0:HL [.int .i64]):Bool × Bool × HL [.int .i64] × HL [.bool,.bool,.bool]:=
 let c9:=(decide (s0.1<(a1.length:Int)))
 let c10:=(decide ((0:Int)≤s0.1))
 let c11:=(Int.toNat s0.1)
 let c12:=(decide (c11<a1.length))
 let c15:=(decide (c11<a2.length))
 let c21:=((a1[c11]?).getD ((0:Int),((0:Int),(0:Int))))
 let c23:=((a2[c11]?).getD ((0:Int),((0:Int),(0:Int))))
 let c26:=c21.2
 let c28:=c23.2
 let c36:=(!((c21.1==c23.1) && ((c26.1==c28.1) && (c26.2==c28.2))))
 ((cond c9 ((((c10 && c12) && c12) && (c10 && c15)) && c15) true),(c9 && (!c36)),((IntKind.i64.wrap (s0.1+(1:Int))),()),((c9 && c36),false,(!c9),()))
noncomputable def withyref05_Same_2_r (a1:(List (Int × (Int × Int)))) (a2:(List (Int × (Int × Int)))):Bool × (Bool):=
 let c7:=(!((a1.length:Int) !=(a2.length:Int)))
 let c45:=(loopD 0 [.int .i64] [.bool,.bool,.bool] (withyref05_Same_2_l0 a1 a2) ((0:Int),()))
 ((cond c7 c45.1 true),((cond c7 (cond c45.2.2.2.1 true c45.2.2.1) false)))
def withyref05_Same_2_e:Ent:=⟨43,[],[(.pure (.fl (.row (.prod (.int .i64) (.prod (.int .i64) (.int .i64))))) (Ty.dflt _)),(.pure (.fl (.row (.prod (.int .i64) (.prod (.int .i64) (.int .i64))))) (Ty.dflt _))],[],[(.pure .bool (Ty.dflt _))],[]⟩
noncomputable def withyref05_Same_2:Fun:=⟨withyref05_Same_2_e,fun x=>let r:=withyref05_Same_2_r x.1 x.2.1; (r.1,(r.2,()))⟩
theorem withyref05_Same_2_ev:evFun Try.prog [] [⟨[5],[],⟨[],[],0⟩,[],[],[(1,[4]),(2,[])],[]⟩,⟨[],[],⟨[],[],0⟩,[],[],[],[(1000003,([5],[]))]⟩] Try.f43 (codeOf Try.f43) withyref05_Same_2_e=(withyref05_Same_2).fn:=by kernel_rfl
theorem withyref05_Same_2_ok:FunOk Try.prog (withyref05_Same_2):=fun_ok (opers_ok oks_nil) Try.call43 Try.func43 (by kernel_rfl) fun x _=>(congrFun (withyref05_Same_2_ev) x).symm
noncomputable def withylaw07_SpanLoses_l0 (a1:(List (Int × (Int × Int)))) (a2:Int) (s0:HL [.int .i64,(.fl (.row (.prod (.int .i64) (.prod (.int .i64) (.int .i64)))))]):Bool × Bool × HL [.int .i64,(.fl (.row (.prod (.int .i64) (.prod (.int .i64) (.int .i64)))))] × HL [.bool,(.fl (.row (.prod (.int .i64) (.prod (.int .i64) (.int .i64)))))]:=
 let c24:=(span_Least_r a1)
 let c33:=c24.2.2.1
 let c34:=(c33:Int)
 let c47:=(Int.tmod (IntKind.i64.wrap (a2)) c34)
 let c49:=(Int.toNat c47)
 let c53:=c24.2.1
 let c54:=(c49+c53)
 let c55:=c24.2.2.2.2
 let c56:=c55.length
 let c60:=(decide (s0.1<c34))
 let c62:=(Int.toNat s0.1)
 let c65:=(c62+c53)
 let c67:=(((decide ((0:Int)≤s0.1)) && (decide (c62<c33))) && (decide (c65<c56)))
 let c68:=((c55[c65]?).getD ((0:Int),((0:Int),(0:Int))))
 let c70:=((c55[c54]?).getD ((0:Int),((0:Int),(0:Int))))
 let c71:=c70.1
 let c73:=c68.2
 let c75:=c70.2
 let c76:=c75.1
 let c79:=c75.2
 let c83:=(!((c68.1==c71) && ((c73.1==c76) && (c73.2==c79))))
 let c87:=(c68::([]:List (Int × (Int × Int))))
 ((cond c60 (c67 && (cond c83 (c67 && (decide ((s0.2.1.length+c87.length)*24≤140737488355328))) true)) true),c60,((IntKind.i64.wrap (s0.1+(1:Int))),(cond c83 (s0.2.1++c87) s0.2.1),()),((!c60),s0.2.1,()))
noncomputable def withylaw07_SpanLoses_l1 (a1:(List (Int × (Int × Int)))) (a2:Int) (s1:HL [.int .i64,.int .i64,(.fl (.row (.prod (.int .i64) (.prod (.int .i64) (.int .i64))))),(.fl (.row (.prod (.int .i64) (.prod (.int .i64) (.int .i64)))))]):Bool × Bool × HL [.int .i64,.int .i64,(.fl (.row (.prod (.int .i64) (.prod (.int .i64) (.int .i64))))),(.fl (.row (.prod (.int .i64) (.prod (.int .i64) (.int .i64)))))] × HL [.bool,.int .i64,(.fl (.row (.prod (.int .i64) (.prod (.int .i64) (.int .i64))))),(.fl (.row (.prod (.int .i64) (.prod (.int .i64) (.int .i64)))))]:=
 let c24:=(span_Least_r a1)
 let c33:=c24.2.2.1
 let c34:=(c33:Int)
 let c47:=(Int.tmod (IntKind.i64.wrap (a2)) c34)
 let c49:=(Int.toNat c47)
 let c53:=c24.2.1
 let c54:=(c49+c53)
 let c55:=c24.2.2.2.2
 let c70:=((c55[c54]?).getD ((0:Int),((0:Int),(0:Int))))
 let c71:=c70.1
 let c75:=c70.2
 let c76:=c75.1
 let c79:=c75.2
 let c103:=(decide (s1.1<(a1.length:Int)))
 let c105:=(Int.toNat s1.1)
 let c106:=(decide (c105<a1.length))
 let c107:=((decide ((0:Int)≤s1.1)) && c106)
 let c108:=(c107 && c106)
 let c109:=((a1[c105]?).getD ((0:Int),((0:Int),(0:Int))))
 let c110:=c109.1
 let c112:=c109.2
 let c113:=c112.1
 let c119:=(!((c110==c71) && ((c113==c76) && (c112.2==c79))))
 let c122:=(c109::([]:List (Int × (Int × Int))))
 let c130:=(withyref07_Linked_r s1.2.2.1 c110 c113)
 let c134:=(!c130.2)
 let c135:=(cond c134 c134 true)
 let c137:=(c134 && c134)
 let c139:=(decide (s1.2.1<(0:Int)))
 let c141:=(c137 && (!c139))
 let c150:=(Int.toNat s1.2.1)
 let c151:=(decide (c150<a1.length))
 let c162:=(withyref05_Less_r c109 ((a1[c150]?).getD ((0:Int),((0:Int),(0:Int)))))
 ((cond c103 (c108 && (cond c119 ((c108 && (decide ((s1.2.2.2.1.length+c122.length)*24≤140737488355328))) && (((((((((((c108 && c107) && c106) && c130.1) && c135) && (cond c141 (c141 && (c141 && c107)) true)) && (cond c141 (c141 && c106) true)) && (cond c141 (c141 && (c141 && ((decide ((0:Int)≤s1.2.1)) && c151))) true)) && (cond c141 (c141 && c151) true)) && (cond c141 ((c141 && c141) && c162.1) true)) && (cond c134 (c137 && (cond c139 true c141)) true)) && c135)) true)) true),c103,((IntKind.i64.wrap (s1.1+(1:Int))),(cond c119 (cond (cond c134 (cond c139 true c162.2) false) s1.1 s1.2.1) s1.2.1),s1.2.2.1,(cond c119 (s1.2.2.2.1++c122) s1.2.2.2.1),()),((!c103),s1.2.1,s1.2.2.1,s1.2.2.2.1,()))
noncomputable def withylaw07_SpanLoses_r (a1:(List (Int × (Int × Int)))) (a2:Int):Bool × (Bool):=
 let c4:=(decide ((a1.length:Int)>(40:Int)))
 let c5:=(!c4)
 let c6:=(withyref05_Check_r a1)
 let c18:=(cond c4 true (c6.2 !=(0:Int)))
 let c19:=(withylaw07_awake_r)
 let c20:=c19.1
 let c23:=(!c18)
 let c24:=(span_Least_r a1)
 let c26:=c24.2.2.2.1
 let c27:=(c26 !=(0:Int))
 let c28:=(!c27)
 let c29:=(cond c28 c28 true)
 let c33:=c24.2.2.1
 let c34:=(c33:Int)
 let c36:=(cond c27 true (c34==(0:Int)))
 let c37:=(c26==(0:Int))
 let c43:=(!c36)
 let c47:=(Int.tmod (IntKind.i64.wrap (a2)) c34)
 let c49:=(Int.toNat c47)
 let c53:=c24.2.1
 let c54:=(c49+c53)
 let c55:=c24.2.2.2.2
 let c56:=c55.length
 let c100:=(loopD 0 [.int .i64,(.fl (.row (.prod (.int .i64) (.prod (.int .i64) (.int .i64)))))] [.bool,(.fl (.row (.prod (.int .i64) (.prod (.int .i64) (.int .i64)))))] (withylaw07_SpanLoses_l0 a1 a2) ((0:Int),([]:List (Int × (Int × Int))),()))
 let c188:=(loopD 1 [.int .i64,.int .i64,(.fl (.row (.prod (.int .i64) (.prod (.int .i64) (.int .i64))))),(.fl (.row (.prod (.int .i64) (.prod (.int .i64) (.int .i64)))))] [.bool,.int .i64,(.fl (.row (.prod (.int .i64) (.prod (.int .i64) (.int .i64))))),(.fl (.row (.prod (.int .i64) (.prod (.int .i64) (.int .i64)))))] (withylaw07_SpanLoses_l1 a1 a2) ((0:Int),(-1:Int),c100.2.2.1,([]:List (Int × (Int × Int))),()))
 let c190:=c188.2.2.1
 let c191:=(decide (c190≥(0:Int)))
 let c193:=(Int.toNat c190)
 let c194:=(decide (c193<a1.length))
 let c197:=c188.2.2.2.1
 let c200:=(((a1[c193]?).getD ((0:Int),((0:Int),(0:Int))))::([]:List (Int × (Int × Int))))
 let c207:=(span_Least_r c188.2.2.2.2.1)
 let c210:=(c207.2.2.2.1==(0:Int))
 let c213:=(withyref05_Sort_r (cond c191 (c197++c200) c197))
 let c224:=(withyref05_Same_2_r ((c207.2.2.2.2.drop c207.2.1).take c207.2.2.1) c213.2)
 let c233:=(cond c210 c224.2 false)
 let c248:=c19.2
 ((((((cond c5 (c5 && c6.1) true) && (cond c5 c5 true)) && (cond c4 true c5)) && (cond c18 c20 true)) && (cond c23 (c24.1 && ((((c29 && c29) && (cond c27 true c28)) && (cond c36 ((cond c37 c20 true) && (cond c37 c37 true)) true)) && (cond c43 ((((c34 !=(0:Int)) && ((decide ((0:Int)≤c47)) && (decide (c49<c33)))) && (decide (c54<c56))) && (c100.1 && (c188.1 && ((cond c191 ((((decide ((0:Int)≤c190)) && c194) && c194) && (decide ((c197.length+c200.length)*24≤140737488355328))) true) && (c207.1 && (((((cond c210 (c210 && c213.1) true) && (cond c210 (c210 && ((c210 && c210) && c224.1)) true)) && (cond c210 c210 true)) && (cond c233 c20 true)) && (cond c233 c233 true))))))) true))) true)),((cond c23 (cond c43 (cond c233 c248 false) (cond c37 c248 false)) c248)))
def withylaw07_SpanLoses_e:Ent:=⟨12,[],[(.pure (.fl (.row (.prod (.int .i64) (.prod (.int .i64) (.int .i64))))) (Ty.dflt _)),(.pure (.int .u8) (Ty.dflt _))],[],[(.pure .bool (Ty.dflt _))],[]⟩
noncomputable def withylaw07_SpanLoses:Fun:=⟨withylaw07_SpanLoses_e,fun x=>let r:=withylaw07_SpanLoses_r x.1 x.2.1; (r.1,(r.2,()))⟩
theorem withylaw07_SpanLoses_ev:evFun Try.prog [withyref05_Check,withylaw07_awake,span_Least,withyref07_Linked,withyref05_Less,withyref05_Sort,withyref05_Same_2] [⟨[10,8],[],⟨[],[],0⟩,[],[],[(1,[]),(2,[8])],[]⟩,⟨[12,11,9],[2432],⟨[(8,(.own 2432 3))],[(2432,⟨.tt,(.arr (.row (.prod (.int .i64) (.prod (.int .i64) (.int .i64)))) [] true)⟩),(2432,⟨.tt,(.arr (.row (.prod (.int .i64) (.prod (.int .i64) (.int .i64)))) [] false)⟩)],0⟩,[8],[],[(1,[]),(4,[9,11])],[]⟩,⟨[],[],⟨[],[],0⟩,[],[],[],[(1000003,([8,9,10,11,12],[]))]⟩] Try.f12 (codeOf Try.f12) withylaw07_SpanLoses_e=(withylaw07_SpanLoses).fn:=by kernel_rfl
theorem withylaw07_SpanLoses_ok:FunOk Try.prog (withylaw07_SpanLoses):=fun_ok (opers_ok (oks_cons withyref05_Check_ok (oks_cons withylaw07_awake_ok (oks_cons span_Least_ok (oks_cons withyref07_Linked_ok (oks_cons withyref05_Less_ok (oks_cons withyref05_Sort_ok (oks_cons withyref05_Same_2_ok oks_nil)))))))) Try.call12 Try.func12 (by kernel_rfl) fun x _=>(congrFun (withylaw07_SpanLoses_ev) x).symm
end Go.Proofs.Ytfeepbajipdfaaa.T
