/- What functions come to. -/
import Derived.Test.YtfeepbajipdfaaaTr4
import Derived.KernelRfl
import Derived.Test.YtfeepbajipdfaaaRows
namespace Go.Proofs.Ytfeepbajipdfaaa.T
open Go.Vm Go.Tm
set_option linter.unusedVariables false
def withyref22_begin_e:Ent:=⟨100,[],[(.pure (.row (.prod (.row (.prod (.int .i64) (.prod (.row (.prod (.int .i64) (.int .i64))) (.prod (.int .i64) (.prod (.int .i64) (.prod (.fl (.row (.prod (.int .i64) (.prod (.int .i64) (.prod (.int .i64) (.row (.prod (.int .i64) (.prod .bool (.prod .bool (.int .i64)))))))))) (.prod (.fl (.int .i64)) (.prod (.row (.prod (.fl (.int .i64)) (.fl (.row (.prod (.int .i64) (.prod (.int .i64) (.prod (.int .i64) (.prod (.int .i64) .bool)))))))) (.prod (.int .i64) (.prod (.row (.prod (.fl (.int .i64)) (.fl (.row (.prod (.int .i64) (.prod (.int .i64) (.prod (.int .i64) (.prod (.int .i64) .bool)))))))) (.prod (.int .i64) .bool))))))))))) (.fl (.row (.prod (.int .i64) (.row (.prod (.int .i64) (.prod (.row (.prod (.int .i64) (.int .i64))) (.prod (.row (.prod (.fl (.int .i64)) (.fl (.row (.prod (.int .i64) (.prod (.int .i64) (.prod (.int .i64) (.prod (.int .i64) .bool)))))))) (.row (.prod (.int .i64) (.prod (.int .i64) (.prod (.int .i64) (.int .i64)))))))))))))) (Ty.dflt _))],[],[(.pure (.row (.prod (.row (.prod (.int .i64) (.prod (.row (.prod (.int .i64) (.int .i64))) (.prod (.int .i64) (.prod (.int .i64) (.prod (.fl (.row (.prod (.int .i64) (.prod (.int .i64) (.prod (.int .i64) (.row (.prod (.int .i64) (.prod .bool (.prod .bool (.int .i64)))))))))) (.prod (.fl (.int .i64)) (.prod (.row (.prod (.fl (.int .i64)) (.fl (.row (.prod (.int .i64) (.prod (.int .i64) (.prod (.int .i64) (.prod (.int .i64) .bool)))))))) (.prod (.int .i64) (.prod (.row (.prod (.fl (.int .i64)) (.fl (.row (.prod (.int .i64) (.prod (.int .i64) (.prod (.int .i64) (.prod (.int .i64) .bool)))))))) (.prod (.int .i64) .bool))))))))))) (.fl (.row (.prod (.int .i64) (.row (.prod (.int .i64) (.prod (.row (.prod (.int .i64) (.int .i64))) (.prod (.row (.prod (.fl (.int .i64)) (.fl (.row (.prod (.int .i64) (.prod (.int .i64) (.prod (.int .i64) (.prod (.int .i64) .bool)))))))) (.row (.prod (.int .i64) (.prod (.int .i64) (.prod (.int .i64) (.int .i64)))))))))))))) (Ty.dflt _))],[]⟩
noncomputable def withyref05_Node_r (a1:Int):Bool × (Bool):=
 let c2:=(decide (a1≥(1:Int)))
 let c4:=(cond c2 c2 true)
 ((c4 && c4),((cond c2 (decide (a1≤(64:Int))) false)))
def withyref05_Node_e:Ent:=⟨93,[],[(.pure (.int .i64) (Ty.dflt _))],[],[(.pure .bool (Ty.dflt _))],[]⟩
noncomputable def withyref05_Node:Fun:=⟨withyref05_Node_e,fun x=>let r:=withyref05_Node_r x.1; (r.1,(r.2,()))⟩
theorem withyref05_Node_ev:evFun Try.prog [] [] Try.f93 (codeOf Try.f93) withyref05_Node_e=(withyref05_Node).fn:=by kernel_rfl
theorem withyref05_Node_ok:FunOk Try.prog (withyref05_Node):=fun_ok (opers_ok oks_nil) Try.call93 Try.func93 (by kernel_rfl) fun x _=>(congrFun (withyref05_Node_ev) x).symm
noncomputable def withyref12_After_r (a1:Int) (a2:Int) (a3:Int):Bool × ((Int × Int) × Int):=
 let c1:=(withyref05_Node_r a3)
 let c4:=(!c1.2)
 let c5:=(!c4)
 let c14:=(cond c4 true (decide (a1<(0:Int))))
 let c15:=(!c14)
 let c22:=(cond c14 true (decide (a1>(2147483647:Int))))
 let c23:=(!c22)
 let c31:=(cond c22 true (decide (a2<(1:Int))))
 let c32:=(!c31)
 let c39:=(!(cond c31 true (decide (a2>(2147483647:Int)))))
 let c41:=(!(decide (a1≥a2)))
 let c44:=((0:Int),(0:Int))
 (((((((((c1.1 && (cond c5 c5 true)) && (cond c4 true c5)) && (cond c15 c15 true)) && (cond c14 true c15)) && (cond c23 c23 true)) && (cond c22 true c23)) && (cond c32 c32 true)) && (cond c31 true c32)),((cond c39 (cond c41 ((IntKind.i64.wrap (a1+(1:Int))),a3) c44) c44),(cond c39 (cond c41 (0:Int) (10:Int)) (1:Int))))
def withyref12_After_e:Ent:=⟨128,[],[(.pure (.int .i64) (Ty.dflt _)),(.pure (.int .i64) (Ty.dflt _)),(.pure (.int .i64) (Ty.dflt _))],[],[(.pure (.row (.prod (.int .i64) (.int .i64))) (Ty.dflt _)),(.pure (.int .i64) (Ty.dflt _))],[]⟩
noncomputable def withyref12_After:Fun:=⟨withyref12_After_e,fun x=>let r:=withyref12_After_r x.1 x.2.1 x.2.2.1; (r.1,(r.2.1,r.2.2,()))⟩
theorem withyref12_After_ev:evFun Try.prog [withyref05_Node] [] Try.f128 (codeOf Try.f128) withyref12_After_e=(withyref12_After).fn:=by kernel_rfl
theorem withyref12_After_ok:FunOk Try.prog (withyref12_After):=fun_ok (opers_ok (oks_cons withyref05_Node_ok oks_nil)) Try.call128 Try.func128 (by kernel_rfl) fun x _=>(congrFun (withyref12_After_ev) x).symm
noncomputable def withyref22_bound_l0 (a1:(Int × ((Int × Int) × (Int × (Int × ((List (Int × (Int × (Int × (Int × (Bool × (Bool × Int))))))) × ((List Int) × (((List Int) × (List (Int × (Int × (Int × (Int × Bool)))))) × (Int × (((List Int) × (List (Int × (Int × (Int × (Int × Bool)))))) × (Int × Bool))))))))))) (a2:Int) (s0:HL [.int .i64,(.fl (.int .i64))]):Bool × Bool × HL [.int .i64,(.fl (.int .i64))] × HL [.bool,(.fl (.int .i64))]:=
 let c9:=(decide (s0.1<(a1.2.2.2.2.1.length:Int)))
 let c11:=(Int.toNat s0.1)
 let c12:=(decide (c11<a1.2.2.2.2.1.length))
 let c13:=((decide ((0:Int)≤s0.1)) && c12)
 let c14:=(c13 && c12)
 let c15:=((a1.2.2.2.2.1[c11]?).getD ((0:Int),((0:Int),((0:Int),((0:Int),(false,(false,(0:Int))))))))
 let c21:=c15.2.2.2.2.2.1
 let c23:=(cond c21 c21 true)
 let c37:=c15.1
 let c41:=(cond c21 (c37 !=a2) false)
 let c45:=(c37::([]:List Int))
 ((cond c9 (((((((c14 && c23) && (cond c21 (c21 && (c21 && c13)) true)) && c23) && (cond c21 (c21 && c12) true)) && (cond c21 (c21 && c21) true)) && c23) && (cond c41 (c14 && (decide ((s0.2.1.length+c45.length)*8≤140737488355328))) true)) true),c9,((IntKind.i64.wrap (s0.1+(1:Int))),(cond c41 (s0.2.1++c45) s0.2.1),()),((!c9),s0.2.1,()))
noncomputable def withyref22_bound_r (a1:(Int × ((Int × Int) × (Int × (Int × ((List (Int × (Int × (Int × (Int × (Bool × (Bool × Int))))))) × ((List Int) × (((List Int) × (List (Int × (Int × (Int × (Int × Bool)))))) × (Int × (((List Int) × (List (Int × (Int × (Int × (Int × Bool)))))) × (Int × Bool))))))))))) (a2:Int):Bool × ((List Int)):=
 let c59:=(loopD 0 [.int .i64,(.fl (.int .i64))] [.bool,(.fl (.int .i64))] (withyref22_bound_l0 a1 a2) ((0:Int),([]:List Int),()))
 (c59.1,(c59.2.2.1))
def withyref22_bound_e:Ent:=⟨161,[],[(.pure (.row (.prod (.int .i64) (.prod (.row (.prod (.int .i64) (.int .i64))) (.prod (.int .i64) (.prod (.int .i64) (.prod (.fl (.row (.prod (.int .i64) (.prod (.int .i64) (.prod (.int .i64) (.row (.prod (.int .i64) (.prod .bool (.prod .bool (.int .i64)))))))))) (.prod (.fl (.int .i64)) (.prod (.row (.prod (.fl (.int .i64)) (.fl (.row (.prod (.int .i64) (.prod (.int .i64) (.prod (.int .i64) (.prod (.int .i64) .bool)))))))) (.prod (.int .i64) (.prod (.row (.prod (.fl (.int .i64)) (.fl (.row (.prod (.int .i64) (.prod (.int .i64) (.prod (.int .i64) (.prod (.int .i64) .bool)))))))) (.prod (.int .i64) .bool))))))))))) (Ty.dflt _)),(.pure (.int .i64) (Ty.dflt _))],[(0,(.arr (.int .i64) [] false))],[(.own 0 1)],[]⟩
noncomputable def withyref22_bound:Fun:=⟨withyref22_bound_e,fun x=>let r:=withyref22_bound_r x.1 x.2.1; (r.1,(r.2,()))⟩
theorem withyref22_bound_ev:evFun Try.prog [] [⟨[6,5],[],⟨[],[],0⟩,[],[],[(1,[]),(2,[5])],[]⟩] Try.f161 (codeOf Try.f161) withyref22_bound_e=(withyref22_bound).fn:=by kernel_rfl
theorem withyref22_bound_ok:FunOk Try.prog (withyref22_bound):=fun_ok (opers_ok oks_nil) Try.call161 Try.func161 (by kernel_rfl) fun x _=>(congrFun (withyref22_bound_ev) x).symm
noncomputable def withyref22_tell_r (a1:((Int × ((Int × Int) × (Int × (Int × ((List (Int × (Int × (Int × (Int × (Bool × (Bool × Int))))))) × ((List Int) × (((List Int) × (List (Int × (Int × (Int × (Int × Bool)))))) × (Int × (((List Int) × (List (Int × (Int × (Int × (Int × Bool)))))) × (Int × Bool)))))))))) × (List (Int × (Int × ((Int × Int) × (((List Int) × (List (Int × (Int × (Int × (Int × Bool)))))) × (Int × (Int × (Int × Int)))))))))) (a2:Int) (a3:(Int × ((Int × Int) × (((List Int) × (List (Int × (Int × (Int × (Int × Bool)))))) × (Int × (Int × (Int × Int))))))):Bool × ((Int × ((Int × Int) × (Int × (Int × ((List (Int × (Int × (Int × (Int × (Bool × (Bool × Int))))))) × ((List Int) × (((List Int) × (List (Int × (Int × (Int × (Int × Bool)))))) × (Int × (((List Int) × (List (Int × (Int × (Int × (Int × Bool)))))) × (Int × Bool)))))))))) × (List (Int × (Int × ((Int × Int) × (((List Int) × (List (Int × (Int × (Int × (Int × Bool)))))) × (Int × (Int × (Int × Int))))))))):=
 let c7:=(([]:List (Int × (Int × ((Int × Int) × (((List Int) × (List (Int × (Int × (Int × (Int × Bool)))))) × (Int × (Int × (Int × Int))))))))++a1.2)
 let c12:=((a2,a3)::([]:List (Int × (Int × ((Int × Int) × (((List Int) × (List (Int × (Int × (Int × (Int × Bool)))))) × (Int × (Int × (Int × Int)))))))))
 (((decide ((([]:List (Int × (Int × ((Int × Int) × (((List Int) × (List (Int × (Int × (Int × (Int × Bool)))))) × (Int × (Int × (Int × Int)))))))).length+a1.2.length)*112≤140737488355328)) && (decide ((c7.length+c12.length)*112≤140737488355328))),(a1.1,(c7++c12)))
def withyref22_tell_e:Ent:=⟨162,[],[(.pure (.row (.prod (.row (.prod (.int .i64) (.prod (.row (.prod (.int .i64) (.int .i64))) (.prod (.int .i64) (.prod (.int .i64) (.prod (.fl (.row (.prod (.int .i64) (.prod (.int .i64) (.prod (.int .i64) (.row (.prod (.int .i64) (.prod .bool (.prod .bool (.int .i64)))))))))) (.prod (.fl (.int .i64)) (.prod (.row (.prod (.fl (.int .i64)) (.fl (.row (.prod (.int .i64) (.prod (.int .i64) (.prod (.int .i64) (.prod (.int .i64) .bool)))))))) (.prod (.int .i64) (.prod (.row (.prod (.fl (.int .i64)) (.fl (.row (.prod (.int .i64) (.prod (.int .i64) (.prod (.int .i64) (.prod (.int .i64) .bool)))))))) (.prod (.int .i64) .bool))))))))))) (.fl (.row (.prod (.int .i64) (.row (.prod (.int .i64) (.prod (.row (.prod (.int .i64) (.int .i64))) (.prod (.row (.prod (.fl (.int .i64)) (.fl (.row (.prod (.int .i64) (.prod (.int .i64) (.prod (.int .i64) (.prod (.int .i64) .bool)))))))) (.row (.prod (.int .i64) (.prod (.int .i64) (.prod (.int .i64) (.int .i64)))))))))))))) (Ty.dflt _)),(.pure (.int .i64) (Ty.dflt _)),(.pure (.row (.prod (.int .i64) (.prod (.row (.prod (.int .i64) (.int .i64))) (.prod (.row (.prod (.fl (.int .i64)) (.fl (.row (.prod (.int .i64) (.prod (.int .i64) (.prod (.int .i64) (.prod (.int .i64) .bool)))))))) (.row (.prod (.int .i64) (.prod (.int .i64) (.prod (.int .i64) (.int .i64))))))))) (Ty.dflt _))],[(0,(.arr (.row (.prod (.int .i64) (.row (.prod (.int .i64) (.prod (.row (.prod (.int .i64) (.int .i64))) (.prod (.row (.prod (.fl (.int .i64)) (.fl (.row (.prod (.int .i64) (.prod (.int .i64) (.prod (.int .i64) (.prod (.int .i64) .bool)))))))) (.row (.prod (.int .i64) (.prod (.int .i64) (.prod (.int .i64) (.int .i64))))))))))) [] false))],[(.row (.pair (.pure (.row (.prod (.int .i64) (.prod (.row (.prod (.int .i64) (.int .i64))) (.prod (.int .i64) (.prod (.int .i64) (.prod (.fl (.row (.prod (.int .i64) (.prod (.int .i64) (.prod (.int .i64) (.row (.prod (.int .i64) (.prod .bool (.prod .bool (.int .i64)))))))))) (.prod (.fl (.int .i64)) (.prod (.row (.prod (.fl (.int .i64)) (.fl (.row (.prod (.int .i64) (.prod (.int .i64) (.prod (.int .i64) (.prod (.int .i64) .bool)))))))) (.prod (.int .i64) (.prod (.row (.prod (.fl (.int .i64)) (.fl (.row (.prod (.int .i64) (.prod (.int .i64) (.prod (.int .i64) (.prod (.int .i64) .bool)))))))) (.prod (.int .i64) .bool))))))))))) (Ty.dflt _)) (.own 0 10)))],[]⟩
noncomputable def withyref22_tell:Fun:=⟨withyref22_tell_e,fun x=>let r:=withyref22_tell_r x.1 x.2.1 x.2.2.1; (r.1,(r.2.1,r.2.2,()))⟩
theorem withyref22_tell_ev:evFun Try.prog [] [] Try.f162 (codeOf Try.f162) withyref22_tell_e=(withyref22_tell).fn:=by kernel_rfl
theorem withyref22_tell_ok:FunOk Try.prog (withyref22_tell):=fun_ok (opers_ok oks_nil) Try.call162 Try.func162 (by kernel_rfl) fun x _=>(congrFun (withyref22_tell_ev) x).symm
noncomputable def withyref21_Recant_r (a1:(Int × (Bool × (Bool × Int)))):Bool × ((Int × (Bool × (Bool × Int))) × (Bool × (Bool × Bool)) × (List Int)):=
 let c3:=(a1.1==(1:Int))
 let c6:=((5:Int)::([]:List Int))
 let c17:=(false,(false,false))
 ((cond c3 (decide (c6.length*8≤140737488355328)) true),((cond c3 ((2:Int),a1.2) a1),(cond c3 c17 c17),(cond c3 c6 ([]:List Int))))
def withyref21_Recant_e:Ent:=⟨163,[],[(.pure (.row (.prod (.int .i64) (.prod .bool (.prod .bool (.int .i64))))) (Ty.dflt _))],[(0,(.arr (.int .i64) [] false))],[(.pure (.row (.prod (.int .i64) (.prod .bool (.prod .bool (.int .i64))))) (Ty.dflt _)),(.row (.pair (.own 0 1) (.pure (.prod .bool (.prod .bool .bool)) (Ty.dflt _))))],[]⟩
noncomputable def withyref21_Recant:Fun:=⟨withyref21_Recant_e,fun x=>let r:=withyref21_Recant_r x.1; (r.1,(r.2.1,r.2.2.1,r.2.2.2,()))⟩
theorem withyref21_Recant_ev:evFun Try.prog [] [] Try.f163 (codeOf Try.f163) withyref21_Recant_e=(withyref21_Recant).fn:=by kernel_rfl
theorem withyref21_Recant_ok:FunOk Try.prog (withyref21_Recant):=fun_ok (opers_ok oks_nil) Try.call163 Try.func163 (by kernel_rfl) fun x _=>(congrFun (withyref21_Recant_ev) x).symm
noncomputable def withyref22_set_r (a1:((Int × ((Int × Int) × (Int × (Int × ((List (Int × (Int × (Int × (Int × (Bool × (Bool × Int))))))) × ((List Int) × (((List Int) × (List (Int × (Int × (Int × (Int × Bool)))))) × (Int × (((List Int) × (List (Int × (Int × (Int × (Int × Bool)))))) × (Int × Bool)))))))))) × (List (Int × (Int × ((Int × Int) × (((List Int) × (List (Int × (Int × (Int × (Int × Bool)))))) × (Int × (Int × (Int × Int)))))))))) (a2:Int) (a3:(Int × (Bool × (Bool × Int)))):Bool × (Int × (Int × Int) × Int × Int × ((List Int) × (((List Int) × (List (Int × (Int × (Int × (Int × Bool)))))) × (Int × (((List Int) × (List (Int × (Int × (Int × (Int × Bool)))))) × (Int × Bool))))) × (List (Int × (Int × ((Int × Int) × (((List Int) × (List (Int × (Int × (Int × (Int × Bool)))))) × (Int × (Int × (Int × Int)))))))) × (List (Int × (Int × (Int × (Int × (Bool × (Bool × Int)))))))):=
 let c14:=(Int.toNat a2)
 let c15:=(([]:List (Int × (Int × (Int × (Int × (Bool × (Bool × Int)))))))++a1.1.2.2.2.2.1)
 let c17:=(decide (c14<c15.length))
 let c27:=((c15[c14]?).getD ((0:Int),((0:Int),((0:Int),((0:Int),(false,(false,(0:Int))))))))
 let c29:=c27.2
 (((decide ((([]:List (Int × (Int × (Int × (Int × (Bool × (Bool × Int))))))).length+a1.1.2.2.2.2.1.length)*48≤140737488355328)) && (((decide ((0:Int)≤a2)) && c17) && c17)),(a1.1.1,a1.1.2.1,a1.1.2.2.1,a1.1.2.2.2.1,a1.1.2.2.2.2.2,a1.2,(c15.set c14 (c27.1,(c29.1,(c29.2.1,a3))))))
def withyref22_set_e:Ent:=⟨164,[],[(.pure (.row (.prod (.row (.prod (.int .i64) (.prod (.row (.prod (.int .i64) (.int .i64))) (.prod (.int .i64) (.prod (.int .i64) (.prod (.fl (.row (.prod (.int .i64) (.prod (.int .i64) (.prod (.int .i64) (.row (.prod (.int .i64) (.prod .bool (.prod .bool (.int .i64)))))))))) (.prod (.fl (.int .i64)) (.prod (.row (.prod (.fl (.int .i64)) (.fl (.row (.prod (.int .i64) (.prod (.int .i64) (.prod (.int .i64) (.prod (.int .i64) .bool)))))))) (.prod (.int .i64) (.prod (.row (.prod (.fl (.int .i64)) (.fl (.row (.prod (.int .i64) (.prod (.int .i64) (.prod (.int .i64) (.prod (.int .i64) .bool)))))))) (.prod (.int .i64) .bool))))))))))) (.fl (.row (.prod (.int .i64) (.row (.prod (.int .i64) (.prod (.row (.prod (.int .i64) (.int .i64))) (.prod (.row (.prod (.fl (.int .i64)) (.fl (.row (.prod (.int .i64) (.prod (.int .i64) (.prod (.int .i64) (.prod (.int .i64) .bool)))))))) (.row (.prod (.int .i64) (.prod (.int .i64) (.prod (.int .i64) (.int .i64)))))))))))))) (Ty.dflt _)),(.pure (.int .i64) (Ty.dflt _)),(.pure (.row (.prod (.int .i64) (.prod .bool (.prod .bool (.int .i64))))) (Ty.dflt _))],[(0,(.arr (.row (.prod (.int .i64) (.prod (.int .i64) (.prod (.int .i64) (.row (.prod (.int .i64) (.prod .bool (.prod .bool (.int .i64))))))))) [] false))],[(.row (.pair (.row (.pair (.pure (.int .i64) (Ty.dflt _)) (.pair (.pure (.row (.prod (.int .i64) (.int .i64))) (Ty.dflt _)) (.pair (.pure (.int .i64) (Ty.dflt _)) (.pair (.pure (.int .i64) (Ty.dflt _)) (.pair (.own 0 7) (.pure (.prod (.fl (.int .i64)) (.prod (.row (.prod (.fl (.int .i64)) (.fl (.row (.prod (.int .i64) (.prod (.int .i64) (.prod (.int .i64) (.prod (.int .i64) .bool)))))))) (.prod (.int .i64) (.prod (.row (.prod (.fl (.int .i64)) (.fl (.row (.prod (.int .i64) (.prod (.int .i64) (.prod (.int .i64) (.prod (.int .i64) .bool)))))))) (.prod (.int .i64) .bool))))) (Ty.dflt _)))))))) (.pure (.fl (.row (.prod (.int .i64) (.row (.prod (.int .i64) (.prod (.row (.prod (.int .i64) (.int .i64))) (.prod (.row (.prod (.fl (.int .i64)) (.fl (.row (.prod (.int .i64) (.prod (.int .i64) (.prod (.int .i64) (.prod (.int .i64) .bool)))))))) (.row (.prod (.int .i64) (.prod (.int .i64) (.prod (.int .i64) (.int .i64)))))))))))) (Ty.dflt _))))],[]⟩
noncomputable def withyref22_set:Fun:=⟨withyref22_set_e,fun x=>let r:=withyref22_set_r x.1 x.2.1 x.2.2.1; (r.1,(r.2.1,r.2.2.1,r.2.2.2.1,r.2.2.2.2.1,r.2.2.2.2.2.1,r.2.2.2.2.2.2.1,r.2.2.2.2.2.2.2,()))⟩
theorem withyref22_set_ev:evFun Try.prog [] [] Try.f164 (codeOf Try.f164) withyref22_set_e=(withyref22_set).fn:=by kernel_rfl
theorem withyref22_set_ok:FunOk Try.prog (withyref22_set):=fun_ok (opers_ok oks_nil) Try.call164 Try.func164 (by kernel_rfl) fun x _=>(congrFun (withyref22_set_ev) x).symm
noncomputable def withyref22_say_l0 (a1:((Int × ((Int × Int) × (Int × (Int × ((List (Int × (Int × (Int × (Int × (Bool × (Bool × Int))))))) × ((List Int) × (((List Int) × (List (Int × (Int × (Int × (Int × Bool)))))) × (Int × (((List Int) × (List (Int × (Int × (Int × (Int × Bool)))))) × (Int × Bool)))))))))) × (List (Int × (Int × ((Int × Int) × (((List Int) × (List (Int × (Int × (Int × (Int × Bool)))))) × (Int × (Int × (Int × Int)))))))))) (a2:Int) (a3:((List Int) × (Bool × (Bool × Bool)))) (s0:HL [.int .i64,(.row (.prod (.row (.prod (.int .i64) (.prod (.row (.prod (.int .i64) (.int .i64))) (.prod (.int .i64) (.prod (.int .i64) (.prod (.fl (.row (.prod (.int .i64) (.prod (.int .i64) (.prod (.int .i64) (.row (.prod (.int .i64) (.prod .bool (.prod .bool (.int .i64)))))))))) (.prod (.fl (.int .i64)) (.prod (.row (.prod (.fl (.int .i64)) (.fl (.row (.prod (.int .i64) (.prod (.int .i64) (.prod (.int .i64) (.prod (.int .i64) .bool)))))))) (.prod (.int .i64) (.prod (.row (.prod (.fl (.int .i64)) (.fl (.row (.prod (.int .i64) (.prod (.int .i64) (.prod (.int .i64) (.prod (.int .i64) .bool)))))))) (.prod (.int .i64) .bool))))))))))) (.fl (.row (.prod (.int .i64) (.row (.prod (.int .i64) (.prod (.row (.prod (.int .i64) (.int .i64))) (.prod (.row (.prod (.fl (.int .i64)) (.fl (.row (.prod (.int .i64) (.prod (.int .i64) (.prod (.int .i64) (.prod (.int .i64) .bool)))))))) (.row (.prod (.int .i64) (.prod (.int .i64) (.prod (.int .i64) (.int .i64))))))))))))))]):Bool × Bool × HL [.int .i64,(.row (.prod (.row (.prod (.int .i64) (.prod (.row (.prod (.int .i64) (.int .i64))) (.prod (.int .i64) (.prod (.int .i64) (.prod (.fl (.row (.prod (.int .i64) (.prod (.int .i64) (.prod (.int .i64) (.row (.prod (.int .i64) (.prod .bool (.prod .bool (.int .i64)))))))))) (.prod (.fl (.int .i64)) (.prod (.row (.prod (.fl (.int .i64)) (.fl (.row (.prod (.int .i64) (.prod (.int .i64) (.prod (.int .i64) (.prod (.int .i64) .bool)))))))) (.prod (.int .i64) (.prod (.row (.prod (.fl (.int .i64)) (.fl (.row (.prod (.int .i64) (.prod (.int .i64) (.prod (.int .i64) (.prod (.int .i64) .bool)))))))) (.prod (.int .i64) .bool))))))))))) (.fl (.row (.prod (.int .i64) (.row (.prod (.int .i64) (.prod (.row (.prod (.int .i64) (.int .i64))) (.prod (.row (.prod (.fl (.int .i64)) (.fl (.row (.prod (.int .i64) (.prod (.int .i64) (.prod (.int .i64) (.prod (.int .i64) .bool)))))))) (.row (.prod (.int .i64) (.prod (.int .i64) (.prod (.int .i64) (.int .i64))))))))))))))] × HL [.bool,(.row (.prod (.row (.prod (.int .i64) (.prod (.row (.prod (.int .i64) (.int .i64))) (.prod (.int .i64) (.prod (.int .i64) (.prod (.fl (.row (.prod (.int .i64) (.prod (.int .i64) (.prod (.int .i64) (.row (.prod (.int .i64) (.prod .bool (.prod .bool (.int .i64)))))))))) (.prod (.fl (.int .i64)) (.prod (.row (.prod (.fl (.int .i64)) (.fl (.row (.prod (.int .i64) (.prod (.int .i64) (.prod (.int .i64) (.prod (.int .i64) .bool)))))))) (.prod (.int .i64) (.prod (.row (.prod (.fl (.int .i64)) (.fl (.row (.prod (.int .i64) (.prod (.int .i64) (.prod (.int .i64) (.prod (.int .i64) .bool)))))))) (.prod (.int .i64) .bool))))))))))) (.fl (.row (.prod (.int .i64) (.row (.prod (.int .i64) (.prod (.row (.prod (.int .i64) (.int .i64))) (.prod (.row (.prod (.fl (.int .i64)) (.fl (.row (.prod (.int .i64) (.prod (.int .i64) (.prod (.int .i64) (.prod (.int .i64) .bool)))))))) (.row (.prod (.int .i64) (.prod (.int .i64) (.prod (.int .i64) (.int .i64))))))))))))))]:=
 let c5:=(decide (s0.1<(a3.1.length:Int)))
 let c7:=(Int.toNat s0.1)
 let c8:=(decide (c7<a3.1.length))
 let c15:=((0:Int),(0:Int))
 let c24:=(withyref22_tell_r s0.2.1 a2 (((a3.1[c7]?).getD (0:Int)),(c15,((([]:List Int),([]:List (Int × (Int × (Int × (Int × Bool)))))),((0:Int),((0:Int),c15))))))
 ((cond c5 ((((decide ((0:Int)≤s0.1)) && c8) && c8) && c24.1) true),c5,((IntKind.i64.wrap (s0.1+(1:Int))),(c24.2.1,c24.2.2),()),((!c5),s0.2.1,()))
noncomputable def withyref22_say_r (a1:((Int × ((Int × Int) × (Int × (Int × ((List (Int × (Int × (Int × (Int × (Bool × (Bool × Int))))))) × ((List Int) × (((List Int) × (List (Int × (Int × (Int × (Int × Bool)))))) × (Int × (((List Int) × (List (Int × (Int × (Int × (Int × Bool)))))) × (Int × Bool)))))))))) × (List (Int × (Int × ((Int × Int) × (((List Int) × (List (Int × (Int × (Int × (Int × Bool)))))) × (Int × (Int × (Int × Int)))))))))) (a2:Int) (a3:((List Int) × (Bool × (Bool × Bool)))):Bool × (((Int × ((Int × Int) × (Int × (Int × ((List (Int × (Int × (Int × (Int × (Bool × (Bool × Int))))))) × ((List Int) × (((List Int) × (List (Int × (Int × (Int × (Int × Bool)))))) × (Int × (((List Int) × (List (Int × (Int × (Int × (Int × Bool)))))) × (Int × Bool)))))))))) × (List (Int × (Int × ((Int × Int) × (((List Int) × (List (Int × (Int × (Int × (Int × Bool)))))) × (Int × (Int × (Int × Int)))))))))):=
 let c36:=(loopD 0 [.int .i64,(.row (.prod (.row (.prod (.int .i64) (.prod (.row (.prod (.int .i64) (.int .i64))) (.prod (.int .i64) (.prod (.int .i64) (.prod (.fl (.row (.prod (.int .i64) (.prod (.int .i64) (.prod (.int .i64) (.row (.prod (.int .i64) (.prod .bool (.prod .bool (.int .i64)))))))))) (.prod (.fl (.int .i64)) (.prod (.row (.prod (.fl (.int .i64)) (.fl (.row (.prod (.int .i64) (.prod (.int .i64) (.prod (.int .i64) (.prod (.int .i64) .bool)))))))) (.prod (.int .i64) (.prod (.row (.prod (.fl (.int .i64)) (.fl (.row (.prod (.int .i64) (.prod (.int .i64) (.prod (.int .i64) (.prod (.int .i64) .bool)))))))) (.prod (.int .i64) .bool))))))))))) (.fl (.row (.prod (.int .i64) (.row (.prod (.int .i64) (.prod (.row (.prod (.int .i64) (.int .i64))) (.prod (.row (.prod (.fl (.int .i64)) (.fl (.row (.prod (.int .i64) (.prod (.int .i64) (.prod (.int .i64) (.prod (.int .i64) .bool)))))))) (.row (.prod (.int .i64) (.prod (.int .i64) (.prod (.int .i64) (.int .i64))))))))))))))] [.bool,(.row (.prod (.row (.prod (.int .i64) (.prod (.row (.prod (.int .i64) (.int .i64))) (.prod (.int .i64) (.prod (.int .i64) (.prod (.fl (.row (.prod (.int .i64) (.prod (.int .i64) (.prod (.int .i64) (.row (.prod (.int .i64) (.prod .bool (.prod .bool (.int .i64)))))))))) (.prod (.fl (.int .i64)) (.prod (.row (.prod (.fl (.int .i64)) (.fl (.row (.prod (.int .i64) (.prod (.int .i64) (.prod (.int .i64) (.prod (.int .i64) .bool)))))))) (.prod (.int .i64) (.prod (.row (.prod (.fl (.int .i64)) (.fl (.row (.prod (.int .i64) (.prod (.int .i64) (.prod (.int .i64) (.prod (.int .i64) .bool)))))))) (.prod (.int .i64) .bool))))))))))) (.fl (.row (.prod (.int .i64) (.row (.prod (.int .i64) (.prod (.row (.prod (.int .i64) (.int .i64))) (.prod (.row (.prod (.fl (.int .i64)) (.fl (.row (.prod (.int .i64) (.prod (.int .i64) (.prod (.int .i64) (.prod (.int .i64) .bool)))))))) (.row (.prod (.int .i64) (.prod (.int .i64) (.prod (.int .i64) (.int .i64))))))))))))))] (withyref22_say_l0 a1 a2 a3) ((0:Int),a1,()))
 (c36.1,(c36.2.2.1))
def withyref22_say_e:Ent:=⟨165,[],[(.pure (.row (.prod (.row (.prod (.int .i64) (.prod (.row (.prod (.int .i64) (.int .i64))) (.prod (.int .i64) (.prod (.int .i64) (.prod (.fl (.row (.prod (.int .i64) (.prod (.int .i64) (.prod (.int .i64) (.row (.prod (.int .i64) (.prod .bool (.prod .bool (.int .i64)))))))))) (.prod (.fl (.int .i64)) (.prod (.row (.prod (.fl (.int .i64)) (.fl (.row (.prod (.int .i64) (.prod (.int .i64) (.prod (.int .i64) (.prod (.int .i64) .bool)))))))) (.prod (.int .i64) (.prod (.row (.prod (.fl (.int .i64)) (.fl (.row (.prod (.int .i64) (.prod (.int .i64) (.prod (.int .i64) (.prod (.int .i64) .bool)))))))) (.prod (.int .i64) .bool))))))))))) (.fl (.row (.prod (.int .i64) (.row (.prod (.int .i64) (.prod (.row (.prod (.int .i64) (.int .i64))) (.prod (.row (.prod (.fl (.int .i64)) (.fl (.row (.prod (.int .i64) (.prod (.int .i64) (.prod (.int .i64) (.prod (.int .i64) .bool)))))))) (.row (.prod (.int .i64) (.prod (.int .i64) (.prod (.int .i64) (.int .i64)))))))))))))) (Ty.dflt _)),(.pure (.int .i64) (Ty.dflt _)),(.pure (.row (.prod (.fl (.int .i64)) (.prod .bool (.prod .bool .bool)))) (Ty.dflt _))],[],[(.pure (.row (.prod (.row (.prod (.int .i64) (.prod (.row (.prod (.int .i64) (.int .i64))) (.prod (.int .i64) (.prod (.int .i64) (.prod (.fl (.row (.prod (.int .i64) (.prod (.int .i64) (.prod (.int .i64) (.row (.prod (.int .i64) (.prod .bool (.prod .bool (.int .i64)))))))))) (.prod (.fl (.int .i64)) (.prod (.row (.prod (.fl (.int .i64)) (.fl (.row (.prod (.int .i64) (.prod (.int .i64) (.prod (.int .i64) (.prod (.int .i64) .bool)))))))) (.prod (.int .i64) (.prod (.row (.prod (.fl (.int .i64)) (.fl (.row (.prod (.int .i64) (.prod (.int .i64) (.prod (.int .i64) (.prod (.int .i64) .bool)))))))) (.prod (.int .i64) .bool))))))))))) (.fl (.row (.prod (.int .i64) (.row (.prod (.int .i64) (.prod (.row (.prod (.int .i64) (.int .i64))) (.prod (.row (.prod (.fl (.int .i64)) (.fl (.row (.prod (.int .i64) (.prod (.int .i64) (.prod (.int .i64) (.prod (.int .i64) .bool)))))))) (.row (.prod (.int .i64) (.prod (.int .i64) (.prod (.int .i64) (.int .i64)))))))))))))) (Ty.dflt _))],[]⟩
noncomputable def withyref22_say:Fun:=⟨withyref22_say_e,fun x=>let r:=withyref22_say_r x.1 x.2.1 x.2.2.1; (r.1,(r.2,()))⟩
theorem withyref22_say_ev:evFun Try.prog [withyref22_tell] [⟨[7],[0],⟨[],[],0⟩,[],[],[(1,[]),(2,[])],[]⟩] Try.f165 (codeOf Try.f165) withyref22_say_e=(withyref22_say).fn:=by kernel_rfl
theorem withyref22_say_ok:FunOk Try.prog (withyref22_say):=fun_ok (opers_ok (oks_cons withyref22_tell_ok oks_nil)) Try.call165 Try.func165 (by kernel_rfl) fun x _=>(congrFun (withyref22_say_ev) x).symm
def withyref22_settle_e:Ent:=⟨166,[],[(.pure (.row (.prod (.row (.prod (.int .i64) (.prod (.row (.prod (.int .i64) (.int .i64))) (.prod (.int .i64) (.prod (.int .i64) (.prod (.fl (.row (.prod (.int .i64) (.prod (.int .i64) (.prod (.int .i64) (.row (.prod (.int .i64) (.prod .bool (.prod .bool (.int .i64)))))))))) (.prod (.fl (.int .i64)) (.prod (.row (.prod (.fl (.int .i64)) (.fl (.row (.prod (.int .i64) (.prod (.int .i64) (.prod (.int .i64) (.prod (.int .i64) .bool)))))))) (.prod (.int .i64) (.prod (.row (.prod (.fl (.int .i64)) (.fl (.row (.prod (.int .i64) (.prod (.int .i64) (.prod (.int .i64) (.prod (.int .i64) .bool)))))))) (.prod (.int .i64) .bool))))))))))) (.fl (.row (.prod (.int .i64) (.row (.prod (.int .i64) (.prod (.row (.prod (.int .i64) (.int .i64))) (.prod (.row (.prod (.fl (.int .i64)) (.fl (.row (.prod (.int .i64) (.prod (.int .i64) (.prod (.int .i64) (.prod (.int .i64) .bool)))))))) (.row (.prod (.int .i64) (.prod (.int .i64) (.prod (.int .i64) (.int .i64)))))))))))))) (Ty.dflt _))],[],[(.pure (.row (.prod (.row (.prod (.int .i64) (.prod (.row (.prod (.int .i64) (.int .i64))) (.prod (.int .i64) (.prod (.int .i64) (.prod (.fl (.row (.prod (.int .i64) (.prod (.int .i64) (.prod (.int .i64) (.row (.prod (.int .i64) (.prod .bool (.prod .bool (.int .i64)))))))))) (.prod (.fl (.int .i64)) (.prod (.row (.prod (.fl (.int .i64)) (.fl (.row (.prod (.int .i64) (.prod (.int .i64) (.prod (.int .i64) (.prod (.int .i64) .bool)))))))) (.prod (.int .i64) (.prod (.row (.prod (.fl (.int .i64)) (.fl (.row (.prod (.int .i64) (.prod (.int .i64) (.prod (.int .i64) (.prod (.int .i64) .bool)))))))) (.prod (.int .i64) .bool))))))))))) (.fl (.row (.prod (.int .i64) (.row (.prod (.int .i64) (.prod (.row (.prod (.int .i64) (.int .i64))) (.prod (.row (.prod (.fl (.int .i64)) (.fl (.row (.prod (.int .i64) (.prod (.int .i64) (.prod (.int .i64) (.prod (.int .i64) .bool)))))))) (.row (.prod (.int .i64) (.prod (.int .i64) (.prod (.int .i64) (.int .i64)))))))))))))) (Ty.dflt _))],[]⟩
noncomputable def withyref22_Own_l0 (a1:(Int × ((Int × Int) × (Int × (Int × ((List (Int × (Int × (Int × (Int × (Bool × (Bool × Int))))))) × ((List Int) × (((List Int) × (List (Int × (Int × (Int × (Int × Bool)))))) × (Int × (((List Int) × (List (Int × (Int × (Int × (Int × Bool)))))) × (Int × Bool))))))))))) (s0:HL [.int .i64,(.fl (.int .i64)),(.fl (.row (.prod (.int .i64) (.prod (.int .i64) (.prod (.int .i64) (.prod (.int .i64) .bool))))))]):Bool × Bool × HL [.int .i64,(.fl (.int .i64)),(.fl (.row (.prod (.int .i64) (.prod (.int .i64) (.prod (.int .i64) (.prod (.int .i64) .bool))))))] × HL [.bool,(.fl (.int .i64)),(.fl (.row (.prod (.int .i64) (.prod (.int .i64) (.prod (.int .i64) (.prod (.int .i64) .bool))))))]:=
 let c9:=(decide (s0.1<(a1.2.2.2.2.1.length:Int)))
 let c11:=(Int.toNat s0.1)
 let c12:=(decide (c11<a1.2.2.2.2.1.length))
 let c18:=((a1.2.2.2.2.1[c11]?).getD ((0:Int),((0:Int),((0:Int),((0:Int),(false,(false,(0:Int))))))))
 let c20:=c18.2
 let c22:=c20.2
 let c33:=((a1.1,(c18.1,(c20.1,(c22.1,c22.2.2.2.1))))::([]:List (Int × (Int × (Int × (Int × Bool))))))
 ((cond c9 ((((decide ((0:Int)≤s0.1)) && c12) && c12) && (decide ((s0.2.2.1.length+c33.length)*40≤140737488355328))) true),c9,((IntKind.i64.wrap (s0.1+(1:Int))),s0.2.1,(s0.2.2.1++c33),()),((!c9),s0.2.1,s0.2.2.1,()))
noncomputable def withyref22_Own_r (a1:(Int × ((Int × Int) × (Int × (Int × ((List (Int × (Int × (Int × (Int × (Bool × (Bool × Int))))))) × ((List Int) × (((List Int) × (List (Int × (Int × (Int × (Int × Bool)))))) × (Int × (((List Int) × (List (Int × (Int × (Int × (Int × Bool)))))) × (Int × Bool))))))))))):Bool × ((List Int) × (List (Int × (Int × (Int × (Int × Bool)))))):=
 let c48:=(loopD 0 [.int .i64,(.fl (.int .i64)),(.fl (.row (.prod (.int .i64) (.prod (.int .i64) (.prod (.int .i64) (.prod (.int .i64) .bool))))))] [.bool,(.fl (.int .i64)),(.fl (.row (.prod (.int .i64) (.prod (.int .i64) (.prod (.int .i64) (.prod (.int .i64) .bool))))))] (withyref22_Own_l0 a1) ((0:Int),(a1.1::([]:List Int)),([]:List (Int × (Int × (Int × (Int × Bool))))),()))
 (c48.1,(c48.2.2.1,c48.2.2.2.1))
def withyref22_Own_e:Ent:=⟨184,[],[(.pure (.row (.prod (.int .i64) (.prod (.row (.prod (.int .i64) (.int .i64))) (.prod (.int .i64) (.prod (.int .i64) (.prod (.fl (.row (.prod (.int .i64) (.prod (.int .i64) (.prod (.int .i64) (.row (.prod (.int .i64) (.prod .bool (.prod .bool (.int .i64)))))))))) (.prod (.fl (.int .i64)) (.prod (.row (.prod (.fl (.int .i64)) (.fl (.row (.prod (.int .i64) (.prod (.int .i64) (.prod (.int .i64) (.prod (.int .i64) .bool)))))))) (.prod (.int .i64) (.prod (.row (.prod (.fl (.int .i64)) (.fl (.row (.prod (.int .i64) (.prod (.int .i64) (.prod (.int .i64) (.prod (.int .i64) .bool)))))))) (.prod (.int .i64) .bool))))))))))) (Ty.dflt _))],[(0,(.arr (.int .i64) [] false)),(1,(.arr (.row (.prod (.int .i64) (.prod (.int .i64) (.prod (.int .i64) (.prod (.int .i64) .bool))))) [] false))],[(.row (.pair (.own 0 1) (.own 1 5)))],[]⟩
noncomputable def withyref22_Own:Fun:=⟨withyref22_Own_e,fun x=>let r:=withyref22_Own_r x.1; (r.1,(r.2.1,r.2.2,()))⟩
theorem withyref22_Own_ev:evFun Try.prog [] [⟨[4],[384],⟨[],[(384,⟨.tt,(.var 28 (.row (.pair (.own 576 1) (.own 2306 5))))⟩),(576,⟨.tt,(.arr (.int .i64) [] false)⟩),(2306,⟨.tt,(.arr (.row (.prod (.int .i64) (.prod (.int .i64) (.prod (.int .i64) (.prod (.int .i64) .bool))))) [] false)⟩)],0⟩,[],[384],[(1,[]),(2,[])],[]⟩] Try.f184 (codeOf Try.f184) withyref22_Own_e=(withyref22_Own).fn:=by kernel_rfl
theorem withyref22_Own_ok:FunOk Try.prog (withyref22_Own):=fun_ok (opers_ok oks_nil) Try.call184 Try.func184 (by kernel_rfl) fun x _=>(congrFun (withyref22_Own_ev) x).symm
noncomputable def withyref09_in_l0 (a1:(List Int)) (a2:Int) (s0:HL [.int .i64]):Bool × Bool × HL [.int .i64] × HL [.bool,.bool,.bool]:=
 let c4:=(decide (s0.1<(a1.length:Int)))
 let c6:=(Int.toNat s0.1)
 let c7:=(decide (c6<a1.length))
 let c14:=(((a1[c6]?).getD (0:Int))==a2)
 ((cond c4 (((decide ((0:Int)≤s0.1)) && c7) && c7) true),(c4 && (!c14)),((IntKind.i64.wrap (s0.1+(1:Int))),()),((c4 && c14),true,(!c4),()))
noncomputable def withyref09_in_r (a1:(List Int)) (a2:Int):Bool × (Bool):=
 let c22:=(loopD 0 [.int .i64] [.bool,.bool,.bool] (withyref09_in_l0 a1 a2) ((0:Int),()))
 (c22.1,((cond c22.2.2.2.1 false c22.2.2.1)))
def withyref09_in_e:Ent:=⟨172,[],[(.pure (.fl (.int .i64)) (Ty.dflt _)),(.pure (.int .i64) (Ty.dflt _))],[],[(.pure .bool (Ty.dflt _))],[]⟩
noncomputable def withyref09_in:Fun:=⟨withyref09_in_e,fun x=>let r:=withyref09_in_r x.1 x.2.1; (r.1,(r.2,()))⟩
theorem withyref09_in_ev:evFun Try.prog [] [⟨[5],[],⟨[],[],0⟩,[],[],[(1,[4]),(2,[])],[]⟩,⟨[],[],⟨[],[],0⟩,[],[],[],[(1000003,([5],[]))]⟩] Try.f172 (codeOf Try.f172) withyref09_in_e=(withyref09_in).fn:=by kernel_rfl
theorem withyref09_in_ok:FunOk Try.prog (withyref09_in):=fun_ok (opers_ok oks_nil) Try.call172 Try.func172 (by kernel_rfl) fun x _=>(congrFun (withyref09_in_ev) x).symm
noncomputable def withyref09_Merge_l1 (a1:((List Int) × (List (Int × (Int × (Int × (Int × Bool))))))) (a2:((List Int) × (List (Int × (Int × (Int × (Int × Bool))))))) (s0:HL [.int .i64,(.fl (.int .i64)),(.fl (.row (.prod (.int .i64) (.prod (.int .i64) (.prod (.int .i64) (.prod (.int .i64) .bool))))))]) (s1:HL [.int .i64,(.fl (.int .i64)),(.fl (.row (.prod (.int .i64) (.prod (.int .i64) (.prod (.int .i64) (.prod (.int .i64) .bool))))))]):Bool × Bool × HL [.int .i64,(.fl (.int .i64)),(.fl (.row (.prod (.int .i64) (.prod (.int .i64) (.prod (.int .i64) (.prod (.int .i64) .bool))))))] × HL [.bool,(.fl (.int .i64)),(.fl (.row (.prod (.int .i64) (.prod (.int .i64) (.prod (.int .i64) (.prod (.int .i64) .bool))))))]:=
 let c47:=(decide (s1.1<(a1.2.length:Int)))
 let c49:=(Int.toNat s1.1)
 let c50:=(decide (c49<a1.2.length))
 let c52:=(((decide ((0:Int)≤s1.1)) && c50) && c50)
 let c53:=((a1.2[c49]?).getD ((0:Int),((0:Int),((0:Int),((0:Int),false)))))
 let c55:=(c53.1==s0.1)
 let c59:=(c53::([]:List (Int × (Int × (Int × (Int × Bool))))))
 ((cond c47 (c52 && (cond c55 (c52 && (decide ((s1.2.2.1.length+c59.length)*40≤140737488355328))) true)) true),c47,((IntKind.i64.wrap (s1.1+(1:Int))),s1.2.1,(cond c55 (s1.2.2.1++c59) s1.2.2.1),()),((!c47),s1.2.1,s1.2.2.1,()))
noncomputable def withyref09_Merge_l2 (a1:((List Int) × (List (Int × (Int × (Int × (Int × Bool))))))) (a2:((List Int) × (List (Int × (Int × (Int × (Int × Bool))))))) (s0:HL [.int .i64,(.fl (.int .i64)),(.fl (.row (.prod (.int .i64) (.prod (.int .i64) (.prod (.int .i64) (.prod (.int .i64) .bool))))))]) (s2:HL [.int .i64,(.fl (.int .i64)),(.fl (.row (.prod (.int .i64) (.prod (.int .i64) (.prod (.int .i64) (.prod (.int .i64) .bool))))))]):Bool × Bool × HL [.int .i64,(.fl (.int .i64)),(.fl (.row (.prod (.int .i64) (.prod (.int .i64) (.prod (.int .i64) (.prod (.int .i64) .bool))))))] × HL [.bool,(.fl (.int .i64)),(.fl (.row (.prod (.int .i64) (.prod (.int .i64) (.prod (.int .i64) (.prod (.int .i64) .bool))))))]:=
 let c83:=(decide (s2.1<(a2.2.length:Int)))
 let c85:=(Int.toNat s2.1)
 let c86:=(decide (c85<a2.2.length))
 let c88:=(((decide ((0:Int)≤s2.1)) && c86) && c86)
 let c89:=((a2.2[c85]?).getD ((0:Int),((0:Int),((0:Int),((0:Int),false)))))
 let c91:=(c89.1==s0.1)
 let c94:=(c89::([]:List (Int × (Int × (Int × (Int × Bool))))))
 ((cond c83 (c88 && (cond c91 (c88 && (decide ((s2.2.2.1.length+c94.length)*40≤140737488355328))) true)) true),c83,((IntKind.i64.wrap (s2.1+(1:Int))),s2.2.1,(cond c91 (s2.2.2.1++c94) s2.2.2.1),()),((!c83),s2.2.1,s2.2.2.1,()))
noncomputable def withyref09_Merge_l0 (a1:((List Int) × (List (Int × (Int × (Int × (Int × Bool))))))) (a2:((List Int) × (List (Int × (Int × (Int × (Int × Bool))))))) (s0:HL [.int .i64,(.fl (.int .i64)),(.fl (.row (.prod (.int .i64) (.prod (.int .i64) (.prod (.int .i64) (.prod (.int .i64) .bool))))))]):Bool × Bool × HL [.int .i64,(.fl (.int .i64)),(.fl (.row (.prod (.int .i64) (.prod (.int .i64) (.prod (.int .i64) (.prod (.int .i64) .bool))))))] × HL [.bool,.bool,(.fl (.int .i64)),(.fl (.row (.prod (.int .i64) (.prod (.int .i64) (.prod (.int .i64) (.prod (.int .i64) .bool)))))),.bool,(.fl (.int .i64)),(.fl (.row (.prod (.int .i64) (.prod (.int .i64) (.prod (.int .i64) (.prod (.int .i64) .bool))))))]:=
 let c2:=(decide (s0.1≤(64:Int)))
 let c5:=(withyref09_in_r a1.1 s0.1)
 let c6:=c5.1
 let c7:=c5.2
 let c9:=(cond c7 c7 true)
 let c14:=(withyref09_in_r a2.1 s0.1)
 let c15:=c14.1
 let c20:=c14.2
 let c22:=(cond c7 c20 false)
 let c23:=(!c22)
 let c24:=(!c7)
 let c33:=(cond c7 true c20)
 let c37:=(s0.1::([]:List Int))
 let c77:=(loopD 1 [.int .i64,(.fl (.int .i64)),(.fl (.row (.prod (.int .i64) (.prod (.int .i64) (.prod (.int .i64) (.prod (.int .i64) .bool))))))] [.bool,(.fl (.int .i64)),(.fl (.row (.prod (.int .i64) (.prod (.int .i64) (.prod (.int .i64) (.prod (.int .i64) .bool))))))] (withyref09_Merge_l1 a1 a2 s0) ((0:Int),(cond c33 (s0.2.1++c37) s0.2.1),s0.2.2.1,()))
 let c109:=(loopD 2 [.int .i64,(.fl (.int .i64)),(.fl (.row (.prod (.int .i64) (.prod (.int .i64) (.prod (.int .i64) (.prod (.int .i64) .bool))))))] [.bool,(.fl (.int .i64)),(.fl (.row (.prod (.int .i64) (.prod (.int .i64) (.prod (.int .i64) (.prod (.int .i64) .bool))))))] (withyref09_Merge_l2 a1 a2 s0) ((0:Int),c77.2.2.1,c77.2.2.2.1,()))
 ((cond c2 ((((c6 && c9) && (cond c7 ((c7 && c7) && c15) true)) && c9) && (cond c23 (((((c6 && (cond c24 c24 true)) && (cond c24 ((c24 && c24) && c15) true)) && (cond c7 true c24)) && (cond c33 (decide ((s0.2.1.length+c37.length)*8≤140737488355328)) true)) && (c77.1 && c109.1)) true)) true),(c2 && c23),((IntKind.i64.wrap (s0.1+(1:Int))),c109.2.2.1,c109.2.2.2.1,()),((c2 && c22),false,s0.2.1,s0.2.2.1,(!c2),s0.2.1,s0.2.2.1,()))
noncomputable def withyref09_Merge_r (a1:((List Int) × (List (Int × (Int × (Int × (Int × Bool))))))) (a2:((List Int) × (List (Int × (Int × (Int × (Int × Bool))))))):Bool × (Bool × (List Int) × (List (Int × (Int × (Int × (Int × Bool)))))):=
 let c122:=(loopD 0 [.int .i64,(.fl (.int .i64)),(.fl (.row (.prod (.int .i64) (.prod (.int .i64) (.prod (.int .i64) (.prod (.int .i64) .bool))))))] [.bool,.bool,(.fl (.int .i64)),(.fl (.row (.prod (.int .i64) (.prod (.int .i64) (.prod (.int .i64) (.prod (.int .i64) .bool)))))),.bool,(.fl (.int .i64)),(.fl (.row (.prod (.int .i64) (.prod (.int .i64) (.prod (.int .i64) (.prod (.int .i64) .bool))))))] (withyref09_Merge_l0 a1 a2) ((1:Int),([]:List Int),([]:List (Int × (Int × (Int × (Int × Bool))))),()))
 let c124:=c122.2.2.2.2.2.1
 (c122.1,((cond c124 true c122.2.2.1),(cond c124 c122.2.2.2.2.2.2.1 ([]:List Int)),(cond c124 c122.2.2.2.2.2.2.2.1 ([]:List (Int × (Int × (Int × (Int × Bool))))))))
def withyref09_Merge_e:Ent:=⟨185,[],[(.pure (.row (.prod (.fl (.int .i64)) (.fl (.row (.prod (.int .i64) (.prod (.int .i64) (.prod (.int .i64) (.prod (.int .i64) .bool)))))))) (Ty.dflt _)),(.pure (.row (.prod (.fl (.int .i64)) (.fl (.row (.prod (.int .i64) (.prod (.int .i64) (.prod (.int .i64) (.prod (.int .i64) .bool)))))))) (Ty.dflt _))],[(0,(.arr (.int .i64) [] false)),(1,(.arr (.row (.prod (.int .i64) (.prod (.int .i64) (.prod (.int .i64) (.prod (.int .i64) .bool))))) [] false))],[(.row (.pair (.own 0 1) (.own 1 5))),(.pure .bool (Ty.dflt _))],[]⟩
noncomputable def withyref09_Merge:Fun:=⟨withyref09_Merge_e,fun x=>let r:=withyref09_Merge_r x.1 x.2.1; (r.1,(r.2.1,r.2.2.1,r.2.2.2,()))⟩
theorem withyref09_Merge_ev:evFun Try.prog [withyref09_in] [⟨[7],[128,320],⟨[],[(320,⟨.tt,(.var 28 (.row (.pair (.own 2826 1) (.own 2827 5))))⟩),(2826,⟨.tt,(.arr (.int .i64) [] false)⟩),(2827,⟨.tt,(.arr (.row (.prod (.int .i64) (.prod (.int .i64) (.prod (.int .i64) (.prod (.int .i64) .bool))))) [] false)⟩)],0⟩,[],[320],[(1,[5]),(2,[])],[]⟩,⟨[8],[320],⟨[],[],0⟩,[],[],[(1,[]),(4,[])],[]⟩,⟨[9],[320],⟨[],[],0⟩,[],[],[(1,[]),(6,[])],[]⟩,⟨[],[],⟨[],[],0⟩,[],[],[],[(1000003,([7,8,9],[]))]⟩] Try.f185 (codeOf Try.f185) withyref09_Merge_e=(withyref09_Merge).fn:=by kernel_rfl
theorem withyref09_Merge_ok:FunOk Try.prog (withyref09_Merge):=fun_ok (opers_ok (oks_cons withyref09_in_ok oks_nil)) Try.call185 Try.func185 (by kernel_rfl) fun x _=>(congrFun (withyref09_Merge_ev) x).symm
noncomputable def withyref09_ahead_r (a1:(Int × (Int × (Int × (Int × Bool))))) (a2:(Int × (Int × (Int × (Int × Bool))))):Bool × (Bool):=
 let c4:=(decide (a1.1<a2.1))
 let c5:=(!c4)
 let c7:=(cond c5 c5 true)
 let c9:=(c5 && c5)
 let c12:=(a1.1==a2.1)
 let c13:=(c9 && c12)
 let c14:=(cond c13 c13 true)
 ((((((((c7 && c7) && (cond c5 c9 true)) && c14) && c14) && (cond c13 (c13 && c13) true)) && (cond c5 (c9 && (cond c12 c13 true)) true)) && (cond c4 true c5)),((cond c4 true (cond c12 (decide (a1.2.1<a2.2.1)) false))))
def withyref09_ahead_e:Ent:=⟨173,[],[(.pure (.row (.prod (.int .i64) (.prod (.int .i64) (.prod (.int .i64) (.prod (.int .i64) .bool))))) (Ty.dflt _)),(.pure (.row (.prod (.int .i64) (.prod (.int .i64) (.prod (.int .i64) (.prod (.int .i64) .bool))))) (Ty.dflt _))],[],[(.pure .bool (Ty.dflt _))],[]⟩
noncomputable def withyref09_ahead:Fun:=⟨withyref09_ahead_e,fun x=>let r:=withyref09_ahead_r x.1 x.2.1; (r.1,(r.2,()))⟩
theorem withyref09_ahead_ev:evFun Try.prog [] [] Try.f173 (codeOf Try.f173) withyref09_ahead_e=(withyref09_ahead).fn:=by kernel_rfl
theorem withyref09_ahead_ok:FunOk Try.prog (withyref09_ahead):=fun_ok (opers_ok oks_nil) Try.call173 Try.func173 (by kernel_rfl) fun x _=>(congrFun (withyref09_ahead_ev) x).symm
noncomputable def withyref09_May_l0 (a1:((List Int) × (List (Int × (Int × (Int × (Int × Bool))))))) (s0:HL [.int .i64]):Bool × Bool × HL [.int .i64] × HL [.bool,.bool,.bool]:=
 let c5:=(decide (s0.1<(a1.1.length:Int)))
 let c7:=(Int.toNat s0.1)
 let c8:=(decide (c7<a1.1.length))
 let c9:=((decide ((0:Int)≤s0.1)) && c8)
 let c11:=((a1.1[c7]?).getD (0:Int))
 let c12:=(withyref05_Node_r c11)
 let c16:=(!c12.2)
 let c17:=(!c16)
 let c21:=(c17 && c17)
 let c23:=(decide (s0.1>(0:Int)))
 let c24:=(c21 && c23)
 let c25:=(cond c24 c24 true)
 let c29:=(IntKind.i64.wrap (s0.1 - (1:Int)))
 let c31:=(Int.toNat c29)
 let c32:=(decide (c31<a1.1.length))
 let c63:=(cond c16 true (cond c23 (decide (((a1.1[c31]?).getD (0:Int))≥c11)) false))
 ((cond c5 (((((((((((((c9 && c8) && c12.1) && (cond c17 c17 true)) && c25) && c25) && (cond c24 (c24 && (c24 && ((decide ((0:Int)≤c29)) && c32))) true)) && (cond c24 (c24 && c32) true)) && c25) && (cond c24 (c24 && (c24 && c9)) true)) && (cond c24 (c24 && c8) true)) && (cond c24 (c24 && c24) true)) && (cond c17 (c21 && (cond c23 c24 true)) true)) && (cond c16 true c17)) true),(c5 && (!c63)),((IntKind.i64.wrap (s0.1+(1:Int))),()),((c5 && c63),false,(!c5),()))
noncomputable def withyref09_May_l1 (a1:((List Int) × (List (Int × (Int × (Int × (Int × Bool))))))) (s1:HL [.int .i64]):Bool × Bool × HL [.int .i64] × HL [.bool,.bool,.bool]:=
 let c76:=(decide (s1.1<(a1.2.length:Int)))
 let c78:=(Int.toNat s1.1)
 let c79:=(decide (c78<a1.2.length))
 let c82:=((a1.2[c78]?).getD ((0:Int),((0:Int),((0:Int),((0:Int),false)))))
 let c83:=c82.1
 let c84:=(withyref09_in_r a1.1 c83)
 let c87:=(!c84.2)
 let c88:=(!c87)
 let c89:=(cond c88 c88 true)
 let c91:=c82.2
 let c92:=c91.1
 let c93:=(withyref05_Node_r c92)
 let c103:=(cond c87 true (!c93.2))
 let c104:=(!c103)
 let c105:=(cond c104 c104 true)
 let c114:=(cond c103 true (c83==c92))
 let c115:=(!c114)
 let c116:=(cond c115 c115 true)
 let c121:=c91.2
 let c122:=c121.1
 let c124:=(cond c114 true (decide (c122<(0:Int))))
 let c125:=(!c124)
 let c126:=(cond c125 c125 true)
 let c133:=(cond c124 true (decide (c122>(2147483647:Int))))
 let c134:=(!c133)
 let c135:=(cond c134 c134 true)
 let c141:=c121.2.1
 let c143:=(cond c133 true (decide (c141<(1:Int))))
 let c144:=(!c143)
 let c145:=(cond c144 c144 true)
 let c151:=(cond c143 true (decide (c141>(2147483647:Int))))
 let c152:=(!c151)
 let c153:=(decide (s1.1>(0:Int)))
 let c154:=(cond c153 c153 true)
 let c156:=(IntKind.i64.wrap (s1.1 - (1:Int)))
 let c158:=(Int.toNat c156)
 let c159:=(decide (c158<a1.2.length))
 let c170:=(withyref09_ahead_r ((a1.2[c158]?).getD ((0:Int),((0:Int),((0:Int),((0:Int),false))))) c82)
 let c183:=(cond c153 (!c170.2) false)
 ((cond c76 ((((decide ((0:Int)≤s1.1)) && c79) && c79) && (((((((((((((((((((((c84.1 && c89) && (cond c88 (c88 && c93.1) true)) && c89) && (cond c87 true c88)) && c105) && c105) && (cond c104 (c104 && c104) true)) && (cond c103 true c104)) && c116) && c116) && (cond c114 true c115)) && c126) && c126) && (cond c124 true c125)) && c135) && c135) && (cond c133 true c134)) && c145) && c145) && (cond c143 true c144)) && (cond c152 ((((((c154 && c154) && (cond c153 (c153 && (c153 && ((decide ((0:Int)≤c156)) && c159))) true)) && (cond c153 (c153 && c159) true)) && (cond c153 ((c153 && c153) && c170.1) true)) && c154) && c154) true))) true),(c76 && (c152 && (!c183))),((IntKind.i64.wrap (s1.1+(1:Int))),()),((c76 && (cond c152 c183 c151)),(cond c152 false false),(!c76),()))
noncomputable def withyref09_May_r (a1:((List Int) × (List (Int × (Int × (Int × (Int × Bool))))))):Bool × (Bool):=
 let c69:=(loopD 0 [.int .i64] [.bool,.bool,.bool] (withyref09_May_l0 a1) ((0:Int),()))
 let c71:=c69.2.2.2.1
 let c192:=(loopD 1 [.int .i64] [.bool,.bool,.bool] (withyref09_May_l1 a1) ((0:Int),()))
 ((c69.1 && (cond c71 c192.1 true)),((cond c71 (cond c192.2.2.2.1 true c192.2.2.1) c69.2.2.1)))
def withyref09_May_e:Ent:=⟨134,[],[(.pure (.row (.prod (.fl (.int .i64)) (.fl (.row (.prod (.int .i64) (.prod (.int .i64) (.prod (.int .i64) (.prod (.int .i64) .bool)))))))) (Ty.dflt _))],[],[(.pure .bool (Ty.dflt _))],[]⟩
noncomputable def withyref09_May:Fun:=⟨withyref09_May_e,fun x=>let r:=withyref09_May_r x.1; (r.1,(r.2,()))⟩
theorem withyref09_May_ev:evFun Try.prog [withyref05_Node,withyref09_in,withyref09_ahead] [⟨[3],[],⟨[],[],0⟩,[],[],[(1,[2]),(2,[])],[]⟩,⟨[4],[],⟨[],[],0⟩,[],[],[(1,[2]),(4,[])],[]⟩,⟨[],[],⟨[],[],0⟩,[],[],[],[(1000003,([3,4],[]))]⟩] Try.f134 (codeOf Try.f134) withyref09_May_e=(withyref09_May).fn:=by kernel_rfl
theorem withyref09_May_ok:FunOk Try.prog (withyref09_May):=fun_ok (opers_ok (oks_cons withyref05_Node_ok (oks_cons withyref09_in_ok (oks_cons withyref09_ahead_ok oks_nil)))) Try.call134 Try.func134 (by kernel_rfl) fun x _=>(congrFun (withyref09_May_ev) x).symm
noncomputable def withyref09_Inner_l1 (a1:((List Int) × (List (Int × (Int × (Int × (Int × Bool))))))) (s0:HL [.int .i64,(.fl (.row (.prod (.int .i64) (.prod (.int .i64) (.prod (.int .i64) (.prod (.int .i64) .bool))))))]) (s1:HL [.int .i64,(.fl (.row (.prod (.int .i64) (.prod (.int .i64) (.prod (.int .i64) (.prod (.int .i64) .bool))))))]):Bool × Bool × HL [.int .i64,(.fl (.row (.prod (.int .i64) (.prod (.int .i64) (.prod (.int .i64) (.prod (.int .i64) .bool))))))] × HL [.bool,(.fl (.row (.prod (.int .i64) (.prod (.int .i64) (.prod (.int .i64) (.prod (.int .i64) .bool))))))]:=
 let c7:=(decide (s1.1<(a1.2.length:Int)))
 let c9:=(Int.toNat s0.1)
 let c10:=(decide (c9<a1.2.length))
 let c14:=(Int.toNat s1.1)
 let c15:=(decide (c14<a1.2.length))
 let c19:=((a1.2[c9]?).getD ((0:Int),((0:Int),((0:Int),((0:Int),false)))))
 let c20:=c19.1
 let c21:=c19.2
 let c22:=c21.1
 let c23:=(decide (c20<c22))
 let c25:=(cond c23 c23 true)
 let c31:=((a1.2[c14]?).getD ((0:Int),((0:Int),((0:Int),((0:Int),false)))))
 let c32:=c31.2
 let c36:=(cond c23 (c20==c32.1) false)
 let c37:=(cond c36 c36 true)
 let c46:=(cond c36 (c22==c31.1) false)
 let c47:=(cond c46 c46 true)
 let c54:=c21.2
 let c55:=c54.1
 let c56:=c32.2
 let c59:=(cond c46 (c55==c56.1) false)
 let c60:=(cond c59 c59 true)
 let c67:=c54.2
 let c68:=c67.1
 let c69:=c56.2
 let c72:=(cond c59 (c68==c69.1) false)
 let c73:=c67.2
 let c74:=(cond c73 c73 true)
 let c85:=((c20,(c22,(c55,(c68,(cond c73 c69.2 false)))))::([]:List (Int × (Int × (Int × (Int × Bool))))))
 ((cond c7 ((((((decide ((0:Int)≤s0.1)) && c10) && c10) && ((decide ((0:Int)≤s1.1)) && c15)) && c15) && ((((((((((((((((c25 && c25) && (cond c23 (c23 && c23) true)) && c25) && c37) && c37) && (cond c36 (c36 && c36) true)) && c37) && c47) && c47) && (cond c46 (c46 && c46) true)) && c47) && c60) && c60) && (cond c59 (c59 && c59) true)) && c60) && (cond c72 ((c74 && c74) && (decide ((s1.2.1.length+c85.length)*40≤140737488355328))) true))) true),c7,((IntKind.i64.wrap (s1.1+(1:Int))),(cond c72 (s1.2.1++c85) s1.2.1),()),((!c7),s1.2.1,()))
noncomputable def withyref09_Inner_l0 (a1:((List Int) × (List (Int × (Int × (Int × (Int × Bool))))))) (s0:HL [.int .i64,(.fl (.row (.prod (.int .i64) (.prod (.int .i64) (.prod (.int .i64) (.prod (.int .i64) .bool))))))]):Bool × Bool × HL [.int .i64,(.fl (.row (.prod (.int .i64) (.prod (.int .i64) (.prod (.int .i64) (.prod (.int .i64) .bool))))))] × HL [.bool,(.fl (.row (.prod (.int .i64) (.prod (.int .i64) (.prod (.int .i64) (.prod (.int .i64) .bool))))))]:=
 let c5:=(decide (s0.1<(a1.2.length:Int)))
 let c101:=(loopD 1 [.int .i64,(.fl (.row (.prod (.int .i64) (.prod (.int .i64) (.prod (.int .i64) (.prod (.int .i64) .bool))))))] [.bool,(.fl (.row (.prod (.int .i64) (.prod (.int .i64) (.prod (.int .i64) (.prod (.int .i64) .bool))))))] (withyref09_Inner_l1 a1 s0) ((0:Int),s0.2.1,()))
 ((cond c5 c101.1 true),c5,((IntKind.i64.wrap (s0.1+(1:Int))),c101.2.2.1,()),((!c5),s0.2.1,()))
noncomputable def withyref09_Inner_r (a1:((List Int) × (List (Int × (Int × (Int × (Int × Bool))))))):Bool × ((List (Int × (Int × (Int × (Int × Bool)))))):=
 let c107:=(loopD 0 [.int .i64,(.fl (.row (.prod (.int .i64) (.prod (.int .i64) (.prod (.int .i64) (.prod (.int .i64) .bool))))))] [.bool,(.fl (.row (.prod (.int .i64) (.prod (.int .i64) (.prod (.int .i64) (.prod (.int .i64) .bool))))))] (withyref09_Inner_l0 a1) ((0:Int),([]:List (Int × (Int × (Int × (Int × Bool))))),()))
 (c107.1,(c107.2.2.1))
def withyref09_Inner_e:Ent:=⟨135,[],[(.pure (.row (.prod (.fl (.int .i64)) (.fl (.row (.prod (.int .i64) (.prod (.int .i64) (.prod (.int .i64) (.prod (.int .i64) .bool)))))))) (Ty.dflt _))],[(0,(.arr (.row (.prod (.int .i64) (.prod (.int .i64) (.prod (.int .i64) (.prod (.int .i64) .bool))))) [] false))],[(.own 0 5)],[]⟩
noncomputable def withyref09_Inner:Fun:=⟨withyref09_Inner_e,fun x=>let r:=withyref09_Inner_r x.1; (r.1,(r.2,()))⟩
theorem withyref09_Inner_ev:evFun Try.prog [] [⟨[3,4],[],⟨[],[],0⟩,[],[],[(1,[]),(2,[3])],[]⟩,⟨[5,3],[],⟨[],[],0⟩,[],[],[(1,[]),(4,[3])],[]⟩] Try.f135 (codeOf Try.f135) withyref09_Inner_e=(withyref09_Inner).fn:=by kernel_rfl
theorem withyref09_Inner_ok:FunOk Try.prog (withyref09_Inner):=fun_ok (opers_ok oks_nil) Try.call135 Try.func135 (by kernel_rfl) fun x _=>(congrFun (withyref09_Inner_ev) x).symm
noncomputable def withyref09_Edge_r (a1:(Int × (Int × (Int × (Int × Bool))))):Bool × ((Int × (Int × Int))):=
 (true,((cond (!(decide (a1.2.1<a1.1))) (a1.1,(a1.2.1,a1.2.2.1)) (a1.2.1,(a1.1,a1.2.2.1)))))
def withyref09_Edge_e:Ent:=⟨136,[],[(.pure (.row (.prod (.int .i64) (.prod (.int .i64) (.prod (.int .i64) (.prod (.int .i64) .bool))))) (Ty.dflt _))],[],[(.pure (.row (.prod (.int .i64) (.prod (.int .i64) (.int .i64)))) (Ty.dflt _))],[]⟩
noncomputable def withyref09_Edge:Fun:=⟨withyref09_Edge_e,fun x=>let r:=withyref09_Edge_r x.1; (r.1,(r.2,()))⟩
theorem withyref09_Edge_ev:evFun Try.prog [] [] Try.f136 (codeOf Try.f136) withyref09_Edge_e=(withyref09_Edge).fn:=by kernel_rfl
theorem withyref09_Edge_ok:FunOk Try.prog (withyref09_Edge):=fun_ok (opers_ok oks_nil) Try.call136 Try.func136 (by kernel_rfl) fun x _=>(congrFun (withyref09_Edge_ev) x).symm
noncomputable def withyref09_Bound_l0 (a1:((List Int) × (List (Int × (Int × (Int × (Int × Bool))))))) (s0:HL [.int .i64,(.fl (.row (.prod (.int .i64) (.prod (.int .i64) (.int .i64)))))]):Bool × Bool × HL [.int .i64,(.fl (.row (.prod (.int .i64) (.prod (.int .i64) (.int .i64)))))] × HL [.bool,(.fl (.row (.prod (.int .i64) (.prod (.int .i64) (.int .i64)))))]:=
 let c1:=(withyref09_Inner_r a1)
 let c4:=c1.2
 let c5:=c4.length
 let c7:=(decide (s0.1<(c5:Int)))
 let c9:=(Int.toNat s0.1)
 let c10:=(decide (c9<c5))
 let c12:=(((decide ((0:Int)≤s0.1)) && c10) && c10)
 let c13:=((c4[c9]?).getD ((0:Int),((0:Int),((0:Int),((0:Int),false)))))
 let c17:=c13.2.2.2.2
 let c18:=(withyref09_Edge_r c13)
 let c25:=(c18.2::([]:List (Int × (Int × Int))))
 ((cond c7 (c12 && (cond c17 ((c12 && c18.1) && (decide ((s0.2.1.length+c25.length)*24≤140737488355328))) true)) true),c7,((IntKind.i64.wrap (s0.1+(1:Int))),(cond c17 (s0.2.1++c25) s0.2.1),()),((!c7),s0.2.1,()))
noncomputable def withyref09_Bound_r (a1:((List Int) × (List (Int × (Int × (Int × (Int × Bool))))))):Bool × ((List (Int × (Int × Int)))):=
 let c1:=(withyref09_Inner_r a1)
 let c40:=(loopD 0 [.int .i64,(.fl (.row (.prod (.int .i64) (.prod (.int .i64) (.int .i64)))))] [.bool,(.fl (.row (.prod (.int .i64) (.prod (.int .i64) (.int .i64)))))] (withyref09_Bound_l0 a1) ((0:Int),([]:List (Int × (Int × Int))),()))
 ((c1.1 && c40.1),(c40.2.2.1))
def withyref09_Bound_e:Ent:=⟨104,[],[(.pure (.row (.prod (.fl (.int .i64)) (.fl (.row (.prod (.int .i64) (.prod (.int .i64) (.prod (.int .i64) (.prod (.int .i64) .bool)))))))) (Ty.dflt _))],[(0,(.arr (.row (.prod (.int .i64) (.prod (.int .i64) (.int .i64)))) [] false))],[(.own 0 3)],[]⟩
noncomputable def withyref09_Bound:Fun:=⟨withyref09_Bound_e,fun x=>let r:=withyref09_Bound_r x.1; (r.1,(r.2,()))⟩
theorem withyref09_Bound_ev:evFun Try.prog [withyref09_Inner,withyref09_Edge] [⟨[5,4],[],⟨[],[],0⟩,[],[],[(1,[]),(2,[4])],[]⟩] Try.f104 (codeOf Try.f104) withyref09_Bound_e=(withyref09_Bound).fn:=by kernel_rfl
theorem withyref09_Bound_ok:FunOk Try.prog (withyref09_Bound):=fun_ok (opers_ok (oks_cons withyref09_Inner_ok (oks_cons withyref09_Edge_ok oks_nil))) Try.call104 Try.func104 (by kernel_rfl) fun x _=>(congrFun (withyref09_Bound_ev) x).symm
noncomputable def withyref07_Reach_l1 (a1:(List (Int × (Int × Int)))) (a2:Int) (s1:HL [.int .i64,(.arr 65 .bool)]):Bool × Bool × HL [.int .i64,(.arr 65 .bool)] × HL [.bool,(.arr 65 .bool)]:=
 let c19:=(decide (s1.1<(a1.length:Int)))
 let c21:=(Int.toNat s1.1)
 let c22:=(decide (c21<a1.length))
 let c23:=((decide ((0:Int)≤s1.1)) && c22)
 let c24:=(c23 && c22)
 let c25:=((a1[c21]?).getD ((0:Int),((0:Int),(0:Int))))
 let c26:=c25.1
 let c28:=(Int.toNat c26)
 let c29:=(decide (c28<65))
 let c32:=((c24 && ((decide ((0:Int)≤c26)) && c29)) && c29)
 let c34:=(s1.2.1 c28)
 let c35:=(!c34)
 let c47:=c25.2.1
 let c49:=(Int.toNat c47)
 let c50:=(decide (c49<65))
 let c51:=((decide ((0:Int)≤c47)) && c50)
 let c61:=(cond c34 true (s1.2.1 c49))
 ((cond c19 (((((((c32 && (cond c35 (c35 && (c35 && c23)) true)) && (cond c35 c35 true)) && (cond c35 (c35 && c22) true)) && (cond c35 (c35 && c51) true)) && (cond c35 (c35 && c50) true)) && (cond c34 true c35)) && (cond c61 (c32 && ((c24 && c51) && c50)) true)) true),c19,((IntKind.i64.wrap (s1.1+(1:Int))),(cond c61 (fun j=>bif Nat.beq j c49 then true else (fun j=>bif Nat.beq j c28 then true else s1.2.1 j) j) s1.2.1),()),((!c19),s1.2.1,()))
noncomputable def withyref07_Reach_l0 (a1:(List (Int × (Int × Int)))) (a2:Int) (s0:HL [.int .i64,(.arr 65 .bool)]):Bool × Bool × HL [.int .i64,(.arr 65 .bool)] × HL [.bool,(.arr 65 .bool)]:=
 let c14:=(decide (s0.1<(64:Int)))
 let c76:=(loopD 1 [.int .i64,(.arr 65 .bool)] [.bool,(.arr 65 .bool)] (withyref07_Reach_l1 a1 a2) ((0:Int),s0.2.1,()))
 ((cond c14 c76.1 true),c14,((IntKind.i64.wrap (s0.1+(1:Int))),c76.2.2.1,()),((!c14),s0.2.1,()))
noncomputable def withyref07_Reach_r (a1:(List (Int × (Int × Int)))) (a2:Int):Bool × ((Nat→Bool)):=
 let c1:=(withyref05_Node_r a2)
 let c5:=(!(!c1.2))
 let c7:=(Int.toNat a2)
 let c9:=(decide (c7<65))
 let c83:=(fun i=>((([false,false,false,false,false,false,false,false,false,false,false,false,false,false,false,false,false,false,false,false,false,false,false,false,false,false,false,false,false,false,false,false,false,false,false,false,false,false,false,false,false,false,false,false,false,false,false,false,false,false,false,false,false,false,false,false,false,false,false,false,false,false,false,false,false]:List Bool)[i]?).getD false))
 let c85:=(loopD 0 [.int .i64,(.arr 65 .bool)] [.bool,(.arr 65 .bool)] (withyref07_Reach_l0 a1 a2) ((0:Int),(fun j=>bif Nat.beq j c7 then true else c83 j),()))
 ((c1.1 && (cond c5 ((((decide ((0:Int)≤a2)) && c9) && c9) && c85.1) true)),((cond c5 c85.2.2.1 c83)))
def withyref07_Reach_e:Ent:=⟨94,[],[(.pure (.fl (.row (.prod (.int .i64) (.prod (.int .i64) (.int .i64))))) (Ty.dflt _)),(.pure (.int .i64) (Ty.dflt _))],[],[(.pure (.arr 65 .bool) (Ty.dflt _))],[]⟩
noncomputable def withyref07_Reach:Fun:=⟨withyref07_Reach_e,fun x=>let r:=withyref07_Reach_r x.1 x.2.1; (r.1,(r.2,()))⟩
theorem withyref07_Reach_ev:evFun Try.prog [withyref05_Node] [⟨[6],[128],⟨[],[],0⟩,[],[],[(1,[]),(2,[])],[]⟩,⟨[7],[128],⟨[],[],0⟩,[],[],[(1,[]),(4,[])],[]⟩,⟨[],[],⟨[],[],0⟩,[],[],[],[(1000003,([6,7],[]))]⟩] Try.f94 (codeOf Try.f94) withyref07_Reach_e=(withyref07_Reach).fn:=by kernel_rfl
theorem withyref07_Reach_ok:FunOk Try.prog (withyref07_Reach):=fun_ok (opers_ok (oks_cons withyref05_Node_ok oks_nil)) Try.call94 Try.func94 (by kernel_rfl) fun x _=>(congrFun (withyref07_Reach_ev) x).symm
noncomputable def withyref07_Linked_r (a1:(List (Int × (Int × Int)))) (a2:Int) (a3:Int):Bool × (Bool):=
 let c1:=(withyref05_Node_r a2)
 let c3:=c1.2
 let c5:=(withyref05_Node_r a3)
 let c15:=(cond c3 c5.2 false)
 let c18:=(withyref07_Reach_r a1 a2)
 let c24:=(Int.toNat a3)
 let c26:=(decide (c24<65))
 ((((((c1.1 && (cond c3 (c3 && c5.1) true)) && (cond c3 c3 true)) && (cond c15 ((c15 && c15) && c18.1) true)) && (cond c15 (c15 && (c15 && (((decide ((0:Int)≤a3)) && c26) && c26))) true)) && (cond c15 c15 true)),((cond c15 (c18.2 c24) false)))
def withyref07_Linked_e:Ent:=⟨48,[],[(.pure (.fl (.row (.prod (.int .i64) (.prod (.int .i64) (.int .i64))))) (Ty.dflt _)),(.pure (.int .i64) (Ty.dflt _)),(.pure (.int .i64) (Ty.dflt _))],[],[(.pure .bool (Ty.dflt _))],[]⟩
noncomputable def withyref07_Linked:Fun:=⟨withyref07_Linked_e,fun x=>let r:=withyref07_Linked_r x.1 x.2.1 x.2.2.1; (r.1,(r.2,()))⟩
theorem withyref07_Linked_ev:evFun Try.prog [withyref05_Node,withyref07_Reach] [] Try.f48 (codeOf Try.f48) withyref07_Linked_e=(withyref07_Linked).fn:=by kernel_rfl
theorem withyref07_Linked_ok:FunOk Try.prog (withyref07_Linked):=fun_ok (opers_ok (oks_cons withyref05_Node_ok (oks_cons withyref07_Reach_ok oks_nil))) Try.call48 Try.func48 (by kernel_rfl) fun x _=>(congrFun (withyref07_Linked_ev) x).symm
noncomputable def withyref07_Forest_l0 (a1:(List (Int × (Int × Int)))) (s0:HL [.int .i64]):Bool × Bool × HL [.int .i64] × HL [.bool,.bool,.bool]:=
 let c4:=(decide (s0.1<(a1.length:Int)))
 let c5:=(decide ((0:Int)≤s0.1))
 let c6:=(Int.toNat s0.1)
 let c9:=(decide (c6<a1.length))
 let c10:=(c5 && c9)
 let c18:=((a1[c6]?).getD ((0:Int),((0:Int),(0:Int))))
 let c22:=(withyref07_Linked_r ((a1.drop 0).take c6) c18.1 c18.2.1)
 let c27:=c22.2
 ((cond c4 ((((((c5 && (decide (c6≤a1.length))) && c10) && c9) && c10) && c9) && c22.1) true),(c4 && (!c27)),((IntKind.i64.wrap (s0.1+(1:Int))),()),((c4 && c27),false,(!c4),()))
noncomputable def withyref07_Forest_r (a1:(List (Int × (Int × Int)))):Bool × (Bool):=
 let c36:=(loopD 0 [.int .i64] [.bool,.bool,.bool] (withyref07_Forest_l0 a1) ((0:Int),()))
 (c36.1,((cond c36.2.2.2.1 true c36.2.2.1)))
def withyref07_Forest_e:Ent:=⟨47,[],[(.pure (.fl (.row (.prod (.int .i64) (.prod (.int .i64) (.int .i64))))) (Ty.dflt _))],[],[(.pure .bool (Ty.dflt _))],[]⟩
noncomputable def withyref07_Forest:Fun:=⟨withyref07_Forest_e,fun x=>let r:=withyref07_Forest_r x.1; (r.1,(r.2,()))⟩
theorem withyref07_Forest_ev:evFun Try.prog [withyref07_Linked] [⟨[3],[],⟨[],[],0⟩,[],[],[(1,[2]),(2,[])],[]⟩,⟨[],[],⟨[],[],0⟩,[],[],[],[(1000003,([3],[]))]⟩] Try.f47 (codeOf Try.f47) withyref07_Forest_e=(withyref07_Forest).fn:=by kernel_rfl
theorem withyref07_Forest_ok:FunOk Try.prog (withyref07_Forest):=fun_ok (opers_ok (oks_cons withyref07_Linked_ok oks_nil)) Try.call47 Try.func47 (by kernel_rfl) fun x _=>(congrFun (withyref07_Forest_ev) x).symm
noncomputable def withyref08_without_l0 (a1:(List (Int × (Int × Int)))) (a2:(Int × (Int × Int))) (s0:HL [.int .i64,(.fl (.row (.prod (.int .i64) (.prod (.int .i64) (.int .i64)))))]):Bool × Bool × HL [.int .i64,(.fl (.row (.prod (.int .i64) (.prod (.int .i64) (.int .i64)))))] × HL [.bool,(.fl (.row (.prod (.int .i64) (.prod (.int .i64) (.int .i64)))))]:=
 let c4:=(decide (s0.1<(a1.length:Int)))
 let c6:=(Int.toNat s0.1)
 let c7:=(decide (c6<a1.length))
 let c9:=(((decide ((0:Int)≤s0.1)) && c7) && c7)
 let c10:=((a1[c6]?).getD ((0:Int),((0:Int),(0:Int))))
 let c15:=c10.2
 let c25:=(!((c10.1==a2.1) && ((c15.1==a2.2.1) && (c15.2==a2.2.2))))
 let c29:=(c10::([]:List (Int × (Int × Int))))
 ((cond c4 (c9 && (cond c25 (c9 && (decide ((s0.2.1.length+c29.length)*24≤140737488355328))) true)) true),c4,((IntKind.i64.wrap (s0.1+(1:Int))),(cond c25 (s0.2.1++c29) s0.2.1),()),((!c4),s0.2.1,()))
noncomputable def withyref08_without_r (a1:(List (Int × (Int × Int)))) (a2:(Int × (Int × Int))):Bool × ((List (Int × (Int × Int)))):=
 let c44:=(loopD 0 [.int .i64,(.fl (.row (.prod (.int .i64) (.prod (.int .i64) (.int .i64)))))] [.bool,(.fl (.row (.prod (.int .i64) (.prod (.int .i64) (.int .i64)))))] (withyref08_without_l0 a1 a2) ((0:Int),([]:List (Int × (Int × Int))),()))
 (c44.1,(c44.2.2.1))
def withyref08_without_e:Ent:=⟨174,[],[(.pure (.fl (.row (.prod (.int .i64) (.prod (.int .i64) (.int .i64))))) (Ty.dflt _)),(.pure (.row (.prod (.int .i64) (.prod (.int .i64) (.int .i64)))) (Ty.dflt _))],[(0,(.arr (.row (.prod (.int .i64) (.prod (.int .i64) (.int .i64)))) [] false))],[(.own 0 3)],[]⟩
noncomputable def withyref08_without:Fun:=⟨withyref08_without_e,fun x=>let r:=withyref08_without_r x.1 x.2.1; (r.1,(r.2,()))⟩
theorem withyref08_without_ev:evFun Try.prog [] [⟨[6,5],[],⟨[],[],0⟩,[],[],[(1,[]),(2,[5])],[]⟩] Try.f174 (codeOf Try.f174) withyref08_without_e=(withyref08_without).fn:=by kernel_rfl
theorem withyref08_without_ok:FunOk Try.prog (withyref08_without):=fun_ok (opers_ok oks_nil) Try.call174 Try.func174 (by kernel_rfl) fun x _=>(congrFun (withyref08_without_ev) x).symm
noncomputable def withyref08_On_l0 (a1:(List (Int × (Int × Int)))) (a2:Int) (a3:Int) (s0:HL [.int .i64,(.fl (.row (.prod (.int .i64) (.prod (.int .i64) (.int .i64)))))]):Bool × Bool × HL [.int .i64,(.fl (.row (.prod (.int .i64) (.prod (.int .i64) (.int .i64)))))] × HL [.bool,(.fl (.row (.prod (.int .i64) (.prod (.int .i64) (.int .i64)))))]:=
 let c4:=(decide (s0.1<(a1.length:Int)))
 let c6:=(Int.toNat s0.1)
 let c7:=(decide (c6<a1.length))
 let c9:=(((decide ((0:Int)≤s0.1)) && c7) && c7)
 let c10:=((a1[c6]?).getD ((0:Int),((0:Int),(0:Int))))
 let c11:=(withyref08_without_r a1 c10)
 let c17:=(withyref07_Linked_r c11.2 a2 a3)
 let c21:=(!c17.2)
 let c25:=(c10::([]:List (Int × (Int × Int))))
 ((cond c4 (((c9 && c11.1) && c17.1) && (cond c21 (c9 && (decide ((s0.2.1.length+c25.length)*24≤140737488355328))) true)) true),c4,((IntKind.i64.wrap (s0.1+(1:Int))),(cond c21 (s0.2.1++c25) s0.2.1),()),((!c4),s0.2.1,()))
noncomputable def withyref08_On_r (a1:(List (Int × (Int × Int)))) (a2:Int) (a3:Int):Bool × ((List (Int × (Int × Int)))):=
 let c40:=(loopD 0 [.int .i64,(.fl (.row (.prod (.int .i64) (.prod (.int .i64) (.int .i64)))))] [.bool,(.fl (.row (.prod (.int .i64) (.prod (.int .i64) (.int .i64)))))] (withyref08_On_l0 a1 a2 a3) ((0:Int),([]:List (Int × (Int × Int))),()))
 (c40.1,(c40.2.2.1))
def withyref08_On_e:Ent:=⟨137,[],[(.pure (.fl (.row (.prod (.int .i64) (.prod (.int .i64) (.int .i64))))) (Ty.dflt _)),(.pure (.int .i64) (Ty.dflt _)),(.pure (.int .i64) (Ty.dflt _))],[(0,(.arr (.row (.prod (.int .i64) (.prod (.int .i64) (.int .i64)))) [] false))],[(.own 0 3)],[]⟩
noncomputable def withyref08_On:Fun:=⟨withyref08_On_e,fun x=>let r:=withyref08_On_r x.1 x.2.1 x.2.2.1; (r.1,(r.2,()))⟩
theorem withyref08_On_ev:evFun Try.prog [withyref08_without,withyref07_Linked] [⟨[8,7],[],⟨[],[],0⟩,[],[],[(1,[]),(2,[7])],[]⟩] Try.f137 (codeOf Try.f137) withyref08_On_e=(withyref08_On).fn:=by kernel_rfl
theorem withyref08_On_ok:FunOk Try.prog (withyref08_On):=fun_ok (opers_ok (oks_cons withyref08_without_ok (oks_cons withyref07_Linked_ok oks_nil))) Try.call137 Try.func137 (by kernel_rfl) fun x _=>(congrFun (withyref08_On_ev) x).symm
noncomputable def withyref05_Less_r (a1:(Int × (Int × Int))) (a2:(Int × (Int × Int))):Bool × (Bool):=
 let c7:=(!(a1.2.2 !=a2.2.2))
 let c10:=(decide (a1.1<a2.1))
 let c11:=(!c10)
 let c13:=(cond c11 c11 true)
 let c15:=(c11 && c11)
 let c18:=(a1.1==a2.1)
 let c19:=(c15 && c18)
 let c20:=(cond c19 c19 true)
 ((cond c7 (((((((c13 && c13) && (cond c11 c15 true)) && c20) && c20) && (cond c19 (c19 && c19) true)) && (cond c11 (c15 && (cond c18 c19 true)) true)) && (cond c10 true c11)) true),((cond c7 (cond c10 true (cond c18 (decide (a1.2.1<a2.2.1)) false)) (decide (a1.2.2<a2.2.2)))))
def withyref05_Less_e:Ent:=⟨50,[],[(.pure (.row (.prod (.int .i64) (.prod (.int .i64) (.int .i64)))) (Ty.dflt _)),(.pure (.row (.prod (.int .i64) (.prod (.int .i64) (.int .i64)))) (Ty.dflt _))],[],[(.pure .bool (Ty.dflt _))],[]⟩
noncomputable def withyref05_Less:Fun:=⟨withyref05_Less_e,fun x=>let r:=withyref05_Less_r x.1 x.2.1; (r.1,(r.2,()))⟩
theorem withyref05_Less_ev:evFun Try.prog [] [] Try.f50 (codeOf Try.f50) withyref05_Less_e=(withyref05_Less).fn:=by kernel_rfl
theorem withyref05_Less_ok:FunOk Try.prog (withyref05_Less):=fun_ok (opers_ok oks_nil) Try.call50 Try.func50 (by kernel_rfl) fun x _=>(congrFun (withyref05_Less_ev) x).symm
noncomputable def withyref08_Heaviest_l0 (a1:(List (Int × (Int × Int)))) (s0:HL [.int .i64,(.row (.prod (.int .i64) (.prod (.int .i64) (.int .i64))))]):Bool × Bool × HL [.int .i64,(.row (.prod (.int .i64) (.prod (.int .i64) (.int .i64))))] × HL [.bool,(.row (.prod (.int .i64) (.prod (.int .i64) (.int .i64))))]:=
 let c10:=(decide (s0.1<(a1.length:Int)))
 let c12:=(Int.toNat s0.1)
 let c13:=(decide (c12<a1.length))
 let c15:=(((decide ((0:Int)≤s0.1)) && c13) && c13)
 let c17:=((a1[c12]?).getD ((0:Int),((0:Int),(0:Int))))
 let c18:=(withyref05_Less_r s0.2.1 c17)
 let c21:=c18.2
 ((cond c10 ((c15 && c18.1) && (cond c21 c15 true)) true),c10,((IntKind.i64.wrap (s0.1+(1:Int))),(cond c21 c17 s0.2.1),()),((!c10),s0.2.1,()))
noncomputable def withyref08_Heaviest_r (a1:(List (Int × (Int × Int)))):Bool × ((Int × (Int × Int))):=
 let c2:=(Int.toNat (0:Int))
 let c5:=(decide (c2<a1.length))
 let c31:=(loopD 0 [.int .i64,(.row (.prod (.int .i64) (.prod (.int .i64) (.int .i64))))] [.bool,(.row (.prod (.int .i64) (.prod (.int .i64) (.int .i64))))] (withyref08_Heaviest_l0 a1) ((0:Int),((a1[c2]?).getD ((0:Int),((0:Int),(0:Int)))),()))
 (((((decide ((0:Int)≤(0:Int))) && c5) && c5) && c31.1),(c31.2.2.1))
def withyref08_Heaviest_e:Ent:=⟨197,[],[(.pure (.fl (.row (.prod (.int .i64) (.prod (.int .i64) (.int .i64))))) (Ty.dflt _))],[],[(.pure (.row (.prod (.int .i64) (.prod (.int .i64) (.int .i64)))) (Ty.dflt _))],[]⟩
noncomputable def withyref08_Heaviest:Fun:=⟨withyref08_Heaviest_e,fun x=>let r:=withyref08_Heaviest_r x.1; (r.1,(r.2,()))⟩
theorem withyref08_Heaviest_ev:evFun Try.prog [withyref05_Less] [⟨[4],[256],⟨[],[],0⟩,[],[],[(1,[]),(2,[])],[]⟩] Try.f197 (codeOf Try.f197) withyref08_Heaviest_e=(withyref08_Heaviest).fn:=by kernel_rfl
theorem withyref08_Heaviest_ok:FunOk Try.prog (withyref08_Heaviest):=fun_ok (opers_ok (oks_cons withyref05_Less_ok oks_nil)) Try.call197 Try.func197 (by kernel_rfl) fun x _=>(congrFun (withyref08_Heaviest_ev) x).symm
noncomputable def withyref10_First_l0 (a1:(List (Int × (Int × (Int × (Int × Bool)))))) (s0:HL [.int .i64,.int .i64]):Bool × Bool × HL [.int .i64,.int .i64] × HL [.bool,.int .i64]:=
 let c4:=(decide (s0.1<(a1.length:Int)))
 let c7:=(decide (s0.2.1<(0:Int)))
 let c8:=(!c7)
 let c10:=(Int.toNat s0.1)
 let c11:=(decide (c10<a1.length))
 let c21:=(withyref09_Edge_r ((a1[c10]?).getD ((0:Int),((0:Int),((0:Int),((0:Int),false))))))
 let c27:=(Int.toNat s0.2.1)
 let c28:=(decide (c27<a1.length))
 let c38:=(withyref09_Edge_r ((a1[c27]?).getD ((0:Int),((0:Int),((0:Int),((0:Int),false))))))
 let c46:=(withyref05_Less_r c21.2 c38.2)
 ((cond c4 ((((((((cond c8 (c8 && (c8 && ((decide ((0:Int)≤s0.1)) && c11))) true) && (cond c8 (c8 && c11) true)) && (cond c8 (c8 && c21.1) true)) && (cond c8 (c8 && (c8 && ((decide ((0:Int)≤s0.2.1)) && c28))) true)) && (cond c8 (c8 && c28) true)) && (cond c8 (c8 && c38.1) true)) && (cond c8 ((c8 && c8) && c46.1) true)) && (cond c7 true c8)) true),c4,((IntKind.i64.wrap (s0.1+(1:Int))),(cond (cond c7 true c46.2) s0.1 s0.2.1),()),((!c4),s0.2.1,()))
noncomputable def withyref10_First_r (a1:(List (Int × (Int × (Int × (Int × Bool)))))):Bool × (Int):=
 let c61:=(loopD 0 [.int .i64,.int .i64] [.bool,.int .i64] (withyref10_First_l0 a1) ((0:Int),(-1:Int),()))
 (c61.1,(c61.2.2.1))
def withyref10_First_e:Ent:=⟨198,[],[(.pure (.fl (.row (.prod (.int .i64) (.prod (.int .i64) (.prod (.int .i64) (.prod (.int .i64) .bool)))))) (Ty.dflt _))],[],[(.pure (.int .i64) (Ty.dflt _))],[]⟩
noncomputable def withyref10_First:Fun:=⟨withyref10_First_e,fun x=>let r:=withyref10_First_r x.1; (r.1,(r.2,()))⟩
theorem withyref10_First_ev:evFun Try.prog [withyref09_Edge,withyref05_Less] [⟨[4,3],[],⟨[],[],0⟩,[],[],[(1,[]),(2,[3])],[]⟩] Try.f198 (codeOf Try.f198) withyref10_First_e=(withyref10_First).fn:=by kernel_rfl
theorem withyref10_First_ok:FunOk Try.prog (withyref10_First):=fun_ok (opers_ok (oks_cons withyref09_Edge_ok (oks_cons withyref05_Less_ok oks_nil))) Try.call198 Try.func198 (by kernel_rfl) fun x _=>(congrFun (withyref10_First_ev) x).symm
noncomputable def withyref09_Outer_l0 (a1:((List Int) × (List (Int × (Int × (Int × (Int × Bool))))))) (s0:HL [.int .i64,(.fl (.row (.prod (.int .i64) (.prod (.int .i64) (.prod (.int .i64) (.prod (.int .i64) .bool))))))]):Bool × Bool × HL [.int .i64,(.fl (.row (.prod (.int .i64) (.prod (.int .i64) (.prod (.int .i64) (.prod (.int .i64) .bool))))))] × HL [.bool,(.fl (.row (.prod (.int .i64) (.prod (.int .i64) (.prod (.int .i64) (.prod (.int .i64) .bool))))))]:=
 let c5:=(decide (s0.1<(a1.2.length:Int)))
 let c7:=(Int.toNat s0.1)
 let c8:=(decide (c7<a1.2.length))
 let c10:=(((decide ((0:Int)≤s0.1)) && c8) && c8)
 let c12:=((a1.2[c7]?).getD ((0:Int),((0:Int),((0:Int),((0:Int),false)))))
 let c15:=(withyref09_in_r a1.1 c12.2.1)
 let c19:=(!c15.2)
 let c23:=(c12::([]:List (Int × (Int × (Int × (Int × Bool))))))
 ((cond c5 ((c10 && c15.1) && (cond c19 (c10 && (decide ((s0.2.1.length+c23.length)*40≤140737488355328))) true)) true),c5,((IntKind.i64.wrap (s0.1+(1:Int))),(cond c19 (s0.2.1++c23) s0.2.1),()),((!c5),s0.2.1,()))
noncomputable def withyref09_Outer_r (a1:((List Int) × (List (Int × (Int × (Int × (Int × Bool))))))):Bool × ((List (Int × (Int × (Int × (Int × Bool)))))):=
 let c38:=(loopD 0 [.int .i64,(.fl (.row (.prod (.int .i64) (.prod (.int .i64) (.prod (.int .i64) (.prod (.int .i64) .bool))))))] [.bool,(.fl (.row (.prod (.int .i64) (.prod (.int .i64) (.prod (.int .i64) (.prod (.int .i64) .bool))))))] (withyref09_Outer_l0 a1) ((0:Int),([]:List (Int × (Int × (Int × (Int × Bool))))),()))
 (c38.1,(c38.2.2.1))
def withyref09_Outer_e:Ent:=⟨199,[],[(.pure (.row (.prod (.fl (.int .i64)) (.fl (.row (.prod (.int .i64) (.prod (.int .i64) (.prod (.int .i64) (.prod (.int .i64) .bool)))))))) (Ty.dflt _))],[(0,(.arr (.row (.prod (.int .i64) (.prod (.int .i64) (.prod (.int .i64) (.prod (.int .i64) .bool))))) [] false))],[(.own 0 5)],[]⟩
noncomputable def withyref09_Outer:Fun:=⟨withyref09_Outer_e,fun x=>let r:=withyref09_Outer_r x.1; (r.1,(r.2,()))⟩
theorem withyref09_Outer_ev:evFun Try.prog [withyref09_in] [⟨[4,3],[],⟨[],[],0⟩,[],[],[(1,[]),(2,[3])],[]⟩] Try.f199 (codeOf Try.f199) withyref09_Outer_e=(withyref09_Outer).fn:=by kernel_rfl
theorem withyref09_Outer_ok:FunOk Try.prog (withyref09_Outer):=fun_ok (opers_ok (oks_cons withyref09_in_ok oks_nil)) Try.call199 Try.func199 (by kernel_rfl) fun x _=>(congrFun (withyref09_Outer_ev) x).symm
noncomputable def withyref10_Choose_l0 (a1:((List Int) × (List (Int × (Int × (Int × (Int × Bool))))))) (s0:HL [.int .i64,(.fl (.row (.prod (.int .i64) (.prod (.int .i64) (.prod (.int .i64) (.prod (.int .i64) .bool))))))]):Bool × Bool × HL [.int .i64,(.fl (.row (.prod (.int .i64) (.prod (.int .i64) (.prod (.int .i64) (.prod (.int .i64) .bool))))))] × HL [.bool,(.fl (.row (.prod (.int .i64) (.prod (.int .i64) (.prod (.int .i64) (.prod (.int .i64) .bool))))))]:=
 let c1:=(withyref09_Inner_r a1)
 let c3:=(withyref09_Bound_r a1)
 let c6:=c1.2
 let c7:=c6.length
 let c8:=(c7:Int)
 let c9:=(decide (s0.1<c8))
 let c11:=(Int.toNat s0.1)
 let c12:=(decide (c11<c7))
 let c14:=(((decide ((0:Int)≤s0.1)) && c12) && c12)
 let c15:=((c6[c11]?).getD ((0:Int),((0:Int),((0:Int),((0:Int),false)))))
 let c16:=(withyref09_Edge_r c15)
 let c23:=(!c15.2.2.2.2)
 let c25:=(cond c23 c23 true)
 let c30:=c3.2
 let c31:=c16.2
 let c32:=c31.1
 let c34:=c31.2.1
 let c35:=(withyref07_Linked_r c30 c32 c34)
 let c43:=(cond c23 c35.2 false)
 let c44:=(cond c43 c43 true)
 let c47:=(c43 && c43)
 let c49:=(withyref08_On_r c30 c32 c34)
 let c55:=(withyref08_Heaviest_r c49.2)
 let c62:=(withyref05_Less_r c31 c55.2)
 let c69:=(cond c43 c62.2 false)
 let c73:=(c15::([]:List (Int × (Int × (Int × (Int × Bool))))))
 ((cond c9 ((c14 && c16.1) && (((((((((((c14 && c25) && c25) && (cond c23 ((c23 && (c23 && c23)) && c35.1) true)) && c25) && c44) && c44) && (cond c43 ((c43 && c47) && c49.1) true)) && (cond c43 (c43 && (c43 && c55.1)) true)) && (cond c43 (c47 && c62.1) true)) && c44) && (cond c69 (c14 && (decide ((s0.2.1.length+c73.length)*40≤140737488355328))) true))) true),c9,((IntKind.i64.wrap (s0.1+(1:Int))),(cond c69 (s0.2.1++c73) s0.2.1),()),((!c9),s0.2.1,()))
noncomputable def withyref10_Choose_l1 (a1:((List Int) × (List (Int × (Int × (Int × (Int × Bool))))))) (s1:HL [.int .i64,(.row (.prod (.int .i64) (.prod (.int .i64) (.prod (.int .i64) (.int .i64)))))]):Bool × Bool × HL [.int .i64,(.row (.prod (.int .i64) (.prod (.int .i64) (.prod (.int .i64) (.int .i64)))))] × HL [.bool,(.row (.prod (.int .i64) (.prod (.int .i64) (.prod (.int .i64) (.int .i64))))),.bool,(.row (.prod (.int .i64) (.prod (.int .i64) (.prod (.int .i64) (.int .i64)))))]:=
 let c1:=(withyref09_Inner_r a1)
 let c3:=(withyref09_Bound_r a1)
 let c6:=c1.2
 let c7:=c6.length
 let c8:=(c7:Int)
 let c30:=c3.2
 let c88:=(loopD 0 [.int .i64,(.fl (.row (.prod (.int .i64) (.prod (.int .i64) (.prod (.int .i64) (.prod (.int .i64) .bool))))))] [.bool,(.fl (.row (.prod (.int .i64) (.prod (.int .i64) (.prod (.int .i64) (.prod (.int .i64) .bool))))))] (withyref10_Choose_l0 a1) ((0:Int),([]:List (Int × (Int × (Int × (Int × Bool))))),()))
 let c90:=c88.2.2.1
 let c91:=(withyref10_First_r c90)
 let c93:=c91.2
 let c96:=(Int.toNat c93)
 let c102:=(withyref09_Edge_r ((c90[c96]?).getD ((0:Int),((0:Int),((0:Int),((0:Int),false))))))
 let c105:=c102.2
 let c109:=(withyref08_On_r c30 c105.1 c105.2.1)
 let c112:=(withyref08_Heaviest_r c109.2)
 let c116:=(decide (s1.1<c8))
 let c118:=(Int.toNat s1.1)
 let c119:=(decide (c118<c7))
 let c121:=(((decide ((0:Int)≤s1.1)) && c119) && c119)
 let c122:=((c6[c118]?).getD ((0:Int),((0:Int),((0:Int),((0:Int),false)))))
 let c123:=(withyref09_Edge_r c122)
 let c126:=c123.2
 let c128:=c112.2
 let c129:=c128.1
 let c131:=c126.2
 let c133:=c128.2
 let c134:=c133.1
 let c140:=((c126.1==c129) && ((c131.1==c134) && (c131.2==c133.2)))
 ((cond c116 ((c121 && c123.1) && (cond c140 c121 true)) true),(c116 && (!c140)),((IntKind.i64.wrap (s1.1+(1:Int))),s1.2.1,()),((c116 && c140),((3:Int),(c129,(c134,c122.2.2.2.1))),(!c116),s1.2.1,()))
noncomputable def withyref10_Choose_r (a1:((List Int) × (List (Int × (Int × (Int × (Int × Bool))))))):Bool × ((Int × (Int × (Int × Int)))):=
 let c1:=(withyref09_Inner_r a1)
 let c3:=(withyref09_Bound_r a1)
 let c30:=c3.2
 let c88:=(loopD 0 [.int .i64,(.fl (.row (.prod (.int .i64) (.prod (.int .i64) (.prod (.int .i64) (.prod (.int .i64) .bool))))))] [.bool,(.fl (.row (.prod (.int .i64) (.prod (.int .i64) (.prod (.int .i64) (.prod (.int .i64) .bool))))))] (withyref10_Choose_l0 a1) ((0:Int),([]:List (Int × (Int × (Int × (Int × Bool))))),()))
 let c90:=c88.2.2.1
 let c91:=(withyref10_First_r c90)
 let c93:=c91.2
 let c94:=(decide (c93≥(0:Int)))
 let c96:=(Int.toNat c93)
 let c98:=(decide (c96<c90.length))
 let c102:=(withyref09_Edge_r ((c90[c96]?).getD ((0:Int),((0:Int),((0:Int),((0:Int),false))))))
 let c105:=c102.2
 let c109:=(withyref08_On_r c30 c105.1 c105.2.1)
 let c112:=(withyref08_Heaviest_r c109.2)
 let c159:=((0:Int),((0:Int),(0:Int)))
 let c161:=(loopD 1 [.int .i64,(.row (.prod (.int .i64) (.prod (.int .i64) (.prod (.int .i64) (.int .i64)))))] [.bool,(.row (.prod (.int .i64) (.prod (.int .i64) (.prod (.int .i64) (.int .i64))))),.bool,(.row (.prod (.int .i64) (.prod (.int .i64) (.prod (.int .i64) (.int .i64)))))] (withyref10_Choose_l1 a1) ((0:Int),((0:Int),c159),()))
 let c168:=(cond c94 c161.2.2.2.1 true)
 let c169:=(withyref09_Outer_r a1)
 let c171:=c169.2
 let c172:=(withyref10_First_r c171)
 let c174:=c172.2
 let c175:=(decide (c174≥(0:Int)))
 let c177:=(Int.toNat c174)
 let c179:=(decide (c177<c171.length))
 let c180:=((decide ((0:Int)≤c174)) && c179)
 let c197:=((c171[c177]?).getD ((0:Int),((0:Int),((0:Int),((0:Int),false)))))
 let c199:=c197.2
 ((c1.1 && (c3.1 && (c88.1 && ((c91.1 && (cond c94 (((((decide ((0:Int)≤c93)) && c98) && c98) && c102.1) && ((c109.1 && c112.1) && c161.1)) true)) && (cond c168 (c169.1 && (c172.1 && (cond c175 (((((c180 && c179) && c180) && c179) && c180) && c179) true))) true))))),((cond c168 (cond (!c175) ((1:Int),c159) ((2:Int),(c197.1,(c199.1,c199.2.2.1)))) c161.2.2.1)))
def withyref10_Choose_e:Ent:=⟨187,[],[(.pure (.row (.prod (.fl (.int .i64)) (.fl (.row (.prod (.int .i64) (.prod (.int .i64) (.prod (.int .i64) (.prod (.int .i64) .bool)))))))) (Ty.dflt _))],[],[(.pure (.row (.prod (.int .i64) (.prod (.int .i64) (.prod (.int .i64) (.int .i64))))) (Ty.dflt _))],[]⟩
noncomputable def withyref10_Choose:Fun:=⟨withyref10_Choose_e,fun x=>let r:=withyref10_Choose_r x.1; (r.1,(r.2,()))⟩
theorem withyref10_Choose_ev:evFun Try.prog [withyref09_Inner,withyref09_Bound,withyref09_Edge,withyref07_Linked,withyref08_On,withyref08_Heaviest,withyref05_Less,withyref10_First,withyref09_Outer] [⟨[6,5],[],⟨[(4,(.pure (.fl (.row (.prod (.int .i64) (.prod (.int .i64) (.int .i64))))) (Ty.dflt _))),(17,(.pure (.fl (.row (.prod (.int .i64) (.prod (.int .i64) (.int .i64))))) (Ty.dflt _)))],[],0⟩,[4,17],[],[(1,[]),(2,[5])],[]⟩,⟨[11],[64],⟨[],[],0⟩,[],[],[(1,[]),(4,[])],[]⟩,⟨[],[],⟨[],[],0⟩,[],[],[],[(1000003,([5,6,11],[]))]⟩] Try.f187 (codeOf Try.f187) withyref10_Choose_e=(withyref10_Choose).fn:=by kernel_rfl
theorem withyref10_Choose_ok:FunOk Try.prog (withyref10_Choose):=fun_ok (opers_ok (oks_cons withyref09_Inner_ok (oks_cons withyref09_Bound_ok (oks_cons withyref09_Edge_ok (oks_cons withyref07_Linked_ok (oks_cons withyref08_On_ok (oks_cons withyref08_Heaviest_ok (oks_cons withyref05_Less_ok (oks_cons withyref10_First_ok (oks_cons withyref09_Outer_ok oks_nil)))))))))) Try.call187 Try.func187 (by kernel_rfl) fun x _=>(congrFun (withyref10_Choose_ev) x).symm
noncomputable def withyref22_At_l0 (a1:(Int × ((Int × Int) × (Int × (Int × ((List (Int × (Int × (Int × (Int × (Bool × (Bool × Int))))))) × ((List Int) × (((List Int) × (List (Int × (Int × (Int × (Int × Bool)))))) × (Int × (((List Int) × (List (Int × (Int × (Int × (Int × Bool)))))) × (Int × Bool))))))))))) (a2:Int) (s0:HL [.int .i64]):Bool × Bool × HL [.int .i64] × HL [.bool,.int .i64,.bool]:=
 let c9:=(decide (s0.1<(a1.2.2.2.2.1.length:Int)))
 let c11:=(Int.toNat s0.1)
 let c12:=(decide (c11<a1.2.2.2.2.1.length))
 let c20:=(((a1.2.2.2.2.1[c11]?).getD ((0:Int),((0:Int),((0:Int),((0:Int),(false,(false,(0:Int)))))))).1==a2)
 ((cond c9 (((decide ((0:Int)≤s0.1)) && c12) && c12) true),(c9 && (!c20)),((IntKind.i64.wrap (s0.1+(1:Int))),()),((c9 && c20),s0.1,(!c9),()))
noncomputable def withyref22_At_r (a1:(Int × ((Int × Int) × (Int × (Int × ((List (Int × (Int × (Int × (Int × (Bool × (Bool × Int))))))) × ((List Int) × (((List Int) × (List (Int × (Int × (Int × (Int × Bool)))))) × (Int × (((List Int) × (List (Int × (Int × (Int × (Int × Bool)))))) × (Int × Bool))))))))))) (a2:Int):Bool × (Int):=
 let c28:=(loopD 0 [.int .i64] [.bool,.int .i64,.bool] (withyref22_At_l0 a1 a2) ((0:Int),()))
 (c28.1,((cond c28.2.2.2.1 (-1:Int) c28.2.2.1)))
def withyref22_At_e:Ent:=⟨194,[],[(.pure (.row (.prod (.int .i64) (.prod (.row (.prod (.int .i64) (.int .i64))) (.prod (.int .i64) (.prod (.int .i64) (.prod (.fl (.row (.prod (.int .i64) (.prod (.int .i64) (.prod (.int .i64) (.row (.prod (.int .i64) (.prod .bool (.prod .bool (.int .i64)))))))))) (.prod (.fl (.int .i64)) (.prod (.row (.prod (.fl (.int .i64)) (.fl (.row (.prod (.int .i64) (.prod (.int .i64) (.prod (.int .i64) (.prod (.int .i64) .bool)))))))) (.prod (.int .i64) (.prod (.row (.prod (.fl (.int .i64)) (.fl (.row (.prod (.int .i64) (.prod (.int .i64) (.prod (.int .i64) (.prod (.int .i64) .bool)))))))) (.prod (.int .i64) .bool))))))))))) (Ty.dflt _)),(.pure (.int .i64) (Ty.dflt _))],[],[(.pure (.int .i64) (Ty.dflt _))],[]⟩
noncomputable def withyref22_At:Fun:=⟨withyref22_At_e,fun x=>let r:=withyref22_At_r x.1 x.2.1; (r.1,(r.2,()))⟩
theorem withyref22_At_ev:evFun Try.prog [] [⟨[5],[],⟨[],[],0⟩,[],[],[(1,[4]),(2,[])],[]⟩,⟨[],[],⟨[],[],0⟩,[],[],[],[(1000003,([5],[]))]⟩] Try.f194 (codeOf Try.f194) withyref22_At_e=(withyref22_At).fn:=by kernel_rfl
theorem withyref22_At_ok:FunOk Try.prog (withyref22_At):=fun_ok (opers_ok oks_nil) Try.call194 Try.func194 (by kernel_rfl) fun x _=>(congrFun (withyref22_At_ev) x).symm
noncomputable def withyref21_bind_r (a1:(Int × (Bool × (Bool × Int)))):Bool × ((Int × (Bool × (Bool × Int)))):=
 let c3:=(a1.1==(2:Int))
 let c5:=(cond c3 c3 true)
 (((c5 && c5) && c5),(((0:Int),(false,(true,(cond (cond c3 (decide (a1.2.2.2<(2147483647:Int))) false) (a1.1,(a1.2.1,(a1.2.2.1,(IntKind.i64.wrap (a1.2.2.2+(1:Int)))))) a1).2.2.2)))))
def withyref21_bind_e:Ent:=⟨200,[],[(.pure (.row (.prod (.int .i64) (.prod .bool (.prod .bool (.int .i64))))) (Ty.dflt _))],[],[(.pure (.row (.prod (.int .i64) (.prod .bool (.prod .bool (.int .i64))))) (Ty.dflt _))],[]⟩
noncomputable def withyref21_bind:Fun:=⟨withyref21_bind_e,fun x=>let r:=withyref21_bind_r x.1; (r.1,(r.2,()))⟩
theorem withyref21_bind_ev:evFun Try.prog [] [] Try.f200 (codeOf Try.f200) withyref21_bind_e=(withyref21_bind).fn:=by kernel_rfl
theorem withyref21_bind_ok:FunOk Try.prog (withyref21_bind):=fun_ok (opers_ok oks_nil) Try.call200 Try.func200 (by kernel_rfl) fun x _=>(congrFun (withyref21_bind_ev) x).symm
noncomputable def withyref21_Grant_r (a1:(Int × (Bool × (Bool × Int)))):Bool × ((Int × (Bool × (Bool × Int))) × (Bool × (Bool × Bool)) × (List Int)):=
 let c3:=(a1.1==(0:Int))
 let c5:=(cond c3 c3 true)
 let c13:=(cond c3 (!a1.2.2.1) false)
 let c16:=((4:Int)::([]:List Int))
 let c20:=(withyref21_bind_r a1)
 let c31:=(false,false)
 let c33:=(false,c31)
 ((((c5 && c5) && c5) && (cond c13 ((decide (c16.length*8≤140737488355328)) && (cond a1.2.1 c20.1 true)) true)),((cond c13 (cond a1.2.1 c20.2 ((1:Int),a1.2)) a1),(cond c13 (cond a1.2.1 (true,c31) c33) c33),(cond c13 c16 ([]:List Int))))
def withyref21_Grant_e:Ent:=⟨195,[],[(.pure (.row (.prod (.int .i64) (.prod .bool (.prod .bool (.int .i64))))) (Ty.dflt _))],[(0,(.arr (.int .i64) [] false))],[(.pure (.row (.prod (.int .i64) (.prod .bool (.prod .bool (.int .i64))))) (Ty.dflt _)),(.row (.pair (.own 0 1) (.pure (.prod .bool (.prod .bool .bool)) (Ty.dflt _))))],[]⟩
noncomputable def withyref21_Grant:Fun:=⟨withyref21_Grant_e,fun x=>let r:=withyref21_Grant_r x.1; (r.1,(r.2.1,r.2.2.1,r.2.2.2,()))⟩
theorem withyref21_Grant_ev:evFun Try.prog [withyref21_bind] [] Try.f195 (codeOf Try.f195) withyref21_Grant_e=(withyref21_Grant).fn:=by kernel_rfl
theorem withyref21_Grant_ok:FunOk Try.prog (withyref21_Grant):=fun_ok (opers_ok (oks_cons withyref21_bind_ok oks_nil)) Try.call195 Try.func195 (by kernel_rfl) fun x _=>(congrFun (withyref21_Grant_ev) x).symm
noncomputable def withyref21_Part_r (a1:(Int × (Bool × (Bool × Int)))):Bool × ((Int × (Bool × (Bool × Int))) × (Bool × (Bool × Bool)) × (List Int)):=
 let c6:=((7:Int)::([]:List Int))
 ((cond a1.2.2.1 (decide (c6.length*8≤140737488355328)) true),((cond a1.2.2.1 (a1.1,(a1.2.1,(false,a1.2.2.2))) a1),(cond a1.2.2.1 (false,(true,false)) (false,(false,false))),(cond a1.2.2.1 c6 ([]:List Int))))
def withyref21_Part_e:Ent:=⟨167,[],[(.pure (.row (.prod (.int .i64) (.prod .bool (.prod .bool (.int .i64))))) (Ty.dflt _))],[(0,(.arr (.int .i64) [] false))],[(.pure (.row (.prod (.int .i64) (.prod .bool (.prod .bool (.int .i64))))) (Ty.dflt _)),(.row (.pair (.own 0 1) (.pure (.prod .bool (.prod .bool .bool)) (Ty.dflt _))))],[]⟩
noncomputable def withyref21_Part:Fun:=⟨withyref21_Part_e,fun x=>let r:=withyref21_Part_r x.1; (r.1,(r.2.1,r.2.2.1,r.2.2.2,()))⟩
theorem withyref21_Part_ev:evFun Try.prog [] [] Try.f167 (codeOf Try.f167) withyref21_Part_e=(withyref21_Part).fn:=by kernel_rfl
theorem withyref21_Part_ok:FunOk Try.prog (withyref21_Part):=fun_ok (opers_ok oks_nil) Try.call167 Try.func167 (by kernel_rfl) fun x _=>(congrFun (withyref21_Part_ev) x).symm
noncomputable def withyref22_vowed_r (g_withyref22_begin:HL withyref22_begin_e.ins→Bool × HL withyref22_begin_e.outs) (g_withyref22_settle:HL withyref22_settle_e.ins→Bool × HL withyref22_settle_e.outs) (a1:((Int × ((Int × Int) × (Int × (Int × ((List (Int × (Int × (Int × (Int × (Bool × (Bool × Int))))))) × ((List Int) × (((List Int) × (List (Int × (Int × (Int × (Int × Bool)))))) × (Int × (((List Int) × (List (Int × (Int × (Int × (Int × Bool)))))) × (Int × Bool)))))))))) × (List (Int × (Int × ((Int × Int) × (((List Int) × (List (Int × (Int × (Int × (Int × Bool)))))) × (Int × (Int × (Int × Int)))))))))) (a2:Int) (a3:(Int × (Bool × (Bool × Int)))) (a4:((List Int) × (Bool × (Bool × Bool)))):Bool × (((Int × ((Int × Int) × (Int × (Int × ((List (Int × (Int × (Int × (Int × (Bool × (Bool × Int))))))) × ((List Int) × (((List Int) × (List (Int × (Int × (Int × (Int × Bool)))))) × (Int × (((List Int) × (List (Int × (Int × (Int × (Int × Bool)))))) × (Int × Bool)))))))))) × (List (Int × (Int × ((Int × Int) × (((List Int) × (List (Int × (Int × (Int × (Int × Bool)))))) × (Int × (Int × (Int × Int)))))))))):=
 let c2:=(Int.toNat a2)
 let c11:=(decide (c2<a1.1.2.2.2.2.1.length))
 let c15:=(withyref22_set_r a1 a2 a3)
 let c22:=c15.2.2.2.2.2.1
 let c24:=c22.2
 let c26:=c24.2
 let c28:=c26.2
 let c30:=c28.2
 let c46:=((a1.1.2.2.2.2.1[c2]?).getD ((0:Int),((0:Int),((0:Int),((0:Int),(false,(false,(0:Int)))))))).1
 let c48:=(withyref22_say_r ((c15.2.1,(c15.2.2.1,(c15.2.2.2.1,(c15.2.2.2.2.1,(c15.2.2.2.2.2.2.2,(c22.1,(c24.1,(c26.1,(c28.1,(c30.1,c30.2)))))))))),c15.2.2.2.2.2.2.1) c46 a4)
 let c51:=c48.2
 let c62:=c51.1.2.2.2.2.2.2.2.2.2.2
 let c64:=(cond c62 c62 true)
 let c69:=(cond c62 a4.2.1 false)
 let c70:=(withyref21_Part_r a3)
 let c73:=(withyref22_set_r c51 a2 c70.2.1)
 let c80:=c73.2.2.2.2.2.1
 let c82:=c80.2
 let c84:=c82.2
 let c86:=c84.2
 let c88:=c86.2
 let c104:=c70.2.2.1
 let c106:=c104.2
 let c112:=(withyref22_say_r ((c73.2.1,(c73.2.2.1,(c73.2.2.2.1,(c73.2.2.2.2.1,(c73.2.2.2.2.2.2.2,(c80.1,(c82.1,(c84.1,(c86.1,(c88.1,c88.2)))))))))),c73.2.2.2.2.2.2.1) c46 (c70.2.2.2,(c104.1,(c106.1,c106.2))))
 let c118:=(!c69)
 let c119:=(!a4.2.1)
 let c125:=(cond a4.2.1 true a4.2.2.1)
 let c126:=(g_withyref22_begin (c51,()))
 let c130:=(!c125)
 let c132:=(g_withyref22_settle (c51,()))
 (((((decide ((0:Int)≤a2)) && c11) && c11) && ((c15.1 && c48.1) && (((c64 && c64) && (cond c69 (c70.1 && (c73.1 && c112.1)) true)) && (cond c118 ((((cond c119 c119 true) && (cond a4.2.1 true c119)) && (cond c125 c126.1 true)) && (cond c130 (cond a4.2.2.2 c132.1 true) true)) true)))),((cond c118 (cond c130 (cond (!a4.2.2.2) c51 c132.2.1) c126.2.1) c112.2)))
def withyref22_vowed_e:Ent:=⟨196,[],[(.pure (.row (.prod (.row (.prod (.int .i64) (.prod (.row (.prod (.int .i64) (.int .i64))) (.prod (.int .i64) (.prod (.int .i64) (.prod (.fl (.row (.prod (.int .i64) (.prod (.int .i64) (.prod (.int .i64) (.row (.prod (.int .i64) (.prod .bool (.prod .bool (.int .i64)))))))))) (.prod (.fl (.int .i64)) (.prod (.row (.prod (.fl (.int .i64)) (.fl (.row (.prod (.int .i64) (.prod (.int .i64) (.prod (.int .i64) (.prod (.int .i64) .bool)))))))) (.prod (.int .i64) (.prod (.row (.prod (.fl (.int .i64)) (.fl (.row (.prod (.int .i64) (.prod (.int .i64) (.prod (.int .i64) (.prod (.int .i64) .bool)))))))) (.prod (.int .i64) .bool))))))))))) (.fl (.row (.prod (.int .i64) (.row (.prod (.int .i64) (.prod (.row (.prod (.int .i64) (.int .i64))) (.prod (.row (.prod (.fl (.int .i64)) (.fl (.row (.prod (.int .i64) (.prod (.int .i64) (.prod (.int .i64) (.prod (.int .i64) .bool)))))))) (.row (.prod (.int .i64) (.prod (.int .i64) (.prod (.int .i64) (.int .i64)))))))))))))) (Ty.dflt _)),(.pure (.int .i64) (Ty.dflt _)),(.pure (.row (.prod (.int .i64) (.prod .bool (.prod .bool (.int .i64))))) (Ty.dflt _)),(.pure (.row (.prod (.fl (.int .i64)) (.prod .bool (.prod .bool .bool)))) (Ty.dflt _))],[],[(.pure (.row (.prod (.row (.prod (.int .i64) (.prod (.row (.prod (.int .i64) (.int .i64))) (.prod (.int .i64) (.prod (.int .i64) (.prod (.fl (.row (.prod (.int .i64) (.prod (.int .i64) (.prod (.int .i64) (.row (.prod (.int .i64) (.prod .bool (.prod .bool (.int .i64)))))))))) (.prod (.fl (.int .i64)) (.prod (.row (.prod (.fl (.int .i64)) (.fl (.row (.prod (.int .i64) (.prod (.int .i64) (.prod (.int .i64) (.prod (.int .i64) .bool)))))))) (.prod (.int .i64) (.prod (.row (.prod (.fl (.int .i64)) (.fl (.row (.prod (.int .i64) (.prod (.int .i64) (.prod (.int .i64) (.prod (.int .i64) .bool)))))))) (.prod (.int .i64) .bool))))))))))) (.fl (.row (.prod (.int .i64) (.row (.prod (.int .i64) (.prod (.row (.prod (.int .i64) (.int .i64))) (.prod (.row (.prod (.fl (.int .i64)) (.fl (.row (.prod (.int .i64) (.prod (.int .i64) (.prod (.int .i64) (.prod (.int .i64) .bool)))))))) (.row (.prod (.int .i64) (.prod (.int .i64) (.prod (.int .i64) (.int .i64)))))))))))))) (Ty.dflt _))],[]⟩
noncomputable def withyref22_vowed (g_withyref22_begin:HL withyref22_begin_e.ins→Bool × HL withyref22_begin_e.outs) (g_withyref22_settle:HL withyref22_settle_e.ins→Bool × HL withyref22_settle_e.outs):Fun:=⟨withyref22_vowed_e,fun x=>let r:=withyref22_vowed_r g_withyref22_begin g_withyref22_settle x.1 x.2.1 x.2.2.1 x.2.2.2.1; (r.1,(r.2,()))⟩
theorem withyref22_vowed_ev (g_withyref22_begin:HL withyref22_begin_e.ins→Bool × HL withyref22_begin_e.outs) (g_withyref22_settle:HL withyref22_settle_e.ins→Bool × HL withyref22_settle_e.outs):evFun Try.prog [withyref22_set,withyref22_say,withyref21_Part,⟨withyref22_begin_e,g_withyref22_begin⟩,⟨withyref22_settle_e,g_withyref22_settle⟩] [] Try.f196 (codeOf Try.f196) withyref22_vowed_e=(withyref22_vowed g_withyref22_begin g_withyref22_settle).fn:=by kernel_rfl
theorem withyref22_vowed_ok (g_withyref22_begin:HL withyref22_begin_e.ins→Bool × HL withyref22_begin_e.outs) (g_withyref22_settle:HL withyref22_settle_e.ins→Bool × HL withyref22_settle_e.outs) (hg_withyref22_begin:FunOk Try.prog ⟨withyref22_begin_e,g_withyref22_begin⟩) (hg_withyref22_settle:FunOk Try.prog ⟨withyref22_settle_e,g_withyref22_settle⟩):FunOk Try.prog (withyref22_vowed g_withyref22_begin g_withyref22_settle):=fun_ok (opers_ok (oks_cons withyref22_set_ok (oks_cons withyref22_say_ok (oks_cons withyref21_Part_ok (oks_cons hg_withyref22_begin (oks_cons hg_withyref22_settle oks_nil)))))) Try.call196 Try.func196 (by kernel_rfl) fun x _=>(congrFun (withyref22_vowed_ev g_withyref22_begin g_withyref22_settle) x).symm
noncomputable def withyref22_choice_l0 (g_withyref22_begin:HL withyref22_begin_e.ins→Bool × HL withyref22_begin_e.outs) (g_withyref22_settle:HL withyref22_settle_e.ins→Bool × HL withyref22_settle_e.outs) (a1:((Int × ((Int × Int) × (Int × (Int × ((List (Int × (Int × (Int × (Int × (Bool × (Bool × Int))))))) × ((List Int) × (((List Int) × (List (Int × (Int × (Int × (Int × Bool)))))) × (Int × (((List Int) × (List (Int × (Int × (Int × (Int × Bool)))))) × (Int × Bool)))))))))) × (List (Int × (Int × ((Int × Int) × (((List Int) × (List (Int × (Int × (Int × (Int × Bool)))))) × (Int × (Int × (Int × Int)))))))))) (a2:(Int × (Int × (Int × Int)))) (a3:((List Int) × (List (Int × (Int × (Int × (Int × Bool))))))) (s0:HL [.int .i64,(.row (.prod (.row (.prod (.int .i64) (.prod (.row (.prod (.int .i64) (.int .i64))) (.prod (.int .i64) (.prod (.int .i64) (.prod (.fl (.row (.prod (.int .i64) (.prod (.int .i64) (.prod (.int .i64) (.row (.prod (.int .i64) (.prod .bool (.prod .bool (.int .i64)))))))))) (.prod (.fl (.int .i64)) (.prod (.row (.prod (.fl (.int .i64)) (.fl (.row (.prod (.int .i64) (.prod (.int .i64) (.prod (.int .i64) (.prod (.int .i64) .bool)))))))) (.prod (.int .i64) (.prod (.row (.prod (.fl (.int .i64)) (.fl (.row (.prod (.int .i64) (.prod (.int .i64) (.prod (.int .i64) (.prod (.int .i64) .bool)))))))) (.prod (.int .i64) .bool))))))))))) (.fl (.row (.prod (.int .i64) (.row (.prod (.int .i64) (.prod (.row (.prod (.int .i64) (.int .i64))) (.prod (.row (.prod (.fl (.int .i64)) (.fl (.row (.prod (.int .i64) (.prod (.int .i64) (.prod (.int .i64) (.prod (.int .i64) .bool)))))))) (.row (.prod (.int .i64) (.prod (.int .i64) (.prod (.int .i64) (.int .i64))))))))))))))]):Bool × Bool × HL [.int .i64,(.row (.prod (.row (.prod (.int .i64) (.prod (.row (.prod (.int .i64) (.int .i64))) (.prod (.int .i64) (.prod (.int .i64) (.prod (.fl (.row (.prod (.int .i64) (.prod (.int .i64) (.prod (.int .i64) (.row (.prod (.int .i64) (.prod .bool (.prod .bool (.int .i64)))))))))) (.prod (.fl (.int .i64)) (.prod (.row (.prod (.fl (.int .i64)) (.fl (.row (.prod (.int .i64) (.prod (.int .i64) (.prod (.int .i64) (.prod (.int .i64) .bool)))))))) (.prod (.int .i64) (.prod (.row (.prod (.fl (.int .i64)) (.fl (.row (.prod (.int .i64) (.prod (.int .i64) (.prod (.int .i64) (.prod (.int .i64) .bool)))))))) (.prod (.int .i64) .bool))))))))))) (.fl (.row (.prod (.int .i64) (.row (.prod (.int .i64) (.prod (.row (.prod (.int .i64) (.int .i64))) (.prod (.row (.prod (.fl (.int .i64)) (.fl (.row (.prod (.int .i64) (.prod (.int .i64) (.prod (.int .i64) (.prod (.int .i64) .bool)))))))) (.row (.prod (.int .i64) (.prod (.int .i64) (.prod (.int .i64) (.int .i64))))))))))))))] × HL [.bool,(.row (.prod (.row (.prod (.int .i64) (.prod (.row (.prod (.int .i64) (.int .i64))) (.prod (.int .i64) (.prod (.int .i64) (.prod (.fl (.row (.prod (.int .i64) (.prod (.int .i64) (.prod (.int .i64) (.row (.prod (.int .i64) (.prod .bool (.prod .bool (.int .i64)))))))))) (.prod (.fl (.int .i64)) (.prod (.row (.prod (.fl (.int .i64)) (.fl (.row (.prod (.int .i64) (.prod (.int .i64) (.prod (.int .i64) (.prod (.int .i64) .bool)))))))) (.prod (.int .i64) (.prod (.row (.prod (.fl (.int .i64)) (.fl (.row (.prod (.int .i64) (.prod (.int .i64) (.prod (.int .i64) (.prod (.int .i64) .bool)))))))) (.prod (.int .i64) .bool))))))))))) (.fl (.row (.prod (.int .i64) (.row (.prod (.int .i64) (.prod (.row (.prod (.int .i64) (.int .i64))) (.prod (.row (.prod (.fl (.int .i64)) (.fl (.row (.prod (.int .i64) (.prod (.int .i64) (.prod (.int .i64) (.prod (.int .i64) .bool)))))))) (.row (.prod (.int .i64) (.prod (.int .i64) (.prod (.int .i64) (.int .i64))))))))))))))]:=
 let c6:=(withyref22_bound_r a1.1 a1.1.2.2.2.1)
 let c9:=c6.2
 let c10:=c9.length
 let c12:=(decide (s0.1<(c10:Int)))
 let c14:=(Int.toNat s0.1)
 let c15:=(decide (c14<c10))
 let c23:=(a2.1==(1:Int))
 let c37:=(withyref22_tell_r s0.2.1 ((c9[c14]?).getD (0:Int)) (cond c23 ((3:Int),(a1.1.2.1,(a3,a2))) ((3:Int),(a1.1.2.1,((([]:List Int),([]:List (Int × (Int × (Int × (Int × Bool)))))),a2)))))
 ((cond c12 ((((decide ((0:Int)≤s0.1)) && c15) && c15) && c37.1) true),c12,((IntKind.i64.wrap (s0.1+(1:Int))),(c37.2.1,c37.2.2),()),((!c12),s0.2.1,()))
noncomputable def withyref22_choice_r (g_withyref22_begin:HL withyref22_begin_e.ins→Bool × HL withyref22_begin_e.outs) (g_withyref22_settle:HL withyref22_settle_e.ins→Bool × HL withyref22_settle_e.outs) (a1:((Int × ((Int × Int) × (Int × (Int × ((List (Int × (Int × (Int × (Int × (Bool × (Bool × Int))))))) × ((List Int) × (((List Int) × (List (Int × (Int × (Int × (Int × Bool)))))) × (Int × (((List Int) × (List (Int × (Int × (Int × (Int × Bool)))))) × (Int × Bool)))))))))) × (List (Int × (Int × ((Int × Int) × (((List Int) × (List (Int × (Int × (Int × (Int × Bool)))))) × (Int × (Int × (Int × Int)))))))))) (a2:(Int × (Int × (Int × Int)))) (a3:((List Int) × (List (Int × (Int × (Int × (Int × Bool))))))):Bool × (((Int × ((Int × Int) × (Int × (Int × ((List (Int × (Int × (Int × (Int × (Bool × (Bool × Int))))))) × ((List Int) × (((List Int) × (List (Int × (Int × (Int × (Int × Bool)))))) × (Int × (((List Int) × (List (Int × (Int × (Int × (Int × Bool)))))) × (Int × Bool)))))))))) × (List (Int × (Int × ((Int × Int) × (((List Int) × (List (Int × (Int × (Int × (Int × Bool)))))) × (Int × (Int × (Int × Int)))))))))):=
 let c6:=(withyref22_bound_r a1.1 a1.1.2.2.2.1)
 let c23:=(a2.1==(1:Int))
 let c48:=(loopD 0 [.int .i64,(.row (.prod (.row (.prod (.int .i64) (.prod (.row (.prod (.int .i64) (.int .i64))) (.prod (.int .i64) (.prod (.int .i64) (.prod (.fl (.row (.prod (.int .i64) (.prod (.int .i64) (.prod (.int .i64) (.row (.prod (.int .i64) (.prod .bool (.prod .bool (.int .i64)))))))))) (.prod (.fl (.int .i64)) (.prod (.row (.prod (.fl (.int .i64)) (.fl (.row (.prod (.int .i64) (.prod (.int .i64) (.prod (.int .i64) (.prod (.int .i64) .bool)))))))) (.prod (.int .i64) (.prod (.row (.prod (.fl (.int .i64)) (.fl (.row (.prod (.int .i64) (.prod (.int .i64) (.prod (.int .i64) (.prod (.int .i64) .bool)))))))) (.prod (.int .i64) .bool))))))))))) (.fl (.row (.prod (.int .i64) (.row (.prod (.int .i64) (.prod (.row (.prod (.int .i64) (.int .i64))) (.prod (.row (.prod (.fl (.int .i64)) (.fl (.row (.prod (.int .i64) (.prod (.int .i64) (.prod (.int .i64) (.prod (.int .i64) .bool)))))))) (.row (.prod (.int .i64) (.prod (.int .i64) (.prod (.int .i64) (.int .i64))))))))))))))] [.bool,(.row (.prod (.row (.prod (.int .i64) (.prod (.row (.prod (.int .i64) (.int .i64))) (.prod (.int .i64) (.prod (.int .i64) (.prod (.fl (.row (.prod (.int .i64) (.prod (.int .i64) (.prod (.int .i64) (.row (.prod (.int .i64) (.prod .bool (.prod .bool (.int .i64)))))))))) (.prod (.fl (.int .i64)) (.prod (.row (.prod (.fl (.int .i64)) (.fl (.row (.prod (.int .i64) (.prod (.int .i64) (.prod (.int .i64) (.prod (.int .i64) .bool)))))))) (.prod (.int .i64) (.prod (.row (.prod (.fl (.int .i64)) (.fl (.row (.prod (.int .i64) (.prod (.int .i64) (.prod (.int .i64) (.prod (.int .i64) .bool)))))))) (.prod (.int .i64) .bool))))))))))) (.fl (.row (.prod (.int .i64) (.row (.prod (.int .i64) (.prod (.row (.prod (.int .i64) (.int .i64))) (.prod (.row (.prod (.fl (.int .i64)) (.fl (.row (.prod (.int .i64) (.prod (.int .i64) (.prod (.int .i64) (.prod (.int .i64) .bool)))))))) (.row (.prod (.int .i64) (.prod (.int .i64) (.prod (.int .i64) (.int .i64))))))))))))))] (withyref22_choice_l0 g_withyref22_begin g_withyref22_settle a1 a2 a3) ((0:Int),a1,()))
 let c50:=(!c23)
 let c51:=c48.2.2.1
 let c52:=c51.1
 let c53:=c52.1
 let c54:=c52.2
 let c55:=c54.1
 let c56:=c54.2
 let c57:=c56.1
 let c58:=c56.2
 let c59:=c58.1
 let c60:=c58.2
 let c61:=c60.1
 let c62:=c60.2
 let c63:=c62.1
 let c64:=c62.2
 let c65:=c64.1
 let c67:=c64.2.2
 let c75:=(c53,(c55,(c57,(c59,(c61,(c63,(c65,((3:Int),c67))))))))
 let c79:=(withyref22_At_r c75 a2.2.2.1)
 let c82:=(a2.2.1 !=c53)
 let c83:=(!c82)
 let c87:=c79.2
 let c89:=(cond c82 true (decide (c87<(0:Int))))
 let c90:=(!c89)
 let c91:=(cond c90 c90 true)
 let c95:=(Int.toNat c87)
 let c97:=(decide (c95<c61.length))
 let c98:=((decide ((0:Int)≤c87)) && c97)
 let c115:=((c61[c95]?).getD ((0:Int),((0:Int),((0:Int),((0:Int),(false,(false,(0:Int)))))))).2.2
 let c120:=(!(cond c89 true (c115.1 !=a2.2.2.2)))
 let c122:=(a2.1==(2:Int))
 let c123:=(c98 && c97)
 let c124:=c115.2
 let c125:=(withyref21_Grant_r c124)
 let c128:=c51.2
 let c129:=(c75,c128)
 let c132:=c125.2.2.1
 let c134:=c132.2
 let c140:=(withyref22_vowed_r g_withyref22_begin g_withyref22_settle c129 c87 c125.2.1 (c125.2.2.2,(c132.1,(c134.1,c134.2))))
 let c144:=(!c122)
 let c145:=(withyref21_Part_r c124)
 let c150:=c145.2.2.1
 let c152:=c150.2
 let c158:=(withyref22_vowed_r g_withyref22_begin g_withyref22_settle c129 c87 c145.2.1 (c145.2.2.2,(c150.1,(c152.1,c152.2))))
 ((c6.1 && (c48.1 && (cond c50 (c79.1 && (((((((((((cond c83 c83 true) && (cond c82 true c83)) && c91) && c91) && (cond c90 (c90 && (c90 && c98)) true)) && c91) && (cond c90 (c90 && c97) true)) && c91) && (cond c90 (c90 && c90) true)) && (cond c89 true c90)) && (cond c120 ((cond c122 ((c123 && c125.1) && c140.1) true) && (cond c144 ((c123 && c145.1) && c158.1) true)) true))) true))),((cond c50 (cond c120 (cond c144 c158.2 c140.2) c129) ((c53,(c55,(c57,(c59,(c61,(c63,(c65,((4:Int),(a3,c67.2))))))))),c128))))
def withyref22_choice_e:Ent:=⟨186,[],[(.pure (.row (.prod (.row (.prod (.int .i64) (.prod (.row (.prod (.int .i64) (.int .i64))) (.prod (.int .i64) (.prod (.int .i64) (.prod (.fl (.row (.prod (.int .i64) (.prod (.int .i64) (.prod (.int .i64) (.row (.prod (.int .i64) (.prod .bool (.prod .bool (.int .i64)))))))))) (.prod (.fl (.int .i64)) (.prod (.row (.prod (.fl (.int .i64)) (.fl (.row (.prod (.int .i64) (.prod (.int .i64) (.prod (.int .i64) (.prod (.int .i64) .bool)))))))) (.prod (.int .i64) (.prod (.row (.prod (.fl (.int .i64)) (.fl (.row (.prod (.int .i64) (.prod (.int .i64) (.prod (.int .i64) (.prod (.int .i64) .bool)))))))) (.prod (.int .i64) .bool))))))))))) (.fl (.row (.prod (.int .i64) (.row (.prod (.int .i64) (.prod (.row (.prod (.int .i64) (.int .i64))) (.prod (.row (.prod (.fl (.int .i64)) (.fl (.row (.prod (.int .i64) (.prod (.int .i64) (.prod (.int .i64) (.prod (.int .i64) .bool)))))))) (.row (.prod (.int .i64) (.prod (.int .i64) (.prod (.int .i64) (.int .i64)))))))))))))) (Ty.dflt _)),(.pure (.row (.prod (.int .i64) (.prod (.int .i64) (.prod (.int .i64) (.int .i64))))) (Ty.dflt _)),(.pure (.row (.prod (.fl (.int .i64)) (.fl (.row (.prod (.int .i64) (.prod (.int .i64) (.prod (.int .i64) (.prod (.int .i64) .bool)))))))) (Ty.dflt _))],[],[(.pure (.row (.prod (.row (.prod (.int .i64) (.prod (.row (.prod (.int .i64) (.int .i64))) (.prod (.int .i64) (.prod (.int .i64) (.prod (.fl (.row (.prod (.int .i64) (.prod (.int .i64) (.prod (.int .i64) (.row (.prod (.int .i64) (.prod .bool (.prod .bool (.int .i64)))))))))) (.prod (.fl (.int .i64)) (.prod (.row (.prod (.fl (.int .i64)) (.fl (.row (.prod (.int .i64) (.prod (.int .i64) (.prod (.int .i64) (.prod (.int .i64) .bool)))))))) (.prod (.int .i64) (.prod (.row (.prod (.fl (.int .i64)) (.fl (.row (.prod (.int .i64) (.prod (.int .i64) (.prod (.int .i64) (.prod (.int .i64) .bool)))))))) (.prod (.int .i64) .bool))))))))))) (.fl (.row (.prod (.int .i64) (.row (.prod (.int .i64) (.prod (.row (.prod (.int .i64) (.int .i64))) (.prod (.row (.prod (.fl (.int .i64)) (.fl (.row (.prod (.int .i64) (.prod (.int .i64) (.prod (.int .i64) (.prod (.int .i64) .bool)))))))) (.row (.prod (.int .i64) (.prod (.int .i64) (.prod (.int .i64) (.int .i64)))))))))))))) (Ty.dflt _))],[]⟩
noncomputable def withyref22_choice (g_withyref22_begin:HL withyref22_begin_e.ins→Bool × HL withyref22_begin_e.outs) (g_withyref22_settle:HL withyref22_settle_e.ins→Bool × HL withyref22_settle_e.outs):Fun:=⟨withyref22_choice_e,fun x=>let r:=withyref22_choice_r g_withyref22_begin g_withyref22_settle x.1 x.2.1 x.2.2.1; (r.1,(r.2,()))⟩
theorem withyref22_choice_ev (g_withyref22_begin:HL withyref22_begin_e.ins→Bool × HL withyref22_begin_e.outs) (g_withyref22_settle:HL withyref22_settle_e.ins→Bool × HL withyref22_settle_e.outs):evFun Try.prog [withyref22_bound,withyref22_tell,withyref22_At,withyref21_Grant,(withyref22_vowed g_withyref22_begin g_withyref22_settle),withyref21_Part] [⟨[9],[0],⟨[],[],0⟩,[],[],[(1,[]),(2,[])],[]⟩,⟨[],[],⟨[],[],0⟩,[],[],[],[(1000003,([9],[]))]⟩] Try.f186 (codeOf Try.f186) withyref22_choice_e=(withyref22_choice g_withyref22_begin g_withyref22_settle).fn:=by kernel_rfl
theorem withyref22_choice_ok (g_withyref22_begin:HL withyref22_begin_e.ins→Bool × HL withyref22_begin_e.outs) (g_withyref22_settle:HL withyref22_settle_e.ins→Bool × HL withyref22_settle_e.outs) (hg_withyref22_begin:FunOk Try.prog ⟨withyref22_begin_e,g_withyref22_begin⟩) (hg_withyref22_settle:FunOk Try.prog ⟨withyref22_settle_e,g_withyref22_settle⟩):FunOk Try.prog (withyref22_choice g_withyref22_begin g_withyref22_settle):=fun_ok (opers_ok (oks_cons withyref22_bound_ok (oks_cons withyref22_tell_ok (oks_cons withyref22_At_ok (oks_cons withyref21_Grant_ok (oks_cons (withyref22_vowed_ok g_withyref22_begin g_withyref22_settle hg_withyref22_begin hg_withyref22_settle) (oks_cons withyref21_Part_ok oks_nil))))))) Try.call186 Try.func186 (by kernel_rfl) fun x _=>(congrFun (withyref22_choice_ev g_withyref22_begin g_withyref22_settle) x).symm
noncomputable def withyref22_settle_s_l0 (g_withyref22_begin:HL withyref22_begin_e.ins→Bool × HL withyref22_begin_e.outs) (g_withyref22_settle:HL withyref22_settle_e.ins→Bool × HL withyref22_settle_e.outs) (a1:((Int × ((Int × Int) × (Int × (Int × ((List (Int × (Int × (Int × (Int × (Bool × (Bool × Int))))))) × ((List Int) × (((List Int) × (List (Int × (Int × (Int × (Int × Bool)))))) × (Int × (((List Int) × (List (Int × (Int × (Int × (Int × Bool)))))) × (Int × Bool)))))))))) × (List (Int × (Int × ((Int × Int) × (((List Int) × (List (Int × (Int × (Int × (Int × Bool)))))) × (Int × (Int × (Int × Int)))))))))) (s0:HL [.int .i64,.int .i64,(.row (.prod (.int .i64) (.int .i64))),.int .i64,.int .i64,.int .i64,(.prod (.int .i64) .bool)]):Bool × Bool × HL [.int .i64,.int .i64,(.row (.prod (.int .i64) (.int .i64))),.int .i64,.int .i64,.int .i64,(.prod (.int .i64) .bool)] × HL [.bool,(.row (.prod (.row (.prod (.int .i64) (.prod (.row (.prod (.int .i64) (.int .i64))) (.prod (.int .i64) (.prod (.int .i64) (.prod (.fl (.row (.prod (.int .i64) (.prod (.int .i64) (.prod (.int .i64) (.row (.prod (.int .i64) (.prod .bool (.prod .bool (.int .i64)))))))))) (.prod (.fl (.int .i64)) (.prod (.row (.prod (.fl (.int .i64)) (.fl (.row (.prod (.int .i64) (.prod (.int .i64) (.prod (.int .i64) (.prod (.int .i64) .bool)))))))) (.prod (.int .i64) (.prod (.row (.prod (.fl (.int .i64)) (.fl (.row (.prod (.int .i64) (.prod (.int .i64) (.prod (.int .i64) (.prod (.int .i64) .bool)))))))) (.prod (.int .i64) .bool))))))))))) (.fl (.row (.prod (.int .i64) (.row (.prod (.int .i64) (.prod (.row (.prod (.int .i64) (.int .i64))) (.prod (.row (.prod (.fl (.int .i64)) (.fl (.row (.prod (.int .i64) (.prod (.int .i64) (.prod (.int .i64) (.prod (.int .i64) .bool)))))))) (.row (.prod (.int .i64) (.prod (.int .i64) (.prod (.int .i64) (.int .i64)))))))))))))),.bool,.int .i64,(.row (.prod (.int .i64) (.int .i64))),.int .i64,.int .i64,.int .i64,(.prod (.int .i64) .bool)]:=
 let c31:=(decide (s0.1<(a1.1.2.2.2.2.1.length:Int)))
 let c33:=(Int.toNat s0.1)
 let c34:=(decide (c33<a1.1.2.2.2.2.1.length))
 let c43:=(((a1.1.2.2.2.2.1[c33]?).getD ((0:Int),((0:Int),((0:Int),((0:Int),(false,(false,(0:Int)))))))).2.2.2.1 !=(0:Int))
 ((cond c31 (((decide ((0:Int)≤s0.1)) && c34) && c34) true),(c31 && (!c43)),((IntKind.i64.wrap (s0.1+(1:Int))),s0.2.1,s0.2.2.1,s0.2.2.2.1,s0.2.2.2.2.1,s0.2.2.2.2.2.1,s0.2.2.2.2.2.2.1,()),((c31 && c43),a1,(!c31),s0.2.1,s0.2.2.1,s0.2.2.2.1,s0.2.2.2.2.1,s0.2.2.2.2.2.1,s0.2.2.2.2.2.2.1,()))
noncomputable def withyref22_settle_s_r (g_withyref22_begin:HL withyref22_begin_e.ins→Bool × HL withyref22_begin_e.outs) (g_withyref22_settle:HL withyref22_settle_e.ins→Bool × HL withyref22_settle_e.outs) (a1:((Int × ((Int × Int) × (Int × (Int × ((List (Int × (Int × (Int × (Int × (Bool × (Bool × Int))))))) × ((List Int) × (((List Int) × (List (Int × (Int × (Int × (Int × Bool)))))) × (Int × (((List Int) × (List (Int × (Int × (Int × (Int × Bool)))))) × (Int × Bool)))))))))) × (List (Int × (Int × ((Int × Int) × (((List Int) × (List (Int × (Int × (Int × (Int × Bool)))))) × (Int × (Int × (Int × Int)))))))))):Bool × (((Int × ((Int × Int) × (Int × (Int × ((List (Int × (Int × (Int × (Int × (Bool × (Bool × Int))))))) × ((List Int) × (((List Int) × (List (Int × (Int × (Int × (Int × Bool)))))) × (Int × (((List Int) × (List (Int × (Int × (Int × (Int × Bool)))))) × (Int × Bool)))))))))) × (List (Int × (Int × ((Int × Int) × (((List Int) × (List (Int × (Int × (Int × (Int × Bool)))))) × (Int × (Int × (Int × Int)))))))))):=
 let c11:=(a1.1.2.2.2.2.2.2.2.1 !=(1:Int))
 let c12:=(!c11)
 let c14:=(cond c12 c12 true)
 let c26:=(!(cond c11 true (decide ((a1.1.2.2.2.2.2.1.length:Int)>(0:Int)))))
 let c55:=((0:Int),(0:Int))
 let c58:=(loopD 0 [.int .i64,.int .i64,(.row (.prod (.int .i64) (.int .i64))),.int .i64,.int .i64,.int .i64,(.prod (.int .i64) .bool)] [.bool,(.row (.prod (.row (.prod (.int .i64) (.prod (.row (.prod (.int .i64) (.int .i64))) (.prod (.int .i64) (.prod (.int .i64) (.prod (.fl (.row (.prod (.int .i64) (.prod (.int .i64) (.prod (.int .i64) (.row (.prod (.int .i64) (.prod .bool (.prod .bool (.int .i64)))))))))) (.prod (.fl (.int .i64)) (.prod (.row (.prod (.fl (.int .i64)) (.fl (.row (.prod (.int .i64) (.prod (.int .i64) (.prod (.int .i64) (.prod (.int .i64) .bool)))))))) (.prod (.int .i64) (.prod (.row (.prod (.fl (.int .i64)) (.fl (.row (.prod (.int .i64) (.prod (.int .i64) (.prod (.int .i64) (.prod (.int .i64) .bool)))))))) (.prod (.int .i64) .bool))))))))))) (.fl (.row (.prod (.int .i64) (.row (.prod (.int .i64) (.prod (.row (.prod (.int .i64) (.int .i64))) (.prod (.row (.prod (.fl (.int .i64)) (.fl (.row (.prod (.int .i64) (.prod (.int .i64) (.prod (.int .i64) (.prod (.int .i64) .bool)))))))) (.row (.prod (.int .i64) (.prod (.int .i64) (.prod (.int .i64) (.int .i64)))))))))))))),.bool,.int .i64,(.row (.prod (.int .i64) (.int .i64))),.int .i64,.int .i64,.int .i64,(.prod (.int .i64) .bool)] (withyref22_settle_s_l0 g_withyref22_begin g_withyref22_settle a1) ((0:Int),(0:Int),c55,(0:Int),(0:Int),(0:Int),((0:Int),false),()))
 let c60:=c58.2.2.2.1
 let c61:=(withyref22_Own_r a1.1)
 let c63:=c61.2.1
 let c64:=c61.2.2
 let c67:=(withyref09_Merge_r (c63,c64) a1.1.2.2.2.2.2.2.1)
 let c69:=c67.2.1
 let c70:=(cond c69 c69 true)
 let c72:=(withyref09_May_r a1.1.2.2.2.2.2.2.1)
 let c80:=(a1.1.2.2.2.1 !=(0:Int))
 let c97:=(cond c69 c72.2 false)
 let c102:=((cond c97 c67.2.2.1 c63),(cond c97 c67.2.2.2 c64))
 let c108:=(withyref22_tell_r ((a1.1.1,(a1.1.2.1,(a1.1.2.2.1,(a1.1.2.2.2.1,(a1.1.2.2.2.2.1,(a1.1.2.2.2.2.2.1,(a1.1.2.2.2.2.2.2.1,((2:Int),a1.1.2.2.2.2.2.2.2.2)))))))),a1.2) a1.1.2.2.2.1 ((2:Int),(a1.1.2.1,(c102,((0:Int),((0:Int),c55))))))
 let c111:=(!c80)
 let c112:=(withyref09_Bound_r c102)
 let c115:=(withyref07_Forest_r c112.2)
 let c120:=(!(!c115.2))
 let c121:=(withyref10_Choose_r c102)
 let c124:=(withyref22_choice_r g_withyref22_begin g_withyref22_settle a1 c121.2 c102)
 ((((((c14 && c14) && c14) && c14) && (cond c11 true c12)) && (cond c26 (c58.1 && (cond c60 (c61.1 && ((c67.1 && (((c70 && c70) && (cond c69 (c69 && c72.1) true)) && c70)) && ((cond c80 c108.1 true) && (cond c111 ((c112.1 && c115.1) && (cond c120 (c121.1 && c124.1) true)) true)))) true)) true)),((cond c26 (cond c60 (cond c111 (cond c120 c124.2 ((a1.1.1,(a1.1.2.1,(a1.1.2.2.1,(a1.1.2.2.2.1,(a1.1.2.2.2.2.1,(a1.1.2.2.2.2.2.1,(a1.1.2.2.2.2.2.2.1,((3:Int),a1.1.2.2.2.2.2.2.2.2)))))))),a1.2)) (c108.2.1,c108.2.2)) c58.2.2.1) a1)))
noncomputable def withyref22_settle_s (g_withyref22_begin:HL withyref22_begin_e.ins→Bool × HL withyref22_begin_e.outs) (g_withyref22_settle:HL withyref22_settle_e.ins→Bool × HL withyref22_settle_e.outs):HL withyref22_settle_e.ins→Bool × HL withyref22_settle_e.outs:=fun x=>let r:=withyref22_settle_s_r g_withyref22_begin g_withyref22_settle x.1; (r.1,(r.2,()))
theorem withyref22_settle_ev (g_withyref22_begin:HL withyref22_begin_e.ins→Bool × HL withyref22_begin_e.outs) (g_withyref22_settle:HL withyref22_settle_e.ins→Bool × HL withyref22_settle_e.outs):evFun Try.prog [withyref22_Own,withyref09_Merge,withyref09_May,withyref22_tell,withyref09_Bound,withyref07_Forest,withyref10_Choose,(withyref22_choice g_withyref22_begin g_withyref22_settle)] [⟨[3],[64],⟨[],[],0⟩,[],[],[(1,[]),(2,[])],[]⟩,⟨[],[],⟨[],[],0⟩,[],[],[],[(1000003,([3],[]))]⟩] Try.f166 (codeOf Try.f166) withyref22_settle_e=withyref22_settle_s g_withyref22_begin g_withyref22_settle:=by kernel_rfl
noncomputable def withyref22_settle (g_withyref22_begin:HL withyref22_begin_e.ins→Bool × HL withyref22_begin_e.outs):Fun:=⟨withyref22_settle_e,recF withyref22_settle_e (withyref22_settle_s g_withyref22_begin)⟩
theorem withyref22_settle_ok (g_withyref22_begin:HL withyref22_begin_e.ins→Bool × HL withyref22_begin_e.outs) (hg_withyref22_begin:FunOk Try.prog ⟨withyref22_begin_e,g_withyref22_begin⟩):FunOk Try.prog (withyref22_settle g_withyref22_begin):=rec_ok Try.call166 fun g_withyref22_settle hg_withyref22_settle=>fun_ok (F:=⟨withyref22_settle_e,withyref22_settle_s g_withyref22_begin g_withyref22_settle⟩) (opers_ok (oks_cons withyref22_Own_ok (oks_cons withyref09_Merge_ok (oks_cons withyref09_May_ok (oks_cons withyref22_tell_ok (oks_cons withyref09_Bound_ok (oks_cons withyref07_Forest_ok (oks_cons withyref10_Choose_ok (oks_cons (withyref22_choice_ok g_withyref22_begin g_withyref22_settle hg_withyref22_begin hg_withyref22_settle) oks_nil))))))))) Try.call166 Try.func166 (by kernel_rfl) fun x _=>(congrFun (withyref22_settle_ev g_withyref22_begin g_withyref22_settle) x).symm
noncomputable def withyref22_settle_r (g_withyref22_begin:HL withyref22_begin_e.ins→Bool × HL withyref22_begin_e.outs) (a1:((Int × ((Int × Int) × (Int × (Int × ((List (Int × (Int × (Int × (Int × (Bool × (Bool × Int))))))) × ((List Int) × (((List Int) × (List (Int × (Int × (Int × (Int × Bool)))))) × (Int × (((List Int) × (List (Int × (Int × (Int × (Int × Bool)))))) × (Int × Bool)))))))))) × (List (Int × (Int × ((Int × Int) × (((List Int) × (List (Int × (Int × (Int × (Int × Bool)))))) × (Int × (Int × (Int × Int)))))))))):Bool × (((Int × ((Int × Int) × (Int × (Int × ((List (Int × (Int × (Int × (Int × (Bool × (Bool × Int))))))) × ((List Int) × (((List Int) × (List (Int × (Int × (Int × (Int × Bool)))))) × (Int × (((List Int) × (List (Int × (Int × (Int × (Int × Bool)))))) × (Int × Bool)))))))))) × (List (Int × (Int × ((Int × Int) × (((List Int) × (List (Int × (Int × (Int × (Int × Bool)))))) × (Int × (Int × (Int × Int)))))))))):=let r:=recF withyref22_settle_e (withyref22_settle_s g_withyref22_begin) (a1,()); (r.1,(r.2.1))
noncomputable def withyref22_adopt_l0 (g_withyref22_begin:HL withyref22_begin_e.ins→Bool × HL withyref22_begin_e.outs) (a1:((Int × ((Int × Int) × (Int × (Int × ((List (Int × (Int × (Int × (Int × (Bool × (Bool × Int))))))) × ((List Int) × (((List Int) × (List (Int × (Int × (Int × (Int × Bool)))))) × (Int × (((List Int) × (List (Int × (Int × (Int × (Int × Bool)))))) × (Int × Bool)))))))))) × (List (Int × (Int × ((Int × Int) × (((List Int) × (List (Int × (Int × (Int × (Int × Bool)))))) × (Int × (Int × (Int × Int)))))))))) (a2:(Int × Int)) (a3:Int) (s0:HL [.int .i64,(.row (.prod (.row (.prod (.int .i64) (.prod (.row (.prod (.int .i64) (.int .i64))) (.prod (.int .i64) (.prod (.int .i64) (.prod (.fl (.row (.prod (.int .i64) (.prod (.int .i64) (.prod (.int .i64) (.row (.prod (.int .i64) (.prod .bool (.prod .bool (.int .i64)))))))))) (.prod (.fl (.int .i64)) (.prod (.row (.prod (.fl (.int .i64)) (.fl (.row (.prod (.int .i64) (.prod (.int .i64) (.prod (.int .i64) (.prod (.int .i64) .bool)))))))) (.prod (.int .i64) (.prod (.row (.prod (.fl (.int .i64)) (.fl (.row (.prod (.int .i64) (.prod (.int .i64) (.prod (.int .i64) (.prod (.int .i64) .bool)))))))) (.prod (.int .i64) .bool))))))))))) (.fl (.row (.prod (.int .i64) (.row (.prod (.int .i64) (.prod (.row (.prod (.int .i64) (.int .i64))) (.prod (.row (.prod (.fl (.int .i64)) (.fl (.row (.prod (.int .i64) (.prod (.int .i64) (.prod (.int .i64) (.prod (.int .i64) .bool)))))))) (.row (.prod (.int .i64) (.prod (.int .i64) (.prod (.int .i64) (.int .i64))))))))))))))]):Bool × Bool × HL [.int .i64,(.row (.prod (.row (.prod (.int .i64) (.prod (.row (.prod (.int .i64) (.int .i64))) (.prod (.int .i64) (.prod (.int .i64) (.prod (.fl (.row (.prod (.int .i64) (.prod (.int .i64) (.prod (.int .i64) (.row (.prod (.int .i64) (.prod .bool (.prod .bool (.int .i64)))))))))) (.prod (.fl (.int .i64)) (.prod (.row (.prod (.fl (.int .i64)) (.fl (.row (.prod (.int .i64) (.prod (.int .i64) (.prod (.int .i64) (.prod (.int .i64) .bool)))))))) (.prod (.int .i64) (.prod (.row (.prod (.fl (.int .i64)) (.fl (.row (.prod (.int .i64) (.prod (.int .i64) (.prod (.int .i64) (.prod (.int .i64) .bool)))))))) (.prod (.int .i64) .bool))))))))))) (.fl (.row (.prod (.int .i64) (.row (.prod (.int .i64) (.prod (.row (.prod (.int .i64) (.int .i64))) (.prod (.row (.prod (.fl (.int .i64)) (.fl (.row (.prod (.int .i64) (.prod (.int .i64) (.prod (.int .i64) (.prod (.int .i64) .bool)))))))) (.row (.prod (.int .i64) (.prod (.int .i64) (.prod (.int .i64) (.int .i64))))))))))))))] × HL [.bool,(.row (.prod (.row (.prod (.int .i64) (.prod (.row (.prod (.int .i64) (.int .i64))) (.prod (.int .i64) (.prod (.int .i64) (.prod (.fl (.row (.prod (.int .i64) (.prod (.int .i64) (.prod (.int .i64) (.row (.prod (.int .i64) (.prod .bool (.prod .bool (.int .i64)))))))))) (.prod (.fl (.int .i64)) (.prod (.row (.prod (.fl (.int .i64)) (.fl (.row (.prod (.int .i64) (.prod (.int .i64) (.prod (.int .i64) (.prod (.int .i64) .bool)))))))) (.prod (.int .i64) (.prod (.row (.prod (.fl (.int .i64)) (.fl (.row (.prod (.int .i64) (.prod (.int .i64) (.prod (.int .i64) (.prod (.int .i64) .bool)))))))) (.prod (.int .i64) .bool))))))))))) (.fl (.row (.prod (.int .i64) (.row (.prod (.int .i64) (.prod (.row (.prod (.int .i64) (.int .i64))) (.prod (.row (.prod (.fl (.int .i64)) (.fl (.row (.prod (.int .i64) (.prod (.int .i64) (.prod (.int .i64) (.prod (.int .i64) .bool)))))))) (.row (.prod (.int .i64) (.prod (.int .i64) (.prod (.int .i64) (.int .i64))))))))))))))]:=
 let c33:=(([]:List Int),([]:List (Int × (Int × (Int × (Int × Bool))))))
 let c64:=(decide (s0.1<(s0.2.1.1.2.2.2.2.2.1.length:Int)))
 let c66:=(Int.toNat s0.1)
 let c67:=(decide (c66<s0.2.1.1.2.2.2.2.2.1.length))
 let c78:=(withyref22_tell_r s0.2.1 ((s0.2.1.1.2.2.2.2.2.1[c66]?).getD (0:Int)) ((1:Int),(a2,(c33,((0:Int),((0:Int),((0:Int),(0:Int))))))))
 ((cond c64 ((((decide ((0:Int)≤s0.1)) && c67) && c67) && c78.1) true),c64,((IntKind.i64.wrap (s0.1+(1:Int))),(c78.2.1,c78.2.2),()),((!c64),s0.2.1,()))
noncomputable def withyref22_adopt_l1 (g_withyref22_begin:HL withyref22_begin_e.ins→Bool × HL withyref22_begin_e.outs) (a1:((Int × ((Int × Int) × (Int × (Int × ((List (Int × (Int × (Int × (Int × (Bool × (Bool × Int))))))) × ((List Int) × (((List Int) × (List (Int × (Int × (Int × (Int × Bool)))))) × (Int × (((List Int) × (List (Int × (Int × (Int × (Int × Bool)))))) × (Int × Bool)))))))))) × (List (Int × (Int × ((Int × Int) × (((List Int) × (List (Int × (Int × (Int × (Int × Bool)))))) × (Int × (Int × (Int × Int)))))))))) (a2:(Int × Int)) (a3:Int) (s1:HL [.int .i64,(.row (.prod (.row (.prod (.int .i64) (.prod (.row (.prod (.int .i64) (.int .i64))) (.prod (.int .i64) (.prod (.int .i64) (.prod (.fl (.row (.prod (.int .i64) (.prod (.int .i64) (.prod (.int .i64) (.row (.prod (.int .i64) (.prod .bool (.prod .bool (.int .i64)))))))))) (.prod (.fl (.int .i64)) (.prod (.row (.prod (.fl (.int .i64)) (.fl (.row (.prod (.int .i64) (.prod (.int .i64) (.prod (.int .i64) (.prod (.int .i64) .bool)))))))) (.prod (.int .i64) (.prod (.row (.prod (.fl (.int .i64)) (.fl (.row (.prod (.int .i64) (.prod (.int .i64) (.prod (.int .i64) (.prod (.int .i64) .bool)))))))) (.prod (.int .i64) .bool))))))))))) (.fl (.row (.prod (.int .i64) (.row (.prod (.int .i64) (.prod (.row (.prod (.int .i64) (.int .i64))) (.prod (.row (.prod (.fl (.int .i64)) (.fl (.row (.prod (.int .i64) (.prod (.int .i64) (.prod (.int .i64) (.prod (.int .i64) .bool)))))))) (.row (.prod (.int .i64) (.prod (.int .i64) (.prod (.int .i64) (.int .i64))))))))))))))]):Bool × Bool × HL [.int .i64,(.row (.prod (.row (.prod (.int .i64) (.prod (.row (.prod (.int .i64) (.int .i64))) (.prod (.int .i64) (.prod (.int .i64) (.prod (.fl (.row (.prod (.int .i64) (.prod (.int .i64) (.prod (.int .i64) (.row (.prod (.int .i64) (.prod .bool (.prod .bool (.int .i64)))))))))) (.prod (.fl (.int .i64)) (.prod (.row (.prod (.fl (.int .i64)) (.fl (.row (.prod (.int .i64) (.prod (.int .i64) (.prod (.int .i64) (.prod (.int .i64) .bool)))))))) (.prod (.int .i64) (.prod (.row (.prod (.fl (.int .i64)) (.fl (.row (.prod (.int .i64) (.prod (.int .i64) (.prod (.int .i64) (.prod (.int .i64) .bool)))))))) (.prod (.int .i64) .bool))))))))))) (.fl (.row (.prod (.int .i64) (.row (.prod (.int .i64) (.prod (.row (.prod (.int .i64) (.int .i64))) (.prod (.row (.prod (.fl (.int .i64)) (.fl (.row (.prod (.int .i64) (.prod (.int .i64) (.prod (.int .i64) (.prod (.int .i64) .bool)))))))) (.row (.prod (.int .i64) (.prod (.int .i64) (.prod (.int .i64) (.int .i64))))))))))))))] × HL [.bool,(.row (.prod (.row (.prod (.int .i64) (.prod (.row (.prod (.int .i64) (.int .i64))) (.prod (.int .i64) (.prod (.int .i64) (.prod (.fl (.row (.prod (.int .i64) (.prod (.int .i64) (.prod (.int .i64) (.row (.prod (.int .i64) (.prod .bool (.prod .bool (.int .i64)))))))))) (.prod (.fl (.int .i64)) (.prod (.row (.prod (.fl (.int .i64)) (.fl (.row (.prod (.int .i64) (.prod (.int .i64) (.prod (.int .i64) (.prod (.int .i64) .bool)))))))) (.prod (.int .i64) (.prod (.row (.prod (.fl (.int .i64)) (.fl (.row (.prod (.int .i64) (.prod (.int .i64) (.prod (.int .i64) (.prod (.int .i64) .bool)))))))) (.prod (.int .i64) .bool))))))))))) (.fl (.row (.prod (.int .i64) (.row (.prod (.int .i64) (.prod (.row (.prod (.int .i64) (.int .i64))) (.prod (.row (.prod (.fl (.int .i64)) (.fl (.row (.prod (.int .i64) (.prod (.int .i64) (.prod (.int .i64) (.prod (.int .i64) .bool)))))))) (.row (.prod (.int .i64) (.prod (.int .i64) (.prod (.int .i64) (.int .i64))))))))))))))]:=
 let c109:=(decide (s1.1<(s1.2.1.1.2.2.2.2.1.length:Int)))
 let c110:=(decide ((0:Int)≤s1.1))
 let c111:=(Int.toNat s1.1)
 let c112:=(decide (c111<s1.2.1.1.2.2.2.2.1.length))
 let c119:=(withyref21_Recant_r ((s1.2.1.1.2.2.2.2.1[c111]?).getD ((0:Int),((0:Int),((0:Int),((0:Int),(false,(false,(0:Int)))))))).2.2.2)
 let c123:=(withyref22_set_r s1.2.1 s1.1 c119.2.1)
 let c125:=c123.2.2.2.2.2.2.2
 let c127:=(decide (c111<c125.length))
 let c134:=c123.2.2.2.2.2.1
 let c136:=c134.2
 let c138:=c136.2
 let c140:=c138.2
 let c142:=c140.2
 let c160:=c119.2.2.1
 let c162:=c160.2
 let c168:=(withyref22_say_r ((c123.2.1,(c123.2.2.1,(c123.2.2.2.1,(c123.2.2.2.2.1,(c125,(c134.1,(c136.1,(c138.1,(c140.1,(c142.1,c142.2)))))))))),c123.2.2.2.2.2.2.1) ((c125[c111]?).getD ((0:Int),((0:Int),((0:Int),((0:Int),(false,(false,(0:Int)))))))).1 (c119.2.2.2,(c160.1,(c162.1,c162.2))))
 ((cond c109 ((((c110 && c112) && c112) && c119.1) && (c123.1 && (((c110 && c127) && c127) && c168.1))) true),c109,((IntKind.i64.wrap (s1.1+(1:Int))),c168.2,()),((!c109),s1.2.1,()))
noncomputable def withyref22_adopt_r (g_withyref22_begin:HL withyref22_begin_e.ins→Bool × HL withyref22_begin_e.outs) (a1:((Int × ((Int × Int) × (Int × (Int × ((List (Int × (Int × (Int × (Int × (Bool × (Bool × Int))))))) × ((List Int) × (((List Int) × (List (Int × (Int × (Int × (Int × Bool)))))) × (Int × (((List Int) × (List (Int × (Int × (Int × (Int × Bool)))))) × (Int × Bool)))))))))) × (List (Int × (Int × ((Int × Int) × (((List Int) × (List (Int × (Int × (Int × (Int × Bool)))))) × (Int × (Int × (Int × Int)))))))))) (a2:(Int × Int)) (a3:Int):Bool × (((Int × ((Int × Int) × (Int × (Int × ((List (Int × (Int × (Int × (Int × (Bool × (Bool × Int))))))) × ((List Int) × (((List Int) × (List (Int × (Int × (Int × (Int × Bool)))))) × (Int × (((List Int) × (List (Int × (Int × (Int × (Int × Bool)))))) × (Int × Bool)))))))))) × (List (Int × (Int × ((Int × Int) × (((List Int) × (List (Int × (Int × (Int × (Int × Bool)))))) × (Int × (Int × (Int × Int)))))))))):=
 let c18:=(cond (decide (a2.1>a1.1.2.2.1)) ((a1.1.1,(a2,(a2.1,a1.1.2.2.2))),a1.2) ((a1.1.1,(a2,a1.1.2.2)),a1.2))
 let c19:=c18.1
 let c20:=c19.1
 let c21:=c19.2
 let c22:=c21.1
 let c23:=c21.2
 let c24:=c23.1
 let c27:=c23.2.2
 let c28:=c27.1
 let c29:=c27.2
 let c33:=(([]:List Int),([]:List (Int × (Int × (Int × (Int × Bool))))))
 let c38:=c29.2.2.2.2
 let c44:=(c33,((1:Int),(c33,(c38.1,c38.2))))
 let c51:=(withyref22_bound_r (c20,(c22,(c24,(a3,(c28,(c29.1,c44)))))) a3)
 let c97:=(loopD 0 [.int .i64,(.row (.prod (.row (.prod (.int .i64) (.prod (.row (.prod (.int .i64) (.int .i64))) (.prod (.int .i64) (.prod (.int .i64) (.prod (.fl (.row (.prod (.int .i64) (.prod (.int .i64) (.prod (.int .i64) (.row (.prod (.int .i64) (.prod .bool (.prod .bool (.int .i64)))))))))) (.prod (.fl (.int .i64)) (.prod (.row (.prod (.fl (.int .i64)) (.fl (.row (.prod (.int .i64) (.prod (.int .i64) (.prod (.int .i64) (.prod (.int .i64) .bool)))))))) (.prod (.int .i64) (.prod (.row (.prod (.fl (.int .i64)) (.fl (.row (.prod (.int .i64) (.prod (.int .i64) (.prod (.int .i64) (.prod (.int .i64) .bool)))))))) (.prod (.int .i64) .bool))))))))))) (.fl (.row (.prod (.int .i64) (.row (.prod (.int .i64) (.prod (.row (.prod (.int .i64) (.int .i64))) (.prod (.row (.prod (.fl (.int .i64)) (.fl (.row (.prod (.int .i64) (.prod (.int .i64) (.prod (.int .i64) (.prod (.int .i64) .bool)))))))) (.row (.prod (.int .i64) (.prod (.int .i64) (.prod (.int .i64) (.int .i64))))))))))))))] [.bool,(.row (.prod (.row (.prod (.int .i64) (.prod (.row (.prod (.int .i64) (.int .i64))) (.prod (.int .i64) (.prod (.int .i64) (.prod (.fl (.row (.prod (.int .i64) (.prod (.int .i64) (.prod (.int .i64) (.row (.prod (.int .i64) (.prod .bool (.prod .bool (.int .i64)))))))))) (.prod (.fl (.int .i64)) (.prod (.row (.prod (.fl (.int .i64)) (.fl (.row (.prod (.int .i64) (.prod (.int .i64) (.prod (.int .i64) (.prod (.int .i64) .bool)))))))) (.prod (.int .i64) (.prod (.row (.prod (.fl (.int .i64)) (.fl (.row (.prod (.int .i64) (.prod (.int .i64) (.prod (.int .i64) (.prod (.int .i64) .bool)))))))) (.prod (.int .i64) .bool))))))))))) (.fl (.row (.prod (.int .i64) (.row (.prod (.int .i64) (.prod (.row (.prod (.int .i64) (.int .i64))) (.prod (.row (.prod (.fl (.int .i64)) (.fl (.row (.prod (.int .i64) (.prod (.int .i64) (.prod (.int .i64) (.prod (.int .i64) .bool)))))))) (.row (.prod (.int .i64) (.prod (.int .i64) (.prod (.int .i64) (.int .i64))))))))))))))] (withyref22_adopt_l0 g_withyref22_begin a1 a2 a3) ((0:Int),((c20,(c22,(c24,(a3,(c28,(c51.2,c44)))))),c18.2),()))
 let c178:=(loopD 1 [.int .i64,(.row (.prod (.row (.prod (.int .i64) (.prod (.row (.prod (.int .i64) (.int .i64))) (.prod (.int .i64) (.prod (.int .i64) (.prod (.fl (.row (.prod (.int .i64) (.prod (.int .i64) (.prod (.int .i64) (.row (.prod (.int .i64) (.prod .bool (.prod .bool (.int .i64)))))))))) (.prod (.fl (.int .i64)) (.prod (.row (.prod (.fl (.int .i64)) (.fl (.row (.prod (.int .i64) (.prod (.int .i64) (.prod (.int .i64) (.prod (.int .i64) .bool)))))))) (.prod (.int .i64) (.prod (.row (.prod (.fl (.int .i64)) (.fl (.row (.prod (.int .i64) (.prod (.int .i64) (.prod (.int .i64) (.prod (.int .i64) .bool)))))))) (.prod (.int .i64) .bool))))))))))) (.fl (.row (.prod (.int .i64) (.row (.prod (.int .i64) (.prod (.row (.prod (.int .i64) (.int .i64))) (.prod (.row (.prod (.fl (.int .i64)) (.fl (.row (.prod (.int .i64) (.prod (.int .i64) (.prod (.int .i64) (.prod (.int .i64) .bool)))))))) (.row (.prod (.int .i64) (.prod (.int .i64) (.prod (.int .i64) (.int .i64))))))))))))))] [.bool,(.row (.prod (.row (.prod (.int .i64) (.prod (.row (.prod (.int .i64) (.int .i64))) (.prod (.int .i64) (.prod (.int .i64) (.prod (.fl (.row (.prod (.int .i64) (.prod (.int .i64) (.prod (.int .i64) (.row (.prod (.int .i64) (.prod .bool (.prod .bool (.int .i64)))))))))) (.prod (.fl (.int .i64)) (.prod (.row (.prod (.fl (.int .i64)) (.fl (.row (.prod (.int .i64) (.prod (.int .i64) (.prod (.int .i64) (.prod (.int .i64) .bool)))))))) (.prod (.int .i64) (.prod (.row (.prod (.fl (.int .i64)) (.fl (.row (.prod (.int .i64) (.prod (.int .i64) (.prod (.int .i64) (.prod (.int .i64) .bool)))))))) (.prod (.int .i64) .bool))))))))))) (.fl (.row (.prod (.int .i64) (.row (.prod (.int .i64) (.prod (.row (.prod (.int .i64) (.int .i64))) (.prod (.row (.prod (.fl (.int .i64)) (.fl (.row (.prod (.int .i64) (.prod (.int .i64) (.prod (.int .i64) (.prod (.int .i64) .bool)))))))) (.row (.prod (.int .i64) (.prod (.int .i64) (.prod (.int .i64) (.int .i64))))))))))))))] (withyref22_adopt_l1 g_withyref22_begin a1 a2 a3) ((0:Int),c97.2.2.1,()))
 let c181:=(withyref22_settle_r g_withyref22_begin c178.2.2.1)
 ((c51.1 && (c97.1 && (c178.1 && c181.1))),(c181.2))
def withyref22_adopt_e:Ent:=⟨129,[],[(.pure (.row (.prod (.row (.prod (.int .i64) (.prod (.row (.prod (.int .i64) (.int .i64))) (.prod (.int .i64) (.prod (.int .i64) (.prod (.fl (.row (.prod (.int .i64) (.prod (.int .i64) (.prod (.int .i64) (.row (.prod (.int .i64) (.prod .bool (.prod .bool (.int .i64)))))))))) (.prod (.fl (.int .i64)) (.prod (.row (.prod (.fl (.int .i64)) (.fl (.row (.prod (.int .i64) (.prod (.int .i64) (.prod (.int .i64) (.prod (.int .i64) .bool)))))))) (.prod (.int .i64) (.prod (.row (.prod (.fl (.int .i64)) (.fl (.row (.prod (.int .i64) (.prod (.int .i64) (.prod (.int .i64) (.prod (.int .i64) .bool)))))))) (.prod (.int .i64) .bool))))))))))) (.fl (.row (.prod (.int .i64) (.row (.prod (.int .i64) (.prod (.row (.prod (.int .i64) (.int .i64))) (.prod (.row (.prod (.fl (.int .i64)) (.fl (.row (.prod (.int .i64) (.prod (.int .i64) (.prod (.int .i64) (.prod (.int .i64) .bool)))))))) (.row (.prod (.int .i64) (.prod (.int .i64) (.prod (.int .i64) (.int .i64)))))))))))))) (Ty.dflt _)),(.pure (.row (.prod (.int .i64) (.int .i64))) (Ty.dflt _)),(.pure (.int .i64) (Ty.dflt _))],[],[(.pure (.row (.prod (.row (.prod (.int .i64) (.prod (.row (.prod (.int .i64) (.int .i64))) (.prod (.int .i64) (.prod (.int .i64) (.prod (.fl (.row (.prod (.int .i64) (.prod (.int .i64) (.prod (.int .i64) (.row (.prod (.int .i64) (.prod .bool (.prod .bool (.int .i64)))))))))) (.prod (.fl (.int .i64)) (.prod (.row (.prod (.fl (.int .i64)) (.fl (.row (.prod (.int .i64) (.prod (.int .i64) (.prod (.int .i64) (.prod (.int .i64) .bool)))))))) (.prod (.int .i64) (.prod (.row (.prod (.fl (.int .i64)) (.fl (.row (.prod (.int .i64) (.prod (.int .i64) (.prod (.int .i64) (.prod (.int .i64) .bool)))))))) (.prod (.int .i64) .bool))))))))))) (.fl (.row (.prod (.int .i64) (.row (.prod (.int .i64) (.prod (.row (.prod (.int .i64) (.int .i64))) (.prod (.row (.prod (.fl (.int .i64)) (.fl (.row (.prod (.int .i64) (.prod (.int .i64) (.prod (.int .i64) (.prod (.int .i64) .bool)))))))) (.row (.prod (.int .i64) (.prod (.int .i64) (.prod (.int .i64) (.int .i64)))))))))))))) (Ty.dflt _))],[]⟩
noncomputable def withyref22_adopt (g_withyref22_begin:HL withyref22_begin_e.ins→Bool × HL withyref22_begin_e.outs):Fun:=⟨withyref22_adopt_e,fun x=>let r:=withyref22_adopt_r g_withyref22_begin x.1 x.2.1 x.2.2.1; (r.1,(r.2,()))⟩
theorem withyref22_adopt_ev (g_withyref22_begin:HL withyref22_begin_e.ins→Bool × HL withyref22_begin_e.outs):evFun Try.prog [withyref22_bound,withyref22_tell,withyref21_Recant,withyref22_set,withyref22_say,(withyref22_settle g_withyref22_begin)] [⟨[7],[0],⟨[(38,(.pure (.fl (.int .i64)) (Ty.dflt _)))],[(0,⟨.tt,(.var 136 (.row (.pair (.pure (.row (.prod (.int .i64) (.prod (.row (.prod (.int .i64) (.int .i64))) (.prod (.int .i64) (.prod (.int .i64) (.prod (.fl (.row (.prod (.int .i64) (.prod (.int .i64) (.prod (.int .i64) (.row (.prod (.int .i64) (.prod .bool (.prod .bool (.int .i64)))))))))) (.prod (.fl (.int .i64)) (.prod (.row (.prod (.fl (.int .i64)) (.fl (.row (.prod (.int .i64) (.prod (.int .i64) (.prod (.int .i64) (.prod (.int .i64) .bool)))))))) (.prod (.int .i64) (.prod (.row (.prod (.fl (.int .i64)) (.fl (.row (.prod (.int .i64) (.prod (.int .i64) (.prod (.int .i64) (.prod (.int .i64) .bool)))))))) (.prod (.int .i64) .bool))))))))))) (Ty.dflt _)) (.own 3586 10))))⟩),(3586,⟨.tt,(.arr (.row (.prod (.int .i64) (.row (.prod (.int .i64) (.prod (.row (.prod (.int .i64) (.int .i64))) (.prod (.row (.prod (.fl (.int .i64)) (.fl (.row (.prod (.int .i64) (.prod (.int .i64) (.prod (.int .i64) (.prod (.int .i64) .bool)))))))) (.row (.prod (.int .i64) (.prod (.int .i64) (.prod (.int .i64) (.int .i64))))))))))) [] false)⟩)],0⟩,[38],[0],[(1,[]),(2,[])],[]⟩,⟨[8],[0],⟨[],[],0⟩,[],[],[(1,[]),(4,[])],[]⟩] Try.f129 (codeOf Try.f129) withyref22_adopt_e=(withyref22_adopt g_withyref22_begin).fn:=by kernel_rfl
theorem withyref22_adopt_ok (g_withyref22_begin:HL withyref22_begin_e.ins→Bool × HL withyref22_begin_e.outs) (hg_withyref22_begin:FunOk Try.prog ⟨withyref22_begin_e,g_withyref22_begin⟩):FunOk Try.prog (withyref22_adopt g_withyref22_begin):=fun_ok (opers_ok (oks_cons withyref22_bound_ok (oks_cons withyref22_tell_ok (oks_cons withyref21_Recant_ok (oks_cons withyref22_set_ok (oks_cons withyref22_say_ok (oks_cons (withyref22_settle_ok g_withyref22_begin hg_withyref22_begin) oks_nil))))))) Try.call129 Try.func129 (by kernel_rfl) fun x _=>(congrFun (withyref22_adopt_ev g_withyref22_begin) x).symm
noncomputable def withyref22_over_l0 (a1:((Int × ((Int × Int) × (Int × (Int × ((List (Int × (Int × (Int × (Int × (Bool × (Bool × Int))))))) × ((List Int) × (((List Int) × (List (Int × (Int × (Int × (Int × Bool)))))) × (Int × (((List Int) × (List (Int × (Int × (Int × (Int × Bool)))))) × (Int × Bool)))))))))) × (List (Int × (Int × ((Int × Int) × (((List Int) × (List (Int × (Int × (Int × (Int × Bool)))))) × (Int × (Int × (Int × Int)))))))))) (s0:HL [.int .i64,(.row (.prod (.row (.prod (.int .i64) (.prod (.row (.prod (.int .i64) (.int .i64))) (.prod (.int .i64) (.prod (.int .i64) (.prod (.fl (.row (.prod (.int .i64) (.prod (.int .i64) (.prod (.int .i64) (.row (.prod (.int .i64) (.prod .bool (.prod .bool (.int .i64)))))))))) (.prod (.fl (.int .i64)) (.prod (.row (.prod (.fl (.int .i64)) (.fl (.row (.prod (.int .i64) (.prod (.int .i64) (.prod (.int .i64) (.prod (.int .i64) .bool)))))))) (.prod (.int .i64) (.prod (.row (.prod (.fl (.int .i64)) (.fl (.row (.prod (.int .i64) (.prod (.int .i64) (.prod (.int .i64) (.prod (.int .i64) .bool)))))))) (.prod (.int .i64) .bool))))))))))) (.fl (.row (.prod (.int .i64) (.row (.prod (.int .i64) (.prod (.row (.prod (.int .i64) (.int .i64))) (.prod (.row (.prod (.fl (.int .i64)) (.fl (.row (.prod (.int .i64) (.prod (.int .i64) (.prod (.int .i64) (.prod (.int .i64) .bool)))))))) (.row (.prod (.int .i64) (.prod (.int .i64) (.prod (.int .i64) (.int .i64))))))))))))))]):Bool × Bool × HL [.int .i64,(.row (.prod (.row (.prod (.int .i64) (.prod (.row (.prod (.int .i64) (.int .i64))) (.prod (.int .i64) (.prod (.int .i64) (.prod (.fl (.row (.prod (.int .i64) (.prod (.int .i64) (.prod (.int .i64) (.row (.prod (.int .i64) (.prod .bool (.prod .bool (.int .i64)))))))))) (.prod (.fl (.int .i64)) (.prod (.row (.prod (.fl (.int .i64)) (.fl (.row (.prod (.int .i64) (.prod (.int .i64) (.prod (.int .i64) (.prod (.int .i64) .bool)))))))) (.prod (.int .i64) (.prod (.row (.prod (.fl (.int .i64)) (.fl (.row (.prod (.int .i64) (.prod (.int .i64) (.prod (.int .i64) (.prod (.int .i64) .bool)))))))) (.prod (.int .i64) .bool))))))))))) (.fl (.row (.prod (.int .i64) (.row (.prod (.int .i64) (.prod (.row (.prod (.int .i64) (.int .i64))) (.prod (.row (.prod (.fl (.int .i64)) (.fl (.row (.prod (.int .i64) (.prod (.int .i64) (.prod (.int .i64) (.prod (.int .i64) .bool)))))))) (.row (.prod (.int .i64) (.prod (.int .i64) (.prod (.int .i64) (.int .i64))))))))))))))] × HL [.bool,(.row (.prod (.row (.prod (.int .i64) (.prod (.row (.prod (.int .i64) (.int .i64))) (.prod (.int .i64) (.prod (.int .i64) (.prod (.fl (.row (.prod (.int .i64) (.prod (.int .i64) (.prod (.int .i64) (.row (.prod (.int .i64) (.prod .bool (.prod .bool (.int .i64)))))))))) (.prod (.fl (.int .i64)) (.prod (.row (.prod (.fl (.int .i64)) (.fl (.row (.prod (.int .i64) (.prod (.int .i64) (.prod (.int .i64) (.prod (.int .i64) .bool)))))))) (.prod (.int .i64) (.prod (.row (.prod (.fl (.int .i64)) (.fl (.row (.prod (.int .i64) (.prod (.int .i64) (.prod (.int .i64) (.prod (.int .i64) .bool)))))))) (.prod (.int .i64) .bool))))))))))) (.fl (.row (.prod (.int .i64) (.row (.prod (.int .i64) (.prod (.row (.prod (.int .i64) (.int .i64))) (.prod (.row (.prod (.fl (.int .i64)) (.fl (.row (.prod (.int .i64) (.prod (.int .i64) (.prod (.int .i64) (.prod (.int .i64) .bool)))))))) (.row (.prod (.int .i64) (.prod (.int .i64) (.prod (.int .i64) (.int .i64))))))))))))))]:=
 let c10:=(decide (s0.1<(s0.2.1.1.2.2.2.2.1.length:Int)))
 let c11:=(decide ((0:Int)≤s0.1))
 let c12:=(Int.toNat s0.1)
 let c13:=(decide (c12<s0.2.1.1.2.2.2.2.1.length))
 let c15:=((c11 && c13) && c13)
 let c19:=((s0.2.1.1.2.2.2.2.1[c12]?).getD ((0:Int),((0:Int),((0:Int),((0:Int),(false,(false,(0:Int)))))))).2.2.2
 let c20:=(withyref21_Recant_r c19)
 let c25:=c19.2.2.1
 let c26:=(withyref21_Part_r c19)
 let c35:=(withyref22_set_r s0.2.1 s0.1 (cond c25 c26.2.1 c20.2.1))
 let c37:=c35.2.2.2.2.2.2.2
 let c39:=(decide (c12<c37.length))
 let c46:=c35.2.2.2.2.2.1
 let c48:=c46.2
 let c50:=c48.2
 let c52:=c50.2
 let c54:=c52.2
 let c76:=(cond c25 c26.2.2.1 c20.2.2.1)
 let c78:=c76.2
 let c84:=(withyref22_say_r ((c35.2.1,(c35.2.2.1,(c35.2.2.2.1,(c35.2.2.2.2.1,(c37,(c46.1,(c48.1,(c50.1,(c52.1,(c54.1,c54.2)))))))))),c35.2.2.2.2.2.2.1) ((c37[c12]?).getD ((0:Int),((0:Int),((0:Int),((0:Int),(false,(false,(0:Int)))))))).1 ((cond c25 c26.2.2.2 c20.2.2.2),(c76.1,(c78.1,c78.2))))
 ((cond c10 ((c15 && c20.1) && ((c15 && (cond c25 (c15 && c26.1) true)) && (c35.1 && (((c11 && c39) && c39) && c84.1)))) true),c10,((IntKind.i64.wrap (s0.1+(1:Int))),c84.2,()),((!c10),s0.2.1,()))
noncomputable def withyref22_over_r (a1:((Int × ((Int × Int) × (Int × (Int × ((List (Int × (Int × (Int × (Int × (Bool × (Bool × Int))))))) × ((List Int) × (((List Int) × (List (Int × (Int × (Int × (Int × Bool)))))) × (Int × (((List Int) × (List (Int × (Int × (Int × (Int × Bool)))))) × (Int × Bool)))))))))) × (List (Int × (Int × ((Int × Int) × (((List Int) × (List (Int × (Int × (Int × (Int × Bool)))))) × (Int × (Int × (Int × Int)))))))))):Bool × (((Int × ((Int × Int) × (Int × (Int × ((List (Int × (Int × (Int × (Int × (Bool × (Bool × Int))))))) × ((List Int) × (((List Int) × (List (Int × (Int × (Int × (Int × Bool)))))) × (Int × (((List Int) × (List (Int × (Int × (Int × (Int × Bool)))))) × (Int × Bool)))))))))) × (List (Int × (Int × ((Int × Int) × (((List Int) × (List (Int × (Int × (Int × (Int × Bool)))))) × (Int × (Int × (Int × Int)))))))))):=
 let c108:=(([]:List Int),([]:List (Int × (Int × (Int × (Int × Bool))))))
 let c127:=(loopD 0 [.int .i64,(.row (.prod (.row (.prod (.int .i64) (.prod (.row (.prod (.int .i64) (.int .i64))) (.prod (.int .i64) (.prod (.int .i64) (.prod (.fl (.row (.prod (.int .i64) (.prod (.int .i64) (.prod (.int .i64) (.row (.prod (.int .i64) (.prod .bool (.prod .bool (.int .i64)))))))))) (.prod (.fl (.int .i64)) (.prod (.row (.prod (.fl (.int .i64)) (.fl (.row (.prod (.int .i64) (.prod (.int .i64) (.prod (.int .i64) (.prod (.int .i64) .bool)))))))) (.prod (.int .i64) (.prod (.row (.prod (.fl (.int .i64)) (.fl (.row (.prod (.int .i64) (.prod (.int .i64) (.prod (.int .i64) (.prod (.int .i64) .bool)))))))) (.prod (.int .i64) .bool))))))))))) (.fl (.row (.prod (.int .i64) (.row (.prod (.int .i64) (.prod (.row (.prod (.int .i64) (.int .i64))) (.prod (.row (.prod (.fl (.int .i64)) (.fl (.row (.prod (.int .i64) (.prod (.int .i64) (.prod (.int .i64) (.prod (.int .i64) .bool)))))))) (.row (.prod (.int .i64) (.prod (.int .i64) (.prod (.int .i64) (.int .i64))))))))))))))] [.bool,(.row (.prod (.row (.prod (.int .i64) (.prod (.row (.prod (.int .i64) (.int .i64))) (.prod (.int .i64) (.prod (.int .i64) (.prod (.fl (.row (.prod (.int .i64) (.prod (.int .i64) (.prod (.int .i64) (.row (.prod (.int .i64) (.prod .bool (.prod .bool (.int .i64)))))))))) (.prod (.fl (.int .i64)) (.prod (.row (.prod (.fl (.int .i64)) (.fl (.row (.prod (.int .i64) (.prod (.int .i64) (.prod (.int .i64) (.prod (.int .i64) .bool)))))))) (.prod (.int .i64) (.prod (.row (.prod (.fl (.int .i64)) (.fl (.row (.prod (.int .i64) (.prod (.int .i64) (.prod (.int .i64) (.prod (.int .i64) .bool)))))))) (.prod (.int .i64) .bool))))))))))) (.fl (.row (.prod (.int .i64) (.row (.prod (.int .i64) (.prod (.row (.prod (.int .i64) (.int .i64))) (.prod (.row (.prod (.fl (.int .i64)) (.fl (.row (.prod (.int .i64) (.prod (.int .i64) (.prod (.int .i64) (.prod (.int .i64) .bool)))))))) (.row (.prod (.int .i64) (.prod (.int .i64) (.prod (.int .i64) (.int .i64))))))))))))))] (withyref22_over_l0 a1) ((0:Int),((a1.1.1,(((0:Int),(0:Int)),(a1.1.2.2.1,((0:Int),(a1.1.2.2.2.2.1,(([]:List Int),(c108,((0:Int),(c108,(a1.1.2.2.2.2.2.2.2.2.2.1,true)))))))))),a1.2),()))
 (c127.1,(c127.2.2.1))
def withyref22_over_e:Ent:=⟨130,[],[(.pure (.row (.prod (.row (.prod (.int .i64) (.prod (.row (.prod (.int .i64) (.int .i64))) (.prod (.int .i64) (.prod (.int .i64) (.prod (.fl (.row (.prod (.int .i64) (.prod (.int .i64) (.prod (.int .i64) (.row (.prod (.int .i64) (.prod .bool (.prod .bool (.int .i64)))))))))) (.prod (.fl (.int .i64)) (.prod (.row (.prod (.fl (.int .i64)) (.fl (.row (.prod (.int .i64) (.prod (.int .i64) (.prod (.int .i64) (.prod (.int .i64) .bool)))))))) (.prod (.int .i64) (.prod (.row (.prod (.fl (.int .i64)) (.fl (.row (.prod (.int .i64) (.prod (.int .i64) (.prod (.int .i64) (.prod (.int .i64) .bool)))))))) (.prod (.int .i64) .bool))))))))))) (.fl (.row (.prod (.int .i64) (.row (.prod (.int .i64) (.prod (.row (.prod (.int .i64) (.int .i64))) (.prod (.row (.prod (.fl (.int .i64)) (.fl (.row (.prod (.int .i64) (.prod (.int .i64) (.prod (.int .i64) (.prod (.int .i64) .bool)))))))) (.row (.prod (.int .i64) (.prod (.int .i64) (.prod (.int .i64) (.int .i64)))))))))))))) (Ty.dflt _))],[],[(.pure (.row (.prod (.row (.prod (.int .i64) (.prod (.row (.prod (.int .i64) (.int .i64))) (.prod (.int .i64) (.prod (.int .i64) (.prod (.fl (.row (.prod (.int .i64) (.prod (.int .i64) (.prod (.int .i64) (.row (.prod (.int .i64) (.prod .bool (.prod .bool (.int .i64)))))))))) (.prod (.fl (.int .i64)) (.prod (.row (.prod (.fl (.int .i64)) (.fl (.row (.prod (.int .i64) (.prod (.int .i64) (.prod (.int .i64) (.prod (.int .i64) .bool)))))))) (.prod (.int .i64) (.prod (.row (.prod (.fl (.int .i64)) (.fl (.row (.prod (.int .i64) (.prod (.int .i64) (.prod (.int .i64) (.prod (.int .i64) .bool)))))))) (.prod (.int .i64) .bool))))))))))) (.fl (.row (.prod (.int .i64) (.row (.prod (.int .i64) (.prod (.row (.prod (.int .i64) (.int .i64))) (.prod (.row (.prod (.fl (.int .i64)) (.fl (.row (.prod (.int .i64) (.prod (.int .i64) (.prod (.int .i64) (.prod (.int .i64) .bool)))))))) (.row (.prod (.int .i64) (.prod (.int .i64) (.prod (.int .i64) (.int .i64)))))))))))))) (Ty.dflt _))],[]⟩
noncomputable def withyref22_over:Fun:=⟨withyref22_over_e,fun x=>let r:=withyref22_over_r x.1; (r.1,(r.2,()))⟩
theorem withyref22_over_ev:evFun Try.prog [withyref21_Recant,withyref21_Part,withyref22_set,withyref22_say] [⟨[3],[0],⟨[],[(0,⟨.tt,(.var 136 (.pure (.row (.prod (.row (.prod (.int .i64) (.prod (.row (.prod (.int .i64) (.int .i64))) (.prod (.int .i64) (.prod (.int .i64) (.prod (.fl (.row (.prod (.int .i64) (.prod (.int .i64) (.prod (.int .i64) (.row (.prod (.int .i64) (.prod .bool (.prod .bool (.int .i64)))))))))) (.prod (.fl (.int .i64)) (.prod (.row (.prod (.fl (.int .i64)) (.fl (.row (.prod (.int .i64) (.prod (.int .i64) (.prod (.int .i64) (.prod (.int .i64) .bool)))))))) (.prod (.int .i64) (.prod (.row (.prod (.fl (.int .i64)) (.fl (.row (.prod (.int .i64) (.prod (.int .i64) (.prod (.int .i64) (.prod (.int .i64) .bool)))))))) (.prod (.int .i64) .bool))))))))))) (.fl (.row (.prod (.int .i64) (.row (.prod (.int .i64) (.prod (.row (.prod (.int .i64) (.int .i64))) (.prod (.row (.prod (.fl (.int .i64)) (.fl (.row (.prod (.int .i64) (.prod (.int .i64) (.prod (.int .i64) (.prod (.int .i64) .bool)))))))) (.row (.prod (.int .i64) (.prod (.int .i64) (.prod (.int .i64) (.int .i64)))))))))))))) (Ty.dflt _)))⟩)],0⟩,[],[0],[(1,[]),(2,[])],[]⟩] Try.f130 (codeOf Try.f130) withyref22_over_e=(withyref22_over).fn:=by kernel_rfl
theorem withyref22_over_ok:FunOk Try.prog (withyref22_over):=fun_ok (opers_ok (oks_cons withyref21_Recant_ok (oks_cons withyref21_Part_ok (oks_cons withyref22_set_ok (oks_cons withyref22_say_ok oks_nil))))) Try.call130 Try.func130 (by kernel_rfl) fun x _=>(congrFun (withyref22_over_ev) x).symm
noncomputable def withyref22_begin_s_r (g_withyref22_begin:HL withyref22_begin_e.ins→Bool × HL withyref22_begin_e.outs) (a1:((Int × ((Int × Int) × (Int × (Int × ((List (Int × (Int × (Int × (Int × (Bool × (Bool × Int))))))) × ((List Int) × (((List Int) × (List (Int × (Int × (Int × (Int × Bool)))))) × (Int × (((List Int) × (List (Int × (Int × (Int × (Int × Bool)))))) × (Int × Bool)))))))))) × (List (Int × (Int × ((Int × Int) × (((List Int) × (List (Int × (Int × (Int × (Int × Bool)))))) × (Int × (Int × (Int × Int)))))))))):Bool × (((Int × ((Int × Int) × (Int × (Int × ((List (Int × (Int × (Int × (Int × (Bool × (Bool × Int))))))) × ((List Int) × (((List Int) × (List (Int × (Int × (Int × (Int × Bool)))))) × (Int × (((List Int) × (List (Int × (Int × (Int × (Int × Bool)))))) × (Int × Bool)))))))))) × (List (Int × (Int × ((Int × Int) × (((List Int) × (List (Int × (Int × (Int × (Int × Bool)))))) × (Int × (Int × (Int × Int)))))))))):=
 let c12:=(!a1.1.2.2.2.2.2.2.2.2.2.2)
 let c20:=(withyref12_After_r (cond (decide (a1.1.2.1.1>a1.1.2.2.1)) a1.1.2.1.1 a1.1.2.2.1) a1.1.2.2.2.2.2.2.2.2.2.1 a1.1.1)
 let c24:=(c20.2.2==(0:Int))
 let c26:=(withyref22_adopt_r g_withyref22_begin a1 c20.2.1 (0:Int))
 let c30:=(!c24)
 let c31:=(withyref22_over_r a1)
 ((cond c12 (c20.1 && ((cond c24 c26.1 true) && (cond c30 c31.1 true))) true),((cond c12 (cond c30 c31.2 c26.2) a1)))
noncomputable def withyref22_begin_s (g_withyref22_begin:HL withyref22_begin_e.ins→Bool × HL withyref22_begin_e.outs):HL withyref22_begin_e.ins→Bool × HL withyref22_begin_e.outs:=fun x=>let r:=withyref22_begin_s_r g_withyref22_begin x.1; (r.1,(r.2,()))
theorem withyref22_begin_ev (g_withyref22_begin:HL withyref22_begin_e.ins→Bool × HL withyref22_begin_e.outs):evFun Try.prog [withyref12_After,(withyref22_adopt g_withyref22_begin),withyref22_over] [⟨[],[],⟨[],[],0⟩,[],[],[],[(1000003,([3],[]))]⟩] Try.f100 (codeOf Try.f100) withyref22_begin_e=withyref22_begin_s g_withyref22_begin:=by kernel_rfl
noncomputable def withyref22_begin:Fun:=⟨withyref22_begin_e,recF withyref22_begin_e (withyref22_begin_s)⟩
theorem withyref22_begin_ok:FunOk Try.prog (withyref22_begin):=rec_ok Try.call100 fun g_withyref22_begin hg_withyref22_begin=>fun_ok (F:=⟨withyref22_begin_e,withyref22_begin_s g_withyref22_begin⟩) (opers_ok (oks_cons withyref12_After_ok (oks_cons (withyref22_adopt_ok g_withyref22_begin hg_withyref22_begin) (oks_cons withyref22_over_ok oks_nil)))) Try.call100 Try.func100 (by kernel_rfl) fun x _=>(congrFun (withyref22_begin_ev g_withyref22_begin) x).symm
noncomputable def withyref22_begin_r (a1:((Int × ((Int × Int) × (Int × (Int × ((List (Int × (Int × (Int × (Int × (Bool × (Bool × Int))))))) × ((List Int) × (((List Int) × (List (Int × (Int × (Int × (Int × Bool)))))) × (Int × (((List Int) × (List (Int × (Int × (Int × (Int × Bool)))))) × (Int × Bool)))))))))) × (List (Int × (Int × ((Int × Int) × (((List Int) × (List (Int × (Int × (Int × (Int × Bool)))))) × (Int × (Int × (Int × Int)))))))))):Bool × (((Int × ((Int × Int) × (Int × (Int × ((List (Int × (Int × (Int × (Int × (Bool × (Bool × Int))))))) × ((List Int) × (((List Int) × (List (Int × (Int × (Int × (Int × Bool)))))) × (Int × (((List Int) × (List (Int × (Int × (Int × (Int × Bool)))))) × (Int × Bool)))))))))) × (List (Int × (Int × ((Int × Int) × (((List Int) × (List (Int × (Int × (Int × (Int × Bool)))))) × (Int × (Int × (Int × Int)))))))))):=let r:=recF withyref22_begin_e (withyref22_begin_s) (a1,()); (r.1,(r.2.1))
noncomputable def withyref22_New_r (a1:Int) (a2:Int):Bool × ((Int × ((Int × Int) × (Int × (Int × ((List (Int × (Int × (Int × (Int × (Bool × (Bool × Int))))))) × ((List Int) × (((List Int) × (List (Int × (Int × (Int × (Int × Bool)))))) × (Int × (((List Int) × (List (Int × (Int × (Int × (Int × Bool)))))) × (Int × Bool))))))))))):=
 let c6:=(([]:List Int),([]:List (Int × (Int × (Int × (Int × Bool))))))
 let c21:=(withyref22_begin_r ((a1,(((0:Int),(0:Int)),((0:Int),((0:Int),(([]:List (Int × (Int × (Int × (Int × (Bool × (Bool × Int))))))),(([]:List Int),(c6,((0:Int),(c6,(a2,false)))))))))),([]:List (Int × (Int × ((Int × Int) × (((List Int) × (List (Int × (Int × (Int × (Int × Bool)))))) × (Int × (Int × (Int × Int))))))))))
 (c21.1,(c21.2.1))
def withyref22_New_e:Ent:=⟨58,[],[(.pure (.int .i64) (Ty.dflt _)),(.pure (.int .i64) (Ty.dflt _))],[],[(.pure (.row (.prod (.int .i64) (.prod (.row (.prod (.int .i64) (.int .i64))) (.prod (.int .i64) (.prod (.int .i64) (.prod (.fl (.row (.prod (.int .i64) (.prod (.int .i64) (.prod (.int .i64) (.row (.prod (.int .i64) (.prod .bool (.prod .bool (.int .i64)))))))))) (.prod (.fl (.int .i64)) (.prod (.row (.prod (.fl (.int .i64)) (.fl (.row (.prod (.int .i64) (.prod (.int .i64) (.prod (.int .i64) (.prod (.int .i64) .bool)))))))) (.prod (.int .i64) (.prod (.row (.prod (.fl (.int .i64)) (.fl (.row (.prod (.int .i64) (.prod (.int .i64) (.prod (.int .i64) (.prod (.int .i64) .bool)))))))) (.prod (.int .i64) .bool))))))))))) (Ty.dflt _))],[]⟩
noncomputable def withyref22_New:Fun:=⟨withyref22_New_e,fun x=>let r:=withyref22_New_r x.1 x.2.1; (r.1,(r.2,()))⟩
theorem withyref22_New_ev:evFun Try.prog [withyref22_begin] [] Try.f58 (codeOf Try.f58) withyref22_New_e=(withyref22_New).fn:=by kernel_rfl
theorem withyref22_New_ok:FunOk Try.prog (withyref22_New):=fun_ok (opers_ok (oks_cons withyref22_begin_ok oks_nil)) Try.call58 Try.func58 (by kernel_rfl) fun x _=>(congrFun (withyref22_New_ev) x).symm
noncomputable def ask_Stable_r (a1:(Int × ((Int × Int) × (Int × (Int × ((List (Int × (Int × (Int × (Int × (Bool × (Bool × Int))))))) × ((List Int) × (((List Int) × (List (Int × (Int × (Int × (Int × Bool)))))) × (Int × (((List Int) × (List (Int × (Int × (Int × (Int × Bool)))))) × (Int × Bool))))))))))):Bool × (Bool):=
 let c10:=(a1.2.2.2.2.2.2.2.1==(4:Int))
 let c12:=(cond c10 c10 true)
 (((c12 && c12) && c12),((cond c10 (!a1.2.2.2.2.2.2.2.2.2.2) false)))
def ask_Stable_e:Ent:=⟨21,[],[(.pure (.row (.prod (.int .i64) (.prod (.row (.prod (.int .i64) (.int .i64))) (.prod (.int .i64) (.prod (.int .i64) (.prod (.fl (.row (.prod (.int .i64) (.prod (.int .i64) (.prod (.int .i64) (.row (.prod (.int .i64) (.prod .bool (.prod .bool (.int .i64)))))))))) (.prod (.fl (.int .i64)) (.prod (.row (.prod (.fl (.int .i64)) (.fl (.row (.prod (.int .i64) (.prod (.int .i64) (.prod (.int .i64) (.prod (.int .i64) .bool)))))))) (.prod (.int .i64) (.prod (.row (.prod (.fl (.int .i64)) (.fl (.row (.prod (.int .i64) (.prod (.int .i64) (.prod (.int .i64) (.prod (.int .i64) .bool)))))))) (.prod (.int .i64) .bool))))))))))) (Ty.dflt _))],[],[(.pure .bool (Ty.dflt _))],[]⟩
noncomputable def ask_Stable:Fun:=⟨ask_Stable_e,fun x=>let r:=ask_Stable_r x.1; (r.1,(r.2,()))⟩
theorem ask_Stable_ev:evFun Try.prog [] [] Try.f21 (codeOf Try.f21) ask_Stable_e=(ask_Stable).fn:=by kernel_rfl
theorem ask_Stable_ok:FunOk Try.prog (ask_Stable):=fun_ok (opers_ok oks_nil) Try.call21 Try.func21 (by kernel_rfl) fun x _=>(congrFun (ask_Stable_ev) x).symm
noncomputable def ask_check_r (a1:(Int × ((Int × Int) × (Int × (Int × ((List (Int × (Int × (Int × (Int × (Bool × (Bool × Int))))))) × ((List Int) × (((List Int) × (List (Int × (Int × (Int × (Int × Bool)))))) × (Int × (((List Int) × (List (Int × (Int × (Int × (Int × Bool)))))) × (Int × Bool))))))))))):Bool × (Int):=
 let c12:=(ask_Stable_r a1)
 ((cond a1.2.2.2.2.2.2.2.2.2.2 true c12.1),((cond ((!(!c12.2)) && (!a1.2.2.2.2.2.2.2.2.2.2)) (0:Int) (cond a1.2.2.2.2.2.2.2.2.2.2 (10:Int) (8:Int)))))
def ask_check_e:Ent:=⟨59,[],[(.pure (.row (.prod (.int .i64) (.prod (.row (.prod (.int .i64) (.int .i64))) (.prod (.int .i64) (.prod (.int .i64) (.prod (.fl (.row (.prod (.int .i64) (.prod (.int .i64) (.prod (.int .i64) (.row (.prod (.int .i64) (.prod .bool (.prod .bool (.int .i64)))))))))) (.prod (.fl (.int .i64)) (.prod (.row (.prod (.fl (.int .i64)) (.fl (.row (.prod (.int .i64) (.prod (.int .i64) (.prod (.int .i64) (.prod (.int .i64) .bool)))))))) (.prod (.int .i64) (.prod (.row (.prod (.fl (.int .i64)) (.fl (.row (.prod (.int .i64) (.prod (.int .i64) (.prod (.int .i64) (.prod (.int .i64) .bool)))))))) (.prod (.int .i64) .bool))))))))))) (Ty.dflt _))],[],[(.pure (.int .i64) (Ty.dflt _))],[]⟩
noncomputable def ask_check:Fun:=⟨ask_check_e,fun x=>let r:=ask_check_r x.1; (r.1,(r.2,()))⟩
theorem ask_check_ev:evFun Try.prog [ask_Stable] [] Try.f59 (codeOf Try.f59) ask_check_e=(ask_check).fn:=by kernel_rfl
theorem ask_check_ok:FunOk Try.prog (ask_check):=fun_ok (opers_ok (oks_cons ask_Stable_ok oks_nil)) Try.call59 Try.func59 (by kernel_rfl) fun x _=>(congrFun (ask_check_ev) x).symm
noncomputable def ask_Leader_r (a1:(Int × ((Int × Int) × (Int × (Int × ((List (Int × (Int × (Int × (Int × (Bool × (Bool × Int))))))) × ((List Int) × (((List Int) × (List (Int × (Int × (Int × (Int × Bool)))))) × (Int × (((List Int) × (List (Int × (Int × (Int × (Int × Bool)))))) × (Int × Bool))))))))))):Bool × (Int × Int):=
 let c1:=(ask_check_r a1)
 let c3:=c1.2
 let c6:=(!(c3 !=(0:Int)))
 (c1.1,((cond c6 a1.2.1.2 (0:Int)),(cond c6 (0:Int) c3)))
def ask_Leader_e:Ent:=⟨17,[],[(.pure (.row (.prod (.int .i64) (.prod (.row (.prod (.int .i64) (.int .i64))) (.prod (.int .i64) (.prod (.int .i64) (.prod (.fl (.row (.prod (.int .i64) (.prod (.int .i64) (.prod (.int .i64) (.row (.prod (.int .i64) (.prod .bool (.prod .bool (.int .i64)))))))))) (.prod (.fl (.int .i64)) (.prod (.row (.prod (.fl (.int .i64)) (.fl (.row (.prod (.int .i64) (.prod (.int .i64) (.prod (.int .i64) (.prod (.int .i64) .bool)))))))) (.prod (.int .i64) (.prod (.row (.prod (.fl (.int .i64)) (.fl (.row (.prod (.int .i64) (.prod (.int .i64) (.prod (.int .i64) (.prod (.int .i64) .bool)))))))) (.prod (.int .i64) .bool))))))))))) (Ty.dflt _))],[],[(.pure (.int .i64) (Ty.dflt _)),(.pure (.int .i64) (Ty.dflt _))],[]⟩
noncomputable def ask_Leader:Fun:=⟨ask_Leader_e,fun x=>let r:=ask_Leader_r x.1; (r.1,(r.2.1,r.2.2,()))⟩
theorem ask_Leader_ev:evFun Try.prog [ask_check] [] Try.f17 (codeOf Try.f17) ask_Leader_e=(ask_Leader).fn:=by kernel_rfl
theorem ask_Leader_ok:FunOk Try.prog (ask_Leader):=fun_ok (opers_ok (oks_cons ask_check_ok oks_nil)) Try.call17 Try.func17 (by kernel_rfl) fun x _=>(congrFun (ask_Leader_ev) x).symm
noncomputable def edge_Node_r (a1:Int):Bool × (Bool):=
 let c2:=(decide (a1≥(1:Int)))
 let c4:=(cond c2 c2 true)
 ((c4 && c4),((cond c2 (decide (a1≤(64:Int))) false)))
def edge_Node_e:Ent:=⟨70,[],[(.pure (.int .i64) (Ty.dflt _))],[],[(.pure .bool (Ty.dflt _))],[]⟩
noncomputable def edge_Node:Fun:=⟨edge_Node_e,fun x=>let r:=edge_Node_r x.1; (r.1,(r.2,()))⟩
theorem edge_Node_ev:evFun Try.prog [] [] Try.f70 (codeOf Try.f70) edge_Node_e=(edge_Node).fn:=by kernel_rfl
theorem edge_Node_ok:FunOk Try.prog (edge_Node):=fun_ok (opers_ok oks_nil) Try.call70 Try.func70 (by kernel_rfl) fun x _=>(congrFun (edge_Node_ev) x).symm
noncomputable def slices_Index_int_l0 (a1:(List Int)) (a2:Int) (s0:HL [.int .i64]):Bool × Bool × HL [.int .i64] × HL [.bool,.int .i64,.bool]:=
 let c4:=(decide (s0.1<(a1.length:Int)))
 let c6:=(Int.toNat s0.1)
 let c7:=(decide (c6<a1.length))
 let c14:=(a2==((a1[c6]?).getD (0:Int)))
 ((cond c4 (((decide ((0:Int)≤s0.1)) && c7) && c7) true),(c4 && (!c14)),((IntKind.i64.wrap (s0.1+(1:Int))),()),((c4 && c14),s0.1,(!c4),()))
noncomputable def slices_Index_int_r (a1:(List Int)) (a2:Int):Bool × (Int):=
 let c22:=(loopD 0 [.int .i64] [.bool,.int .i64,.bool] (slices_Index_int_l0 a1 a2) ((0:Int),()))
 (c22.1,((cond c22.2.2.2.1 (-1:Int) c22.2.2.1)))
def slices_Index_int_e:Ent:=⟨170,[],[(.pure (.fl (.int .i64)) (Ty.dflt _)),(.pure (.int .i64) (Ty.dflt _))],[],[(.pure (.int .i64) (Ty.dflt _))],[]⟩
noncomputable def slices_Index_int:Fun:=⟨slices_Index_int_e,fun x=>let r:=slices_Index_int_r x.1 x.2.1; (r.1,(r.2,()))⟩
theorem slices_Index_int_ev:evFun Try.prog [] [⟨[8],[],⟨[],[],0⟩,[],[],[(1,[4]),(2,[])],[]⟩,⟨[],[],⟨[],[],0⟩,[],[],[],[(1000003,([8],[]))]⟩] Try.f170 (codeOf Try.f170) slices_Index_int_e=(slices_Index_int).fn:=by kernel_rfl
theorem slices_Index_int_ok:FunOk Try.prog (slices_Index_int):=fun_ok (opers_ok oks_nil) Try.call170 Try.func170 (by kernel_rfl) fun x _=>(congrFun (slices_Index_int_ev) x).symm
noncomputable def slices_Contains_int_r (a1:(List Int)) (a2:Int):Bool × (Bool):=
 let c2:=(slices_Index_int_r a1 a2)
 (c2.1,((decide (c2.2≥(0:Int)))))
def slices_Contains_int_e:Ent:=⟨132,[],[(.pure (.fl (.int .i64)) (Ty.dflt _)),(.pure (.int .i64) (Ty.dflt _))],[],[(.pure .bool (Ty.dflt _))],[]⟩
noncomputable def slices_Contains_int:Fun:=⟨slices_Contains_int_e,fun x=>let r:=slices_Contains_int_r x.1 x.2.1; (r.1,(r.2,()))⟩
theorem slices_Contains_int_ev:evFun Try.prog [slices_Index_int] [] Try.f132 (codeOf Try.f132) slices_Contains_int_e=(slices_Contains_int).fn:=by kernel_rfl
theorem slices_Contains_int_ok:FunOk Try.prog (slices_Contains_int):=fun_ok (opers_ok (oks_cons slices_Index_int_ok oks_nil)) Try.call132 Try.func132 (by kernel_rfl) fun x _=>(congrFun (slices_Contains_int_ev) x).symm
noncomputable def cmp_isNaN_int_r (a1:Int):Bool × (Bool):=
 (true,((a1 !=a1)))
def cmp_isNaN_int_e:Ent:=⟨120,[],[(.pure (.int .i64) (Ty.dflt _))],[],[(.pure .bool (Ty.dflt _))],[]⟩
noncomputable def cmp_isNaN_int:Fun:=⟨cmp_isNaN_int_e,fun x=>let r:=cmp_isNaN_int_r x.1; (r.1,(r.2,()))⟩
theorem cmp_isNaN_int_ev:evFun Try.prog [] [] Try.f120 (codeOf Try.f120) cmp_isNaN_int_e=(cmp_isNaN_int).fn:=by kernel_rfl
theorem cmp_isNaN_int_ok:FunOk Try.prog (cmp_isNaN_int):=fun_ok (opers_ok oks_nil) Try.call120 Try.func120 (by kernel_rfl) fun x _=>(congrFun (cmp_isNaN_int_ev) x).symm
noncomputable def cmp_Compare_int_r (a1:Int) (a2:Int):Bool × (Int):=
 let c1:=(cmp_isNaN_int_r a1)
 let c4:=(cmp_isNaN_int_r a2)
 let c10:=(!c4.2)
 ((c1.1 && c4.1),((cond (!c1.2) (cond c10 (cond (!(decide (a1<a2))) (cond (!(decide (a1>a2))) (0:Int) (1:Int)) (-1:Int)) (1:Int)) (cond c10 (-1:Int) (0:Int)))))
def cmp_Compare_int_e:Ent:=⟨87,[],[(.pure (.int .i64) (Ty.dflt _)),(.pure (.int .i64) (Ty.dflt _))],[],[(.pure (.int .i64) (Ty.dflt _))],[]⟩
noncomputable def cmp_Compare_int:Fun:=⟨cmp_Compare_int_e,fun x=>let r:=cmp_Compare_int_r x.1 x.2.1; (r.1,(r.2,()))⟩
theorem cmp_Compare_int_ev:evFun Try.prog [cmp_isNaN_int] [] Try.f87 (codeOf Try.f87) cmp_Compare_int_e=(cmp_Compare_int).fn:=by kernel_rfl
theorem cmp_Compare_int_ok:FunOk Try.prog (cmp_Compare_int):=fun_ok (opers_ok (oks_cons cmp_isNaN_int_ok oks_nil)) Try.call87 Try.func87 (by kernel_rfl) fun x _=>(congrFun (cmp_Compare_int_ev) x).symm
noncomputable def cmp_Or_int_l0 (a1:(List Int)) (s0:HL [.int .i64]):Bool × Bool × HL [.int .i64] × HL [.bool,.int .i64,.bool]:=
 let c4:=(decide (s0.1<(a1.length:Int)))
 let c6:=(Int.toNat s0.1)
 let c7:=(decide (c6<a1.length))
 let c12:=((a1[c6]?).getD (0:Int))
 let c14:=(c12 !=(0:Int))
 ((cond c4 (((decide ((0:Int)≤s0.1)) && c7) && c7) true),(c4 && (!c14)),((IntKind.i64.wrap (s0.1+(1:Int))),()),((c4 && c14),c12,(!c4),()))
noncomputable def cmp_Or_int_r (a1:(List Int)):Bool × (Int):=
 let c21:=(loopD 0 [.int .i64] [.bool,.int .i64,.bool] (cmp_Or_int_l0 a1) ((0:Int),()))
 (c21.1,((cond c21.2.2.2.1 (0:Int) c21.2.2.1)))
def cmp_Or_int_e:Ent:=⟨86,[],[(.pure (.fl (.int .i64)) (Ty.dflt _))],[],[(.pure (.int .i64) (Ty.dflt _))],[]⟩
noncomputable def cmp_Or_int:Fun:=⟨cmp_Or_int_e,fun x=>let r:=cmp_Or_int_r x.1; (r.1,(r.2,()))⟩
theorem cmp_Or_int_ev:evFun Try.prog [] [⟨[8],[],⟨[],[],0⟩,[],[],[(1,[2]),(2,[])],[]⟩,⟨[],[],⟨[],[],0⟩,[],[],[],[(1000003,([8],[]))]⟩] Try.f86 (codeOf Try.f86) cmp_Or_int_e=(cmp_Or_int).fn:=by kernel_rfl
theorem cmp_Or_int_ok:FunOk Try.prog (cmp_Or_int):=fun_ok (opers_ok oks_nil) Try.call86 Try.func86 (by kernel_rfl) fun x _=>(congrFun (cmp_Or_int_ev) x).symm
noncomputable def view_order_r (a1:(Int × (Int × (Int × (Int × Bool))))) (a2:(Int × (Int × (Int × (Int × Bool))))):Bool × (Int):=
 let c4:=(cmp_Compare_int_r a1.1 a2.1)
 let c10:=(cmp_Compare_int_r a1.2.1 a2.2.1)
 let c18:=(cmp_Or_int_r (c4.2::(c10.2::([]:List Int))))
 (((c4.1 && c10.1) && c18.1),(c18.2))
def view_order_e:Ent:=⟨190,[],[(.pure (.row (.prod (.int .i64) (.prod (.int .i64) (.prod (.int .i64) (.prod (.int .i64) .bool))))) (Ty.dflt _)),(.pure (.row (.prod (.int .i64) (.prod (.int .i64) (.prod (.int .i64) (.prod (.int .i64) .bool))))) (Ty.dflt _))],[],[(.pure (.int .i64) (Ty.dflt _))],[]⟩
noncomputable def view_order:Fun:=⟨view_order_e,fun x=>let r:=view_order_r x.1 x.2.1; (r.1,(r.2,()))⟩
theorem view_order_ev:evFun Try.prog [cmp_Compare_int,cmp_Or_int] [] Try.f190 (codeOf Try.f190) view_order_e=(view_order).fn:=by kernel_rfl
theorem view_order_ok:FunOk Try.prog (view_order):=fun_ok (opers_ok (oks_cons cmp_Compare_int_ok (oks_cons cmp_Or_int_ok oks_nil))) Try.call190 Try.func190 (by kernel_rfl) fun x _=>(congrFun (view_order_ev) x).symm
noncomputable def view_Check_l0 (a1:((List Int) × (List (Int × (Int × (Int × (Int × Bool))))))) (s0:HL [.int .i64]):Bool × Bool × HL [.int .i64] × HL [.bool,.int .i64,.bool]:=
 let c5:=(decide (s0.1<(a1.1.length:Int)))
 let c7:=(Int.toNat s0.1)
 let c8:=(decide (c7<a1.1.length))
 let c11:=((a1.1[c7]?).getD (0:Int))
 let c12:=(edge_Node_r c11)
 let c15:=(!c12.2)
 let c16:=(!c15)
 let c20:=(c16 && c16)
 let c22:=(decide (s0.1>(0:Int)))
 let c23:=(c20 && c22)
 let c24:=(cond c23 c23 true)
 let c28:=(IntKind.i64.wrap (s0.1 - (1:Int)))
 let c30:=(Int.toNat c28)
 let c31:=(decide (c30<a1.1.length))
 let c55:=(cond c15 true (cond c22 (decide (c11≤((a1.1[c30]?).getD (0:Int)))) false))
 ((cond c5 ((((decide ((0:Int)≤s0.1)) && c8) && c8) && ((((((((c12.1 && (cond c16 c16 true)) && c24) && c24) && (cond c23 (c23 && (c23 && ((decide ((0:Int)≤c28)) && c31))) true)) && (cond c23 (c23 && c31) true)) && (cond c23 (c23 && c23) true)) && (cond c16 (c20 && (cond c22 c23 true)) true)) && (cond c15 true c16))) true),(c5 && (!c55)),((IntKind.i64.wrap (s0.1+(1:Int))),()),((c5 && c55),(1:Int),(!c5),()))
noncomputable def view_Check_l1 (a1:((List Int) × (List (Int × (Int × (Int × (Int × Bool))))))) (s1:HL [.int .i64]):Bool × Bool × HL [.int .i64] × HL [.bool,.int .i64,.bool]:=
 let c68:=(decide (s1.1<(a1.2.length:Int)))
 let c70:=(Int.toNat s1.1)
 let c71:=(decide (c70<a1.2.length))
 let c74:=((a1.2[c70]?).getD ((0:Int),((0:Int),((0:Int),((0:Int),false)))))
 let c75:=c74.2
 let c76:=c75.1
 let c77:=(edge_Node_r c76)
 let c80:=(!c77.2)
 let c81:=(!c80)
 let c82:=(cond c81 c81 true)
 let c90:=c74.1
 let c92:=(cond c80 true (c76==c90))
 let c93:=(!c92)
 let c94:=(cond c93 c93 true)
 let c99:=c75.2
 let c100:=c99.1
 let c102:=(cond c92 true (decide (c100<(0:Int))))
 let c103:=(!c102)
 let c104:=(cond c103 c103 true)
 let c111:=(cond c102 true (decide (c100>(2147483647:Int))))
 let c112:=(!c111)
 let c113:=(cond c112 c112 true)
 let c119:=c99.2.1
 let c121:=(cond c111 true (decide (c119<(1:Int))))
 let c122:=(!c121)
 let c123:=(cond c122 c122 true)
 let c129:=(cond c121 true (decide (c119>(2147483647:Int))))
 let c130:=(!c129)
 let c131:=(cond c130 c130 true)
 let c135:=(slices_Contains_int_r a1.1 c90)
 let c145:=(cond c129 true (!c135.2))
 let c146:=(!c145)
 let c149:=(c146 && c146)
 let c150:=(decide (s1.1>(0:Int)))
 let c151:=(c149 && c150)
 let c152:=(cond c151 c151 true)
 let c155:=(IntKind.i64.wrap (s1.1 - (1:Int)))
 let c157:=(Int.toNat c155)
 let c158:=(decide (c157<a1.2.length))
 let c169:=(view_order_r ((a1.2[c157]?).getD ((0:Int),((0:Int),((0:Int),((0:Int),false))))) c74)
 let c186:=(cond c145 true (cond c150 (decide (c169.2≥(0:Int))) false))
 ((cond c68 ((((decide ((0:Int)≤s1.1)) && c71) && c71) && ((((((((((((((((((((((((((((((c77.1 && c82) && c82) && (cond c81 (c81 && c81) true)) && (cond c80 true c81)) && c94) && c94) && (cond c92 true c93)) && c104) && c104) && (cond c102 true c103)) && c113) && c113) && (cond c111 true c112)) && c123) && c123) && (cond c121 true c122)) && c131) && c131) && (cond c130 ((c130 && c130) && c135.1) true)) && c131) && (cond c129 true c130)) && (cond c146 c146 true)) && c152) && c152) && (cond c151 (c151 && (c151 && ((decide ((0:Int)≤c155)) && c158))) true)) && (cond c151 (c151 && c158) true)) && (cond c151 ((c151 && c151) && c169.1) true)) && c152) && (cond c146 (c149 && (cond c150 c151 true)) true)) && (cond c145 true c146))) true),(c68 && (!c186)),((IntKind.i64.wrap (s1.1+(1:Int))),()),((c68 && c186),(1:Int),(!c68),()))
noncomputable def view_Check_r (a1:((List Int) × (List (Int × (Int × (Int × (Int × Bool))))))):Bool × (Int):=
 let c61:=(loopD 0 [.int .i64] [.bool,.int .i64,.bool] (view_Check_l0 a1) ((0:Int),()))
 let c63:=c61.2.2.2.1
 let c192:=(loopD 1 [.int .i64] [.bool,.int .i64,.bool] (view_Check_l1 a1) ((0:Int),()))
 ((c61.1 && (cond c63 c192.1 true)),((cond c63 (cond c192.2.2.2.1 (0:Int) c192.2.2.1) c61.2.2.1)))
def view_Check_e:Ent:=⟨188,[],[(.pure (.row (.prod (.fl (.int .i64)) (.fl (.row (.prod (.int .i64) (.prod (.int .i64) (.prod (.int .i64) (.prod (.int .i64) .bool)))))))) (Ty.dflt _))],[],[(.pure (.int .i64) (Ty.dflt _))],[]⟩
noncomputable def view_Check:Fun:=⟨view_Check_e,fun x=>let r:=view_Check_r x.1; (r.1,(r.2,()))⟩
theorem view_Check_ev:evFun Try.prog [edge_Node,slices_Contains_int,view_order] [⟨[10],[],⟨[],[],0⟩,[],[],[(1,[2]),(2,[])],[]⟩,⟨[36],[],⟨[],[],0⟩,[],[],[(1,[2]),(4,[])],[]⟩,⟨[],[],⟨[],[],0⟩,[],[],[],[(1000003,([10,36],[]))]⟩] Try.f188 (codeOf Try.f188) view_Check_e=(view_Check).fn:=by kernel_rfl
theorem view_Check_ok:FunOk Try.prog (view_Check):=fun_ok (opers_ok (oks_cons edge_Node_ok (oks_cons slices_Contains_int_ok (oks_cons view_order_ok oks_nil)))) Try.call188 Try.func188 (by kernel_rfl) fun x _=>(congrFun (view_Check_ev) x).symm
noncomputable def slices_BinarySearchFunc_api_Known_l0 (a1:(List (Int × (Int × (Int × (Int × Bool)))))) (a2:(Int × (Int × (Int × (Int × Bool))))) (a3:Unit) (s0:HL [.int .i64,.int .i64]):Bool × Bool × HL [.int .i64,.int .i64] × HL [.bool,.int .i64]:=
 let c2:=(decide (s0.2.1<s0.1))
 let c8:=(IntKind.i64.wrap ((iShr .u64 .u64 (IntKind.u64.wrap ((IntKind.i64.wrap (s0.2.1+s0.1)))) (1:Int))))
 let c10:=(Int.toNat c8)
 let c13:=(decide (c10<a1.length))
 let c18:=(view_order_r ((a1[c10]?).getD ((0:Int),((0:Int),((0:Int),((0:Int),false))))) a2)
 let c26:=(decide (c18.2<(0:Int)))
 ((cond c2 ((decide ((0:Int)≤(1:Int))) && ((((decide ((0:Int)≤c8)) && c13) && c13) && c18.1)) true),c2,((cond c26 s0.1 c8),(cond c26 (IntKind.i64.wrap (c8+(1:Int))) s0.2.1),()),((!c2),s0.2.1,()))
noncomputable def slices_BinarySearchFunc_api_Known_r (a1:(List (Int × (Int × (Int × (Int × Bool)))))) (a2:(Int × (Int × (Int × (Int × Bool))))) (a3:Unit):Bool × (Int × Bool):=
 let c32:=(loopD 0 [.int .i64,.int .i64] [.bool,.int .i64] (slices_BinarySearchFunc_api_Known_l0 a1 a2 a3) ((a1.length:Int),(0:Int),()))
 let c34:=c32.2.2.1
 let c35:=(decide (c34<(a1.length:Int)))
 let c37:=(Int.toNat c34)
 let c38:=(decide (c37<a1.length))
 let c48:=(view_order_r ((a1[c37]?).getD ((0:Int),((0:Int),((0:Int),((0:Int),false))))) a2)
 let c54:=(cond c35 c35 true)
 ((c32.1 && (((((cond c35 (c35 && (c35 && ((decide ((0:Int)≤c34)) && c38))) true) && (cond c35 (c35 && c38) true)) && (cond c35 (c35 && ((c35 && c35) && c48.1)) true)) && c54) && c54)),(c34,(cond c35 (c48.2==(0:Int)) false)))
def slices_BinarySearchFunc_api_Known_e:Ent:=⟨189,[],[(.pure (.fl (.row (.prod (.int .i64) (.prod (.int .i64) (.prod (.int .i64) (.prod (.int .i64) .bool)))))) (Ty.dflt _)),(.pure (.row (.prod (.int .i64) (.prod (.int .i64) (.prod (.int .i64) (.prod (.int .i64) .bool))))) (Ty.dflt _)),(.fn 190 (.pure .unit (Ty.dflt _)))],[],[(.pure (.int .i64) (Ty.dflt _)),(.pure .bool (Ty.dflt _))],[]⟩
noncomputable def slices_BinarySearchFunc_api_Known:Fun:=⟨slices_BinarySearchFunc_api_Known_e,fun x=>let r:=slices_BinarySearchFunc_api_Known_r x.1 x.2.1 x.2.2.1; (r.1,(r.2.1,r.2.2,()))⟩
theorem slices_BinarySearchFunc_api_Known_ev:evFun Try.prog [view_order] [⟨[10,9],[],⟨[],[],0⟩,[],[],[(1,[]),(2,[9])],[]⟩] Try.f189 (codeOf Try.f189) slices_BinarySearchFunc_api_Known_e=(slices_BinarySearchFunc_api_Known).fn:=by kernel_rfl
theorem slices_BinarySearchFunc_api_Known_ok:FunOk Try.prog (slices_BinarySearchFunc_api_Known):=fun_ok (opers_ok (oks_cons view_order_ok oks_nil)) Try.call189 Try.func189 (by kernel_rfl) fun x _=>(congrFun (slices_BinarySearchFunc_api_Known_ev) x).symm
noncomputable def view_Inner_l0 (a1:((List Int) × (List (Int × (Int × (Int × (Int × Bool))))))) (s0:HL [.int .i64,(.fl (.row (.prod (.int .i64) (.prod (.int .i64) (.prod (.int .i64) (.prod (.int .i64) .bool))))))]):Bool × Bool × HL [.int .i64,(.fl (.row (.prod (.int .i64) (.prod (.int .i64) (.prod (.int .i64) (.prod (.int .i64) .bool))))))] × HL [.bool,(.fl (.row (.prod (.int .i64) (.prod (.int .i64) (.prod (.int .i64) (.prod (.int .i64) .bool))))))]:=
 let c11:=(decide (s0.1<(a1.2.length:Int)))
 let c13:=(Int.toNat s0.1)
 let c14:=(decide (c13<a1.2.length))
 let c17:=((a1.2[c13]?).getD ((0:Int),((0:Int),((0:Int),((0:Int),false)))))
 let c18:=c17.2
 let c19:=c18.1
 let c20:=c17.1
 let c27:=(slices_BinarySearchFunc_api_Known_r a1.2 (c19,(c20,((0:Int),((0:Int),false)))) ())
 let c29:=(decide (c20>c19))
 let c30:=(!c29)
 let c37:=(cond c29 true (!c27.2.2))
 let c38:=(!c37)
 let c39:=(cond c38 c38 true)
 let c41:=c27.2.1
 let c43:=(Int.toNat c41)
 let c44:=(decide (c43<a1.2.length))
 let c45:=((decide ((0:Int)≤c41)) && c44)
 let c62:=((a1.2[c43]?).getD ((0:Int),((0:Int),((0:Int),((0:Int),false))))).2.2
 let c64:=c18.2
 let c65:=c64.1
 let c67:=(cond c37 true (c62.1 !=c65))
 let c68:=(!c67)
 let c69:=(cond c68 c68 true)
 let c85:=c62.2
 let c87:=c64.2
 let c88:=c87.1
 let c91:=(!(cond c67 true (c85.1 !=c88)))
 let c92:=c87.2
 let c93:=(cond c92 c92 true)
 let c112:=((c20,(c19,(c65,(c88,(cond c92 c85.2 false)))))::([]:List (Int × (Int × (Int × (Int × Bool))))))
 ((cond c11 ((((decide ((0:Int)≤s0.1)) && c14) && c14) && (c27.1 && (((((((((((((((((cond c30 c30 true) && (cond c29 true c30)) && c39) && (cond c38 (c38 && (c38 && c45)) true)) && c39) && (cond c38 (c38 && c44) true)) && c39) && (cond c38 (c38 && c38) true)) && (cond c37 true c38)) && c69) && (cond c68 (c68 && (c68 && c45)) true)) && c69) && (cond c68 (c68 && c44) true)) && c69) && (cond c68 (c68 && c68) true)) && (cond c67 true c68)) && (cond c91 (((((c93 && (cond c92 (c92 && (c92 && c45)) true)) && c93) && (cond c92 (c92 && c44) true)) && c93) && (decide ((s0.2.1.length+c112.length)*40≤140737488355328))) true)))) true),c11,((IntKind.i64.wrap (s0.1+(1:Int))),(cond c91 (s0.2.1++c112) s0.2.1),()),((!c11),s0.2.1,()))
noncomputable def view_Inner_r (a1:((List Int) × (List (Int × (Int × (Int × (Int × Bool))))))):Bool × (Int × (List (Int × (Int × (Int × (Int × Bool)))))):=
 let c1:=(view_Check_r a1)
 let c3:=c1.2
 let c6:=(!(c3 !=(0:Int)))
 let c127:=(loopD 0 [.int .i64,(.fl (.row (.prod (.int .i64) (.prod (.int .i64) (.prod (.int .i64) (.prod (.int .i64) .bool))))))] [.bool,(.fl (.row (.prod (.int .i64) (.prod (.int .i64) (.prod (.int .i64) (.prod (.int .i64) .bool))))))] (view_Inner_l0 a1) ((0:Int),([]:List (Int × (Int × (Int × (Int × Bool))))),()))
 ((c1.1 && (cond c6 c127.1 true)),((cond c6 (0:Int) c3),(cond c6 c127.2.2.1 ([]:List (Int × (Int × (Int × (Int × Bool))))))))
def view_Inner_e:Ent:=⟨168,[],[(.pure (.row (.prod (.fl (.int .i64)) (.fl (.row (.prod (.int .i64) (.prod (.int .i64) (.prod (.int .i64) (.prod (.int .i64) .bool)))))))) (Ty.dflt _))],[(0,(.arr (.row (.prod (.int .i64) (.prod (.int .i64) (.prod (.int .i64) (.prod (.int .i64) .bool))))) [] false))],[(.own 0 5),(.pure (.int .i64) (Ty.dflt _))],[]⟩
noncomputable def view_Inner:Fun:=⟨view_Inner_e,fun x=>let r:=view_Inner_r x.1; (r.1,(r.2.1,r.2.2,()))⟩
theorem view_Inner_ev:evFun Try.prog [view_Check,slices_BinarySearchFunc_api_Known] [⟨[18,5],[],⟨[(5,(.own 5058 5))],[(5058,⟨.tt,(.arr (.row (.prod (.int .i64) (.prod (.int .i64) (.prod (.int .i64) (.prod (.int .i64) .bool))))) [] false)⟩)],0⟩,[5],[],[(1,[]),(2,[5])],[]⟩,⟨[],[],⟨[],[],0⟩,[],[],[],[(1000003,([5,18],[]))]⟩] Try.f168 (codeOf Try.f168) view_Inner_e=(view_Inner).fn:=by kernel_rfl
theorem view_Inner_ok:FunOk Try.prog (view_Inner):=fun_ok (opers_ok (oks_cons view_Check_ok (oks_cons slices_BinarySearchFunc_api_Known_ok oks_nil))) Try.call168 Try.func168 (by kernel_rfl) fun x _=>(congrFun (view_Inner_ev) x).symm
noncomputable def view_Edge_r (a1:(Int × (Int × (Int × (Int × Bool))))):Bool × ((Int × (Int × Int))):=
 (true,(((if a1.2.1<a1.1 then a1.2.1 else a1.1),((if a1.1<a1.2.1 then a1.2.1 else a1.1),a1.2.2.1))))
def view_Edge_e:Ent:=⟨169,[],[(.pure (.row (.prod (.int .i64) (.prod (.int .i64) (.prod (.int .i64) (.prod (.int .i64) .bool))))) (Ty.dflt _))],[],[(.pure (.row (.prod (.int .i64) (.prod (.int .i64) (.int .i64)))) (Ty.dflt _))],[]⟩
noncomputable def view_Edge:Fun:=⟨view_Edge_e,fun x=>let r:=view_Edge_r x.1; (r.1,(r.2,()))⟩
theorem view_Edge_ev:evFun Try.prog [] [] Try.f169 (codeOf Try.f169) view_Edge_e=(view_Edge).fn:=by kernel_rfl
theorem view_Edge_ok:FunOk Try.prog (view_Edge):=fun_ok (opers_ok oks_nil) Try.call169 Try.func169 (by kernel_rfl) fun x _=>(congrFun (view_Edge_ev) x).symm
noncomputable def view_Bound_l0 (a1:((List Int) × (List (Int × (Int × (Int × (Int × Bool))))))) (s0:HL [.int .i64,(.fl (.row (.prod (.int .i64) (.prod (.int .i64) (.int .i64)))))]):Bool × Bool × HL [.int .i64,(.fl (.row (.prod (.int .i64) (.prod (.int .i64) (.int .i64)))))] × HL [.bool,(.fl (.row (.prod (.int .i64) (.prod (.int .i64) (.int .i64)))))]:=
 let c1:=(view_Inner_r a1)
 let c4:=c1.2.2
 let c5:=c4.length
 let c7:=(decide (s0.1<(c5:Int)))
 let c9:=(Int.toNat s0.1)
 let c10:=(decide (c9<c5))
 let c13:=((c4[c9]?).getD ((0:Int),((0:Int),((0:Int),((0:Int),false)))))
 let c17:=c13.2.2.2.2
 let c18:=(view_Edge_r c13)
 let c24:=(c18.2::([]:List (Int × (Int × Int))))
 ((cond c7 ((((decide ((0:Int)≤s0.1)) && c10) && c10) && (cond c17 (c18.1 && (decide ((s0.2.1.length+c24.length)*24≤140737488355328))) true)) true),c7,((IntKind.i64.wrap (s0.1+(1:Int))),(cond c17 (s0.2.1++c24) s0.2.1),()),((!c7),s0.2.1,()))
noncomputable def view_Bound_r (a1:((List Int) × (List (Int × (Int × (Int × (Int × Bool))))))):Bool × (Int × (List (Int × (Int × Int)))):=
 let c1:=(view_Inner_r a1)
 let c39:=(loopD 0 [.int .i64,(.fl (.row (.prod (.int .i64) (.prod (.int .i64) (.int .i64)))))] [.bool,(.fl (.row (.prod (.int .i64) (.prod (.int .i64) (.int .i64)))))] (view_Bound_l0 a1) ((0:Int),([]:List (Int × (Int × Int))),()))
 ((c1.1 && c39.1),(c1.2.1,c39.2.2.1))
def view_Bound_e:Ent:=⟨131,[],[(.pure (.row (.prod (.fl (.int .i64)) (.fl (.row (.prod (.int .i64) (.prod (.int .i64) (.prod (.int .i64) (.prod (.int .i64) .bool)))))))) (Ty.dflt _))],[(0,(.arr (.row (.prod (.int .i64) (.prod (.int .i64) (.int .i64)))) [] false))],[(.own 0 3),(.pure (.int .i64) (Ty.dflt _))],[]⟩
noncomputable def view_Bound:Fun:=⟨view_Bound_e,fun x=>let r:=view_Bound_r x.1; (r.1,(r.2.1,r.2.2,()))⟩
theorem view_Bound_ev:evFun Try.prog [view_Inner,view_Edge] [⟨[16,6],[],⟨[(6,(.own 1730 3))],[(1730,⟨.tt,(.arr (.row (.prod (.int .i64) (.prod (.int .i64) (.int .i64)))) [] false)⟩)],0⟩,[6],[],[(1,[]),(2,[6])],[]⟩] Try.f131 (codeOf Try.f131) view_Bound_e=(view_Bound).fn:=by kernel_rfl
theorem view_Bound_ok:FunOk Try.prog (view_Bound):=fun_ok (opers_ok (oks_cons view_Inner_ok (oks_cons view_Edge_ok oks_nil))) Try.call131 Try.func131 (by kernel_rfl) fun x _=>(congrFun (view_Bound_ev) x).symm
noncomputable def join_New_l0 (a1:Int) (s0:HL [.int .i64,.int .i64,(.fl (.int .i64)),(.fl (.int .i64)),(.fl (.int .i64))]):Bool × Bool × HL [.int .i64,.int .i64,(.fl (.int .i64)),(.fl (.int .i64)),(.fl (.int .i64))] × HL [.bool,.int .i64,(.fl (.int .i64)),(.fl (.int .i64)),(.fl (.int .i64))]:=
 let c15:=(decide (s0.1<(IntKind.i64.wrap (a1+(1:Int)))))
 let c19:=(s0.1::([]:List Int))
 let c20:=c19.length
 let c25:=((1:Int)::([]:List Int))
 ((cond c15 (((decide ((s0.2.2.1.length+c20)*8≤140737488355328)) && (decide ((s0.2.2.2.1.length+c25.length)*8≤140737488355328))) && (decide ((s0.2.2.2.2.1.length+c20)*8≤140737488355328))) true),c15,((IntKind.i64.wrap (s0.1+(1:Int))),s0.2.1,(s0.2.2.1++c19),(s0.2.2.2.1++c25),(s0.2.2.2.2.1++c19),()),((!c15),s0.2.1,s0.2.2.1,s0.2.2.2.1,s0.2.2.2.2.1,()))
noncomputable def join_New_r (a1:Int):Bool × (Int × Int × (List Int) × (List Int) × (List Int)):=
 let c2:=(decide (a1<(0:Int)))
 let c3:=(!c2)
 let c11:=(!(cond c2 true (decide (a1>(4096:Int)))))
 let c42:=(loopD 0 [.int .i64,.int .i64,(.fl (.int .i64)),(.fl (.int .i64)),(.fl (.int .i64))] [.bool,.int .i64,(.fl (.int .i64)),(.fl (.int .i64)),(.fl (.int .i64))] (join_New_l0 a1) ((0:Int),a1,([]:List Int),([]:List Int),([]:List Int),()))
 (((((cond c3 c3 true) && (cond c2 true c3)) && (cond c11 c42.1 true)) && (c11 && (c11 && (c11 && c11)))),((cond c11 (0:Int) (1:Int)),c42.2.2.1,c42.2.2.2.1,c42.2.2.2.2.1,c42.2.2.2.2.2.1))
def join_New_e:Ent:=⟨123,[],[(.pure (.int .i64) (Ty.dflt _))],[(0,(.var 161 (.row (.pair (.own 1 1) (.pair (.own 2 1) (.pair (.own 3 1) (.pure (.int .i64) (Ty.dflt _)))))))),(1,(.arr (.int .i64) [] false)),(2,(.arr (.int .i64) [] false)),(3,(.arr (.int .i64) [] false))],[(.ptr 0 []),(.pure (.int .i64) (Ty.dflt _))],[]⟩
noncomputable def join_New:Fun:=⟨join_New_e,fun x=>let r:=join_New_r x.1; (r.1,(r.2.1,r.2.2.1,r.2.2.2.1,r.2.2.2.2.1,r.2.2.2.2.2,()))⟩
theorem join_New_ev:evFun Try.prog [] [⟨[17],[640],⟨[],[(640,⟨.tt,(.var 161 (.row (.pair (.own 1729 1) (.pair (.own 2113 1) (.pair (.own 2561 1) (.pure (.int .i64) (Ty.dflt _)))))))⟩),(1729,⟨.tt,(.arr (.int .i64) [] false)⟩),(2113,⟨.tt,(.arr (.int .i64) [] false)⟩),(2561,⟨.tt,(.arr (.int .i64) [] false)⟩)],0⟩,[],[640],[(1,[]),(2,[])],[]⟩,⟨[],[],⟨[],[],0⟩,[],[],[],[(1000003,([17],[]))]⟩] Try.f123 (codeOf Try.f123) join_New_e=(join_New).fn:=by kernel_rfl
theorem join_New_ok:FunOk Try.prog (join_New):=fun_ok (opers_ok oks_nil) Try.call123 Try.func123 (by kernel_rfl) fun x _=>(congrFun (join_New_ev) x).symm
noncomputable def span_sets_r:Bool × (Int × (List Int) × (List Int) × (List Int)):=
 let c1:=(join_New_r (64:Int))
 (c1.1,(c1.2.2.1,c1.2.2.2.1,c1.2.2.2.2.1,c1.2.2.2.2.2))
def span_sets_e:Ent:=⟨89,[],[],[(0,(.var 161 (.row (.pair (.own 1 1) (.pair (.own 2 1) (.pair (.own 3 1) (.pure (.int .i64) (Ty.dflt _)))))))),(1,(.arr (.int .i64) [] false)),(2,(.arr (.int .i64) [] false)),(3,(.arr (.int .i64) [] false))],[(.ptr 0 [])],[]⟩
noncomputable def span_sets:Fun:=⟨span_sets_e,fun x=>let r:=span_sets_r; (r.1,(r.2.1,r.2.2.1,r.2.2.2.1,r.2.2.2.2,()))⟩
theorem span_sets_ev:evFun Try.prog [join_New] [] Try.f89 (codeOf Try.f89) span_sets_e=(span_sets).fn:=by kernel_rfl
theorem span_sets_ok:FunOk Try.prog (span_sets):=fun_ok (opers_ok (oks_cons join_New_ok oks_nil)) Try.call89 Try.func89 (by kernel_rfl) fun x _=>(congrFun (span_sets_ev) x).symm
noncomputable def edge_Check_r (a1:(Int × (Int × Int))):Bool × (Int):=
 let c2:=(edge_Node_r a1.1)
 let c5:=(!c2.2)
 let c6:=(!c5)
 let c8:=(cond c6 c6 true)
 let c12:=(edge_Node_r a1.2.1)
 let c22:=(cond c5 true (!c12.2))
 let c23:=(!c22)
 let c24:=(cond c23 c23 true)
 let c33:=(cond c22 true (decide (a1.1≥a1.2.1)))
 let c34:=(!c33)
 let c35:=(cond c34 c34 true)
 let c43:=(cond c33 true (decide (a1.2.2<(0:Int))))
 let c44:=(!c43)
 let c45:=(cond c44 c44 true)
 (((((((((((((((c2.1 && c8) && (cond c6 (c6 && c12.1) true)) && c8) && (cond c5 true c6)) && c24) && c24) && (cond c23 (c23 && c23) true)) && (cond c22 true c23)) && c35) && c35) && (cond c33 true c34)) && c45) && c45) && (cond c43 true c44)),((cond (!(cond c43 true (decide (a1.2.2>(2147483647:Int))))) (0:Int) (1:Int))))
def edge_Check_e:Ent:=⟨97,[],[(.pure (.row (.prod (.int .i64) (.prod (.int .i64) (.int .i64)))) (Ty.dflt _))],[],[(.pure (.int .i64) (Ty.dflt _))],[]⟩
noncomputable def edge_Check:Fun:=⟨edge_Check_e,fun x=>let r:=edge_Check_r x.1; (r.1,(r.2,()))⟩
theorem edge_Check_ev:evFun Try.prog [edge_Node] [] Try.f97 (codeOf Try.f97) edge_Check_e=(edge_Check).fn:=by kernel_rfl
theorem edge_Check_ok:FunOk Try.prog (edge_Check):=fun_ok (opers_ok (oks_cons edge_Node_ok oks_nil)) Try.call97 Try.func97 (by kernel_rfl) fun x _=>(congrFun (edge_Check_ev) x).symm
noncomputable def edge_CheckAll_l0 (a1:(List (Int × (Int × Int)))) (s0:HL [.int .i64,(.fl (.prod (.row (.prod (.int .i64) (.prod (.int .i64) (.int .i64)))) .bool))]):Bool × Bool × HL [.int .i64,(.fl (.prod (.row (.prod (.int .i64) (.prod (.int .i64) (.int .i64)))) .bool))] × HL [.bool,.int .i64,(.fl (.prod (.row (.prod (.int .i64) (.prod (.int .i64) (.int .i64)))) .bool)),.bool,(.fl (.prod (.row (.prod (.int .i64) (.prod (.int .i64) (.int .i64)))) .bool))]:=
 let c4:=(decide (s0.1<(a1.length:Int)))
 let c6:=(Int.toNat s0.1)
 let c7:=(decide (c6<a1.length))
 let c10:=((a1[c6]?).getD ((0:Int),((0:Int),(0:Int))))
 let c11:=(edge_Check_r c10)
 let c15:=(c11.2 !=(0:Int))
 let c16:=(!c15)
 let c30:=(c10.1,(c10.2.1,(0:Int)))
 let c33:=(cond c15 true (mapGet (k:=(.row (.prod (.int .i64) (.prod (.int .i64) (.int .i64))))) (v:=.bool) s0.2.1 c30 false))
 ((cond c4 ((((decide ((0:Int)≤s0.1)) && c7) && c7) && ((c11.1 && (cond c16 (c16 && c16) true)) && (cond c15 true c16))) true),(c4 && (!c33)),((IntKind.i64.wrap (s0.1+(1:Int))),(mapPut (k:=(.row (.prod (.int .i64) (.prod (.int .i64) (.int .i64))))) (v:=.bool) s0.2.1 c30 true),()),((c4 && c33),(1:Int),s0.2.1,(!c4),s0.2.1,()))
noncomputable def edge_CheckAll_r (a1:(List (Int × (Int × Int)))):Bool × (Int):=
 let c42:=(loopD 0 [.int .i64,(.fl (.prod (.row (.prod (.int .i64) (.prod (.int .i64) (.int .i64)))) .bool))] [.bool,.int .i64,(.fl (.prod (.row (.prod (.int .i64) (.prod (.int .i64) (.int .i64)))) .bool)),.bool,(.fl (.prod (.row (.prod (.int .i64) (.prod (.int .i64) (.int .i64)))) .bool))] (edge_CheckAll_l0 a1) ((0:Int),([]:List ((Int × (Int × Int)) × Bool)),()))
 (c42.1,((cond c42.2.2.2.2.1 (cond (!(decide ((a1.length:Int)>(512:Int)))) (0:Int) (3:Int)) c42.2.2.1)))
def edge_CheckAll_e:Ent:=⟨55,[],[(.pure (.fl (.row (.prod (.int .i64) (.prod (.int .i64) (.int .i64))))) (Ty.dflt _))],[],[(.pure (.int .i64) (Ty.dflt _))],[]⟩
noncomputable def edge_CheckAll:Fun:=⟨edge_CheckAll_e,fun x=>let r:=edge_CheckAll_r x.1; (r.1,(r.2,()))⟩
theorem edge_CheckAll_ev:evFun Try.prog [edge_Check] [⟨[10],[64],⟨[],[],0⟩,[],[],[(1,[2]),(2,[])],[]⟩,⟨[],[],⟨[],[],0⟩,[],[],[],[(1000003,([10],[]))]⟩] Try.f55 (codeOf Try.f55) edge_CheckAll_e=(edge_CheckAll).fn:=by kernel_rfl
theorem edge_CheckAll_ok:FunOk Try.prog (edge_CheckAll):=fun_ok (opers_ok (oks_cons edge_Check_ok oks_nil)) Try.call55 Try.func55 (by kernel_rfl) fun x _=>(congrFun (edge_CheckAll_ev) x).symm
noncomputable def join_Join__has_r (a1:Int) (a2:Int) (a3:(List Int)) (a4:(List Int)) (a5:(List Int)):Bool × (Bool):=
 let c1:=(!false)
 let c3:=(cond c1 c1 true)
 let c8:=(cond c1 (decide (a1≥(1:Int))) false)
 let c9:=(cond c8 c8 true)
 ((((((((c3 && c3) && c9) && c9) && c9) && c9) && (cond c8 (c8 && c8) true)) && c9),((cond c8 (decide (a1<(a3.length:Int))) false)))
def join_Join__has_e:Ent:=⟨125,[(0,(.var 161 (.row (.pair (.own 1 1) (.pair (.own 2 1) (.pair (.own 3 1) (.pure (.int .i64) (Ty.dflt _)))))))),(1,(.arr (.int .i64) [] false)),(2,(.arr (.int .i64) [] false)),(3,(.arr (.int .i64) [] false))],[(.ptr 0 []),(.pure (.int .i64) (Ty.dflt _))],[],[(.pure .bool (Ty.dflt _))],[0,1,2,3]⟩
noncomputable def join_Join__has:Fun:=⟨join_Join__has_e,fun x=>let r:=join_Join__has_r x.1 x.2.1 x.2.2.1 x.2.2.2.1 x.2.2.2.2.1; (r.1,(r.2,()))⟩
theorem join_Join__has_ev:evFun Try.prog [] [] Try.f125 (codeOf Try.f125) join_Join__has_e=(join_Join__has).fn:=by kernel_rfl
theorem join_Join__has_ok:FunOk Try.prog (join_Join__has):=fun_ok (opers_ok oks_nil) Try.call125 Try.func125 (by kernel_rfl) fun x _=>(congrFun (join_Join__has_ev) x).symm
noncomputable def join_Join__top_l0 (a1:Int) (a2:Int) (a3:(List Int)) (a4:(List Int)) (a5:(List Int)) (s0:HL [.int .i64,(.fl (.int .i64))]):Bool × Bool × HL [.int .i64,(.fl (.int .i64))] × HL [.bool,.int .i64,(.fl (.int .i64))]:=
 let c1:=(decide ((0:Int)≤s0.1))
 let c2:=(Int.toNat s0.1)
 let c5:=(decide (c2<s0.2.1.length))
 let c6:=(c1 && c5)
 let c7:=(c6 && c5)
 let c8:=((s0.2.1[c2]?).getD (0:Int))
 let c9:=(c8 !=s0.1)
 let c11:=(Int.toNat c8)
 let c12:=(decide (c11<s0.2.1.length))
 let c19:=(s0.2.1.set c2 ((s0.2.1[c11]?).getD (0:Int)))
 let c21:=(decide (c2<c19.length))
 ((c7 && (cond c9 (((((c7 && ((decide ((0:Int)≤c8)) && c12)) && c12) && c6) && c5) && ((c1 && c21) && c21)) true)),c9,(((c19[c2]?).getD (0:Int)),c19,()),((!c9),s0.1,s0.2.1,()))
noncomputable def join_Join__top_r (a1:Int) (a2:Int) (a3:(List Int)) (a4:(List Int)) (a5:(List Int)):Bool × (Int × (List Int)):=
 let c32:=(loopD 0 [.int .i64,(.fl (.int .i64))] [.bool,.int .i64,(.fl (.int .i64))] (join_Join__top_l0 a1 a2 a3 a4 a5) (a1,a3,()))
 (c32.1,(c32.2.2.1,c32.2.2.2.1))
def join_Join__top_e:Ent:=⟨126,[(0,(.var 161 (.row (.pair (.own 1 1) (.pair (.own 2 1) (.pair (.own 3 1) (.pure (.int .i64) (Ty.dflt _)))))))),(1,(.arr (.int .i64) [] false)),(2,(.arr (.int .i64) [] false)),(3,(.arr (.int .i64) [] false))],[(.ptr 0 []),(.pure (.int .i64) (Ty.dflt _))],[(1,(.arr (.int .i64) [] false))],[(.pure (.int .i64) (Ty.dflt _))],[0,2,3]⟩
noncomputable def join_Join__top:Fun:=⟨join_Join__top_e,fun x=>let r:=join_Join__top_r x.1 x.2.1 x.2.2.1 x.2.2.2.1 x.2.2.2.2.1; (r.1,(r.2.1,r.2.2,()))⟩
theorem join_Join__top_ev:evFun Try.prog [] [⟨[1],[1],⟨[],[],0⟩,[],[],[(1,[]),(2,[1])],[]⟩] Try.f126 (codeOf Try.f126) join_Join__top_e=(join_Join__top).fn:=by kernel_rfl
theorem join_Join__top_ok:FunOk Try.prog (join_Join__top):=fun_ok (opers_ok oks_nil) Try.call126 Try.func126 (by kernel_rfl) fun x _=>(congrFun (join_Join__top_ev) x).symm
noncomputable def join_Join__Unite_r (a1:Int) (a2:Int) (a3:Int) (a4:(List Int)) (a5:(List Int)) (a6:(List Int)):Bool × (Bool × Int × (List Int) × (List Int) × (List Int)):=
 let c5:=(join_Join__has_r a1 a3 a4 a5 a6)
 let c8:=(!c5.2)
 let c9:=(!c8)
 let c12:=(join_Join__has_r a2 a3 a4 a5 a6)
 let c25:=(!(cond c8 true (!c12.2)))
 let c26:=(join_Join__top_r a1 a3 a4 a5 a6)
 let c29:=(join_Join__top_r a2 a3 c26.2.2 a5 a6)
 let c32:=c26.2.1
 let c33:=c29.2.1
 let c35:=(!(c32==c33))
 let c37:=(Int.toNat c32)
 let c39:=(decide (c37<a5.length))
 let c43:=(Int.toNat c33)
 let c44:=(decide (c43<a5.length))
 let c50:=(decide (((a5[c37]?).getD (0:Int))<((a5[c43]?).getD (0:Int))))
 let c51:=(cond c50 c33 c32)
 let c52:=(decide ((0:Int)≤c51))
 let c53:=(Int.toNat c51)
 let c54:=(decide (c53<a5.length))
 let c55:=(c52 && c54)
 let c57:=(cond c50 c32 c33)
 let c58:=(decide ((0:Int)≤c57))
 let c59:=(Int.toNat c57)
 let c60:=(decide (c59<a5.length))
 let c65:=(decide (c53<a6.length))
 let c66:=(c52 && c65)
 let c69:=(decide (c59<a6.length))
 let c73:=c29.2.2
 let c75:=(decide (c59<c73.length))
 (((((c5.1 && (cond c9 ((c9 && c9) && c12.1) true)) && (cond c9 c9 true)) && (cond c8 true c9)) && (cond c25 ((c26.1 && c29.1) && (cond c35 ((((((decide ((0:Int)≤c32)) && c39) && c39) && ((decide ((0:Int)≤c33)) && c44)) && c44) && (((((((((((((c55 && c54) && (c58 && c60)) && c60) && c66) && c65) && (c58 && c69)) && c69) && (c58 && c75)) && c75) && c55) && c54) && c66) && c65)) true)) true)),((cond c25 (cond c35 true false) false),(cond c25 (cond c35 (IntKind.i64.wrap (a3 - (1:Int))) a3) a3),(cond c25 (cond c35 (c73.set c59 c51) c73) a4),(cond c25 (cond c35 (a5.set c53 (IntKind.i64.wrap (((a5[c53]?).getD (0:Int))+((a5[c59]?).getD (0:Int))))) a5) a5),(cond c25 (cond c35 (a6.set c53 (if ((a6[c59]?).getD (0:Int))<((a6[c53]?).getD (0:Int)) then ((a6[c59]?).getD (0:Int)) else ((a6[c53]?).getD (0:Int)))) a6) a6)))
def join_Join__Unite_e:Ent:=⟨92,[(0,(.var 161 (.row (.pair (.own 1 1) (.pair (.own 2 1) (.pair (.own 3 1) (.pure (.int .i64) (Ty.dflt _)))))))),(1,(.arr (.int .i64) [] false)),(2,(.arr (.int .i64) [] false)),(3,(.arr (.int .i64) [] false))],[(.ptr 0 []),(.pure (.int .i64) (Ty.dflt _)),(.pure (.int .i64) (Ty.dflt _))],[(0,(.var 161 (.row (.pair (.own 1 1) (.pair (.own 2 1) (.pair (.own 3 1) (.pure (.int .i64) (Ty.dflt _)))))))),(1,(.arr (.int .i64) [] false)),(2,(.arr (.int .i64) [] false)),(3,(.arr (.int .i64) [] false))],[(.pure .bool (Ty.dflt _))],[]⟩
noncomputable def join_Join__Unite:Fun:=⟨join_Join__Unite_e,fun x=>let r:=join_Join__Unite_r x.1 x.2.1 x.2.2.1 x.2.2.2.1 x.2.2.2.2.1 x.2.2.2.2.2.1; (r.1,(r.2.1,r.2.2.1,r.2.2.2.1,r.2.2.2.2.1,r.2.2.2.2.2,()))⟩
theorem join_Join__Unite_ev:evFun Try.prog [join_Join__has,join_Join__top] [⟨[],[],⟨[],[],0⟩,[],[],[],[(1000003,([1,2],[]))]⟩] Try.f92 (codeOf Try.f92) join_Join__Unite_e=(join_Join__Unite).fn:=by kernel_rfl
theorem join_Join__Unite_ok:FunOk Try.prog (join_Join__Unite):=fun_ok (opers_ok (oks_cons join_Join__has_ok (oks_cons join_Join__top_ok oks_nil))) Try.call92 Try.func92 (by kernel_rfl) fun x _=>(congrFun (join_Join__Unite_ev) x).symm
noncomputable def span_Forest_1_r (a1:(Int × (Int × Int))) (a2:Int) (a3:(List Int)) (a4:(List Int)) (a5:(List Int)):Bool × (Bool × Int × (List Int) × (List Int) × (List Int)):=
 let c8:=(join_Join__Unite_r a1.1 a1.2.1 a2 a3 a4 a5)
 (c8.1,((!c8.2.1),c8.2.2.1,c8.2.2.2.1,c8.2.2.2.2.1,c8.2.2.2.2.2))
def span_Forest_1_e:Ent:=⟨96,[(0,(.var 125 (.ptr 1 []))),(1,(.var 161 (.row (.pair (.own 2 1) (.pair (.own 3 1) (.pair (.own 4 1) (.pure (.int .i64) (Ty.dflt _)))))))),(2,(.arr (.int .i64) [] false)),(3,(.arr (.int .i64) [] false)),(4,(.arr (.int .i64) [] false))],[(.pure (.row (.prod (.int .i64) (.prod (.int .i64) (.int .i64)))) (Ty.dflt _)),(.ptr 0 [])],[(1,(.var 161 (.row (.pair (.own 2 1) (.pair (.own 3 1) (.pair (.own 4 1) (.pure (.int .i64) (Ty.dflt _)))))))),(2,(.arr (.int .i64) [] false)),(3,(.arr (.int .i64) [] false)),(4,(.arr (.int .i64) [] false))],[(.pure .bool (Ty.dflt _))],[0]⟩
noncomputable def span_Forest_1:Fun:=⟨span_Forest_1_e,fun x=>let r:=span_Forest_1_r x.1 x.2.1 x.2.2.1 x.2.2.2.1 x.2.2.2.2.1; (r.1,(r.2.1,r.2.2.1,r.2.2.2.1,r.2.2.2.2.1,r.2.2.2.2.2,()))⟩
theorem span_Forest_1_ev:evFun Try.prog [join_Join__Unite] [] Try.f96 (codeOf Try.f96) span_Forest_1_e=(span_Forest_1).fn:=by kernel_rfl
theorem span_Forest_1_ok:FunOk Try.prog (span_Forest_1):=fun_ok (opers_ok (oks_cons join_Join__Unite_ok oks_nil)) Try.call96 Try.func96 (by kernel_rfl) fun x _=>(congrFun (span_Forest_1_ev) x).symm
noncomputable def slices_IndexFunc_api_Edge_l0 (a1:(List (Int × (Int × Int)))) (a2:Unit) (a3:Int) (a4:(List Int)) (a5:(List Int)) (a6:(List Int)) (s0:HL [.int .i64,.int .i64,(.fl (.int .i64)),(.fl (.int .i64)),(.fl (.int .i64))]):Bool × Bool × HL [.int .i64,.int .i64,(.fl (.int .i64)),(.fl (.int .i64)),(.fl (.int .i64))] × HL [.bool,.int .i64,.int .i64,(.fl (.int .i64)),(.fl (.int .i64)),(.fl (.int .i64)),.bool,.int .i64,(.fl (.int .i64)),(.fl (.int .i64)),(.fl (.int .i64))]:=
 let c4:=(decide (s0.1<(a1.length:Int)))
 let c6:=(Int.toNat s0.1)
 let c7:=(decide (c6<a1.length))
 let c15:=(span_Forest_1_r ((a1[c6]?).getD ((0:Int),((0:Int),(0:Int)))) s0.2.1 s0.2.2.1 s0.2.2.2.1 s0.2.2.2.2.1)
 let c20:=c15.2.1
 let c25:=c15.2.2.1
 let c26:=c15.2.2.2.1
 let c27:=c15.2.2.2.2.1
 let c28:=c15.2.2.2.2.2
 ((cond c4 ((((decide ((0:Int)≤s0.1)) && c7) && c7) && c15.1) true),(c4 && (!c20)),((IntKind.i64.wrap (s0.1+(1:Int))),c25,c26,c27,c28,()),((c4 && c20),s0.1,c25,c26,c27,c28,(!c4),s0.2.1,s0.2.2.1,s0.2.2.2.1,s0.2.2.2.2.1,()))
noncomputable def slices_IndexFunc_api_Edge_r (a1:(List (Int × (Int × Int)))) (a2:Unit) (a3:Int) (a4:(List Int)) (a5:(List Int)) (a6:(List Int)):Bool × (Int × Int × (List Int) × (List Int) × (List Int)):=
 let c36:=(loopD 0 [.int .i64,.int .i64,(.fl (.int .i64)),(.fl (.int .i64)),(.fl (.int .i64))] [.bool,.int .i64,.int .i64,(.fl (.int .i64)),(.fl (.int .i64)),(.fl (.int .i64)),.bool,.int .i64,(.fl (.int .i64)),(.fl (.int .i64)),(.fl (.int .i64))] (slices_IndexFunc_api_Edge_l0 a1 a2 a3 a4 a5 a6) ((0:Int),a3,a4,a5,a6,()))
 let c38:=c36.2.2.2.2.2.2.2.1
 (c36.1,((cond c38 (-1:Int) c36.2.2.1),(cond c38 c36.2.2.2.2.2.2.2.2.1 c36.2.2.2.1),(cond c38 c36.2.2.2.2.2.2.2.2.2.1 c36.2.2.2.2.1),(cond c38 c36.2.2.2.2.2.2.2.2.2.2.1 c36.2.2.2.2.2.1),(cond c38 c36.2.2.2.2.2.2.2.2.2.2.2.1 c36.2.2.2.2.2.2.1)))
def slices_IndexFunc_api_Edge_e:Ent:=⟨124,[(0,(.var 125 (.ptr 1 []))),(1,(.var 161 (.row (.pair (.own 2 1) (.pair (.own 3 1) (.pair (.own 4 1) (.pure (.int .i64) (Ty.dflt _)))))))),(2,(.arr (.int .i64) [] false)),(3,(.arr (.int .i64) [] false)),(4,(.arr (.int .i64) [] false))],[(.pure (.fl (.row (.prod (.int .i64) (.prod (.int .i64) (.int .i64))))) (Ty.dflt _)),(.fn 96 (.pair (.ptr 0 []) (.pure .unit (Ty.dflt _))))],[(1,(.var 161 (.row (.pair (.own 2 1) (.pair (.own 3 1) (.pair (.own 4 1) (.pure (.int .i64) (Ty.dflt _)))))))),(2,(.arr (.int .i64) [] false)),(3,(.arr (.int .i64) [] false)),(4,(.arr (.int .i64) [] false))],[(.pure (.int .i64) (Ty.dflt _))],[0]⟩
noncomputable def slices_IndexFunc_api_Edge:Fun:=⟨slices_IndexFunc_api_Edge_e,fun x=>let r:=slices_IndexFunc_api_Edge_r x.1 x.2.1 x.2.2.1 x.2.2.2.1 x.2.2.2.2.1 x.2.2.2.2.2.1; (r.1,(r.2.1,r.2.2.1,r.2.2.2.1,r.2.2.2.2.1,r.2.2.2.2.2,()))⟩
theorem slices_IndexFunc_api_Edge_ev:evFun Try.prog [span_Forest_1] [⟨[8],[1,2,3,4],⟨[],[],0⟩,[],[],[(1,[4]),(2,[])],[]⟩,⟨[],[],⟨[],[],0⟩,[],[],[],[(1000003,([8],[]))]⟩] Try.f124 (codeOf Try.f124) slices_IndexFunc_api_Edge_e=(slices_IndexFunc_api_Edge).fn:=by kernel_rfl
theorem slices_IndexFunc_api_Edge_ok:FunOk Try.prog (slices_IndexFunc_api_Edge):=fun_ok (opers_ok (oks_cons span_Forest_1_ok oks_nil)) Try.call124 Try.func124 (by kernel_rfl) fun x _=>(congrFun (slices_IndexFunc_api_Edge_ev) x).symm
noncomputable def slices_ContainsFunc_api_Edge_r (a1:(List (Int × (Int × Int)))) (a2:Unit) (a3:Int) (a4:(List Int)) (a5:(List Int)) (a6:(List Int)):Bool × (Bool × Int × (List Int) × (List Int) × (List Int)):=
 let c6:=(slices_IndexFunc_api_Edge_r a1 a2 a3 a4 a5 a6)
 (c6.1,((decide (c6.2.1≥(0:Int))),c6.2.2.1,c6.2.2.2.1,c6.2.2.2.2.1,c6.2.2.2.2.2))
def slices_ContainsFunc_api_Edge_e:Ent:=⟨95,[(0,(.var 125 (.ptr 1 []))),(1,(.var 161 (.row (.pair (.own 2 1) (.pair (.own 3 1) (.pair (.own 4 1) (.pure (.int .i64) (Ty.dflt _)))))))),(2,(.arr (.int .i64) [] false)),(3,(.arr (.int .i64) [] false)),(4,(.arr (.int .i64) [] false))],[(.pure (.fl (.row (.prod (.int .i64) (.prod (.int .i64) (.int .i64))))) (Ty.dflt _)),(.fn 96 (.pair (.ptr 0 []) (.pure .unit (Ty.dflt _))))],[(1,(.var 161 (.row (.pair (.own 2 1) (.pair (.own 3 1) (.pair (.own 4 1) (.pure (.int .i64) (Ty.dflt _)))))))),(2,(.arr (.int .i64) [] false)),(3,(.arr (.int .i64) [] false)),(4,(.arr (.int .i64) [] false))],[(.pure .bool (Ty.dflt _))],[0]⟩
noncomputable def slices_ContainsFunc_api_Edge:Fun:=⟨slices_ContainsFunc_api_Edge_e,fun x=>let r:=slices_ContainsFunc_api_Edge_r x.1 x.2.1 x.2.2.1 x.2.2.2.1 x.2.2.2.2.1 x.2.2.2.2.2.1; (r.1,(r.2.1,r.2.2.1,r.2.2.2.1,r.2.2.2.2.1,r.2.2.2.2.2,()))⟩
theorem slices_ContainsFunc_api_Edge_ev:evFun Try.prog [slices_IndexFunc_api_Edge] [] Try.f95 (codeOf Try.f95) slices_ContainsFunc_api_Edge_e=(slices_ContainsFunc_api_Edge).fn:=by kernel_rfl
theorem slices_ContainsFunc_api_Edge_ok:FunOk Try.prog (slices_ContainsFunc_api_Edge):=fun_ok (opers_ok (oks_cons slices_IndexFunc_api_Edge_ok oks_nil)) Try.call95 Try.func95 (by kernel_rfl) fun x _=>(congrFun (slices_ContainsFunc_api_Edge_ev) x).symm
noncomputable def span_Forest_r (a1:(List (Int × (Int × Int)))):Bool × (Bool):=
 let c0:=(span_sets_r)
 let c3:=(edge_CheckAll_r a1)
 let c7:=(c3.2==(0:Int))
 let c14:=(slices_ContainsFunc_api_Edge_r a1 () c0.2.1 c0.2.2.1 c0.2.2.2.1 c0.2.2.2.2)
 let c20:=(cond c7 c7 true)
 ((c0.1 && (((c3.1 && (cond c7 ((c7 && c7) && c14.1) true)) && c20) && c20)),((cond c7 (!c14.2.1) false)))
def span_Forest_e:Ent:=⟨52,[],[(.pure (.fl (.row (.prod (.int .i64) (.prod (.int .i64) (.int .i64))))) (Ty.dflt _))],[],[(.pure .bool (Ty.dflt _))],[]⟩
noncomputable def span_Forest:Fun:=⟨span_Forest_e,fun x=>let r:=span_Forest_r x.1; (r.1,(r.2,()))⟩
theorem span_Forest_ev:evFun Try.prog [span_sets,edge_CheckAll,slices_ContainsFunc_api_Edge] [] Try.f52 (codeOf Try.f52) span_Forest_e=(span_Forest).fn:=by kernel_rfl
theorem span_Forest_ok:FunOk Try.prog (span_Forest):=fun_ok (opers_ok (oks_cons span_sets_ok (oks_cons edge_CheckAll_ok (oks_cons slices_ContainsFunc_api_Edge_ok oks_nil)))) Try.call52 Try.func52 (by kernel_rfl) fun x _=>(congrFun (span_Forest_ev) x).symm
noncomputable def route_bound_r (a1:((List Int) × (List (Int × (Int × (Int × (Int × Bool))))))) (a2:Int):Bool × (Int × (List (Int × (Int × Int)))):=
 let c1:=(view_Bound_r a1)
 let c5:=(c1.2.1 !=(0:Int))
 let c6:=(!c5)
 let c8:=(edge_Node_r a2)
 let c19:=(cond c5 true (!c8.2))
 let c20:=c1.2.2
 let c21:=(span_Forest_r c20)
 let c24:=(!c21.2)
 let c26:=(slices_Contains_int_r a1.1 a2)
 let c39:=(((!(!c26.2)) && (!c24)) && (!c19))
 ((c1.1 && ((((cond c6 (c6 && c8.1) true) && (cond c6 c6 true)) && (cond c5 true c6)) && (cond c19 true (c21.1 && (cond c24 true c26.1))))),((cond c39 (0:Int) (cond c19 (1:Int) (cond c24 (11:Int) (4:Int)))),(cond c39 c20 ([]:List (Int × (Int × Int))))))
def route_bound_e:Ent:=⟨101,[],[(.pure (.row (.prod (.fl (.int .i64)) (.fl (.row (.prod (.int .i64) (.prod (.int .i64) (.prod (.int .i64) (.prod (.int .i64) .bool)))))))) (Ty.dflt _)),(.pure (.int .i64) (Ty.dflt _))],[(0,(.arr (.row (.prod (.int .i64) (.prod (.int .i64) (.int .i64)))) [] true))],[(.own 0 3),(.pure (.int .i64) (Ty.dflt _))],[]⟩
noncomputable def route_bound:Fun:=⟨route_bound_e,fun x=>let r:=route_bound_r x.1 x.2.1; (r.1,(r.2.1,r.2.2,()))⟩
theorem route_bound_ev:evFun Try.prog [view_Bound,edge_Node,span_Forest,slices_Contains_int] [] Try.f101 (codeOf Try.f101) route_bound_e=(route_bound).fn:=by kernel_rfl
theorem route_bound_ok:FunOk Try.prog (route_bound):=fun_ok (opers_ok (oks_cons view_Bound_ok (oks_cons edge_Node_ok (oks_cons span_Forest_ok (oks_cons slices_Contains_int_ok oks_nil))))) Try.call101 Try.func101 (by kernel_rfl) fun x _=>(congrFun (route_bound_ev) x).symm
noncomputable def edge_Other_r (a1:(Int × (Int × Int))) (a2:Int):Bool × (Int):=
 let c13:=((a1.1==a2) && ((a1.2.1==a1.2.1) && (a1.2.2==a1.2.2)))
 (true,((cond ((!(a1.2.1==a2)) && (!c13)) (0:Int) (cond c13 a1.2.1 a1.1))))
def edge_Other_e:Ent:=⟨83,[],[(.pure (.row (.prod (.int .i64) (.prod (.int .i64) (.int .i64)))) (Ty.dflt _)),(.pure (.int .i64) (Ty.dflt _))],[],[(.pure (.int .i64) (Ty.dflt _))],[]⟩
noncomputable def edge_Other:Fun:=⟨edge_Other_e,fun x=>let r:=edge_Other_r x.1 x.2.1; (r.1,(r.2,()))⟩
theorem edge_Other_ev:evFun Try.prog [] [] Try.f83 (codeOf Try.f83) edge_Other_e=(edge_Other).fn:=by kernel_rfl
theorem edge_Other_ok:FunOk Try.prog (edge_Other):=fun_ok (opers_ok oks_nil) Try.call83 Try.func83 (by kernel_rfl) fun x _=>(congrFun (edge_Other_ev) x).symm
noncomputable def tree_ups_l1 (a1:(List (Int × (Int × Int)))) (a2:Int) (s0:HL [.nat,.nat,(.fl (.int .i64)),(.fl (.int .i64))]) (s1:HL [.int .i64,.nat,.nat,(.fl (.int .i64)),(.fl (.int .i64))]):Bool × Bool × HL [.int .i64,.nat,.nat,(.fl (.int .i64)),(.fl (.int .i64))] × HL [.bool,.nat,.nat,(.fl (.int .i64)),(.fl (.int .i64))]:=
 let c20:=(Int.toNat (0:Int))
 let c24:=(c20+s0.1)
 let c38:=(decide (s1.1<(a1.length:Int)))
 let c40:=(Int.toNat s1.1)
 let c41:=(decide (c40<a1.length))
 let c45:=((s0.2.2.2.1[c24]?).getD (0:Int))
 let c46:=(edge_Other_r ((a1[c40]?).getD ((0:Int),((0:Int),(0:Int)))) c45)
 let c48:=c46.2
 let c49:=(decide (c48>(0:Int)))
 let c51:=(Int.toNat c48)
 let c54:=(decide (c51<s1.2.2.2.1.length))
 let c55:=((decide ((0:Int)≤c48)) && c54)
 let c63:=(cond c49 c49 true)
 let c69:=(cond c49 (((s1.2.2.2.1[c51]?).getD (0:Int))==(0:Int)) false)
 let c73:=(c48::([]:List Int))
 let c90:=(((s1.2.2.2.2.1.drop s1.2.1).take s1.2.2.1)++c73)
 ((cond c38 ((((decide ((0:Int)≤s1.1)) && c41) && c41) && (c46.1 && (((((cond c49 (c49 && (c49 && c55)) true) && (cond c49 (c49 && c54) true)) && c63) && c63) && (cond c69 ((c55 && c54) && (decide ((s1.2.2.1+c73.length)*8≤140737488355328))) true)))) true),c38,((IntKind.i64.wrap (s1.1+(1:Int))),(cond c69 0 s1.2.1),(cond c69 c90.length s1.2.2.1),(cond c69 (s1.2.2.2.1.set c51 c45) s1.2.2.2.1),(cond c69 c90 s1.2.2.2.2.1),()),((!c38),s1.2.1,s1.2.2.1,s1.2.2.2.1,s1.2.2.2.2.1,()))
noncomputable def tree_ups_l0 (a1:(List (Int × (Int × Int)))) (a2:Int) (s0:HL [.nat,.nat,(.fl (.int .i64)),(.fl (.int .i64))]):Bool × Bool × HL [.nat,.nat,(.fl (.int .i64)),(.fl (.int .i64))] × HL [.bool,(.fl (.int .i64))]:=
 let c18:=(decide ((s0.2.1:Int)>(0:Int)))
 let c20:=(Int.toNat (0:Int))
 let c24:=(c20+s0.1)
 let c31:=(Int.toNat (1:Int))
 let c100:=(loopD 1 [.int .i64,.nat,.nat,(.fl (.int .i64)),(.fl (.int .i64))] [.bool,.nat,.nat,(.fl (.int .i64)),(.fl (.int .i64))] (tree_ups_l1 a1 a2 s0) ((0:Int),(c31+s0.1),(s0.2.1 - c31),s0.2.2.1,s0.2.2.2.1,()))
 ((cond c18 ((((decide ((0:Int)≤(0:Int))) && (decide (c20<s0.2.1))) && (decide (c24<s0.2.2.2.1.length))) && (((decide ((0:Int)≤(1:Int))) && (decide (c31≤s0.2.1))) && c100.1)) true),c18,(c100.2.2.1,c100.2.2.2.1,c100.2.2.2.2.1,c100.2.2.2.2.2.1,()),((!c18),s0.2.2.1,()))
noncomputable def tree_ups_r (a1:(List (Int × (Int × Int)))) (a2:Int):Bool × ((List Int)):=
 let c8:=(Int.toNat a2)
 let c11:=(List.replicate (Int.toNat (65:Int)) (0:Int))
 let c13:=(decide (c8<c11.length))
 let c110:=(a2::([]:List Int))
 let c113:=(loopD 0 [.nat,.nat,(.fl (.int .i64)),(.fl (.int .i64))] [.bool,(.fl (.int .i64))] (tree_ups_l0 a1 a2) (0,c110.length,(c11.set c8 a2),c110,()))
 (((((65:Int)==(65:Int)) && ((decide ((0:Int)≤(65:Int))) && (decide ((8:Int)*(65:Int)≤281474976710656)))) && ((((decide ((0:Int)≤a2)) && c13) && c13) && c113.1)),(c113.2.2.1))
def tree_ups_e:Ent:=⟨171,[],[(.pure (.fl (.row (.prod (.int .i64) (.prod (.int .i64) (.int .i64))))) (Ty.dflt _)),(.pure (.int .i64) (Ty.dflt _))],[(0,(.arr (.int .i64) [] false))],[(.own 0 1)],[]⟩
noncomputable def tree_ups:Fun:=⟨tree_ups_e,fun x=>let r:=tree_ups_r x.1 x.2.1; (r.1,(r.2,()))⟩
theorem tree_ups_ev:evFun Try.prog [edge_Other] [⟨[6],[64],⟨[(6,(.sref 1537 1 0 0))],[(1537,⟨.tt,(.arr (.int .i64) [] false)⟩)],0⟩,[6],[],[(1,[]),(2,[])],[]⟩,⟨[28,6],[64],⟨[],[],0⟩,[],[],[(1,[]),(4,[6])],[]⟩] Try.f171 (codeOf Try.f171) tree_ups_e=(tree_ups).fn:=by kernel_rfl
theorem tree_ups_ok:FunOk Try.prog (tree_ups):=fun_ok (opers_ok (oks_cons edge_Other_ok oks_nil)) Try.call171 Try.func171 (by kernel_rfl) fun x _=>(congrFun (tree_ups_ev) x).symm
noncomputable def tree_Way_l0 (a1:(List (Int × (Int × Int)))) (a2:Int) (a3:Int) (s0:HL [.int .i64,(.fl (.int .i64))]):Bool × Bool × HL [.int .i64,(.fl (.int .i64))] × HL [.bool,(.fl (.int .i64))]:=
 let c35:=(tree_ups_r a1 a3)
 let c39:=c35.2
 let c40:=c39.length
 let c49:=(s0.1 !=a3)
 let c51:=(Int.toNat s0.1)
 let c52:=(decide (c51<c40))
 let c57:=((c39[c51]?).getD (0:Int))
 let c59:=(c57::([]:List Int))
 ((cond c49 ((((decide ((0:Int)≤s0.1)) && c52) && c52) && (decide ((s0.2.1.length+c59.length)*8≤140737488355328))) true),c49,(c57,(s0.2.1++c59),()),((!c49),s0.2.1,()))
noncomputable def tree_Way_r (a1:(List (Int × (Int × Int)))) (a2:Int) (a3:Int):Bool × (Int × (List Int)):=
 let c1:=(span_Forest_r a1)
 let c4:=(!c1.2)
 let c5:=(!c4)
 let c7:=(edge_Node_r a2)
 let c19:=(cond c4 true (!c7.2))
 let c20:=(!c19)
 let c22:=(edge_Node_r a3)
 let c34:=(!(cond c19 true (!c22.2)))
 let c35:=(tree_ups_r a1 a3)
 let c38:=(Int.toNat a2)
 let c39:=c35.2
 let c40:=c39.length
 let c41:=(decide (c38<c40))
 let c47:=(!(((c39[c38]?).getD (0:Int))==(0:Int)))
 let c68:=(loopD 0 [.int .i64,(.fl (.int .i64))] [.bool,(.fl (.int .i64))] (tree_Way_l0 a1 a2 a3) (a2,(a2::([]:List Int)),()))
 ((((((((c1.1 && (cond c5 (c5 && c7.1) true)) && (cond c5 c5 true)) && (cond c4 true c5)) && (cond c20 (c20 && c22.1) true)) && (cond c20 c20 true)) && (cond c19 true c20)) && (cond c34 (c35.1 && ((((decide ((0:Int)≤a2)) && c41) && c41) && (cond c47 c68.1 true))) true)),((cond c34 (cond c47 (0:Int) (9:Int)) (1:Int)),(cond c34 (cond c47 c68.2.2.1 ([]:List Int)) ([]:List Int))))
def tree_Way_e:Ent:=⟨133,[],[(.pure (.fl (.row (.prod (.int .i64) (.prod (.int .i64) (.int .i64))))) (Ty.dflt _)),(.pure (.int .i64) (Ty.dflt _)),(.pure (.int .i64) (Ty.dflt _))],[(0,(.arr (.int .i64) [] false))],[(.own 0 1),(.pure (.int .i64) (Ty.dflt _))],[]⟩
noncomputable def tree_Way:Fun:=⟨tree_Way_e,fun x=>let r:=tree_Way_r x.1 x.2.1 x.2.2.1; (r.1,(r.2.1,r.2.2,()))⟩
theorem tree_Way_ev:evFun Try.prog [span_Forest,edge_Node,tree_ups] [⟨[9,1],[],⟨[],[],0⟩,[],[],[(1,[]),(2,[9])],[]⟩,⟨[],[],⟨[],[],0⟩,[],[],[],[(1000003,([9,1],[]))]⟩] Try.f133 (codeOf Try.f133) tree_Way_e=(tree_Way).fn:=by kernel_rfl
theorem tree_Way_ok:FunOk Try.prog (tree_Way):=fun_ok (opers_ok (oks_cons span_Forest_ok (oks_cons edge_Node_ok (oks_cons tree_ups_ok oks_nil)))) Try.call133 Try.func133 (by kernel_rfl) fun x _=>(congrFun (tree_Way_ev) x).symm
noncomputable def tree_Next_r (a1:(List (Int × (Int × Int)))) (a2:Int) (a3:Int):Bool × (Int × Int):=
 let c3:=(tree_Way_r a1 a2 a3)
 let c5:=c3.2.1
 let c8:=(!(c5 !=(0:Int)))
 let c9:=c3.2.2
 let c12:=(a3::([]:List Int))
 let c18:=(Int.toNat (1:Int))
 let c19:=(c9++c12)
 let c21:=(decide (c18<c19.length))
 ((c3.1 && (cond c8 (((decide ((c9.length+c12.length)*8≤140737488355328)) && ((decide ((0:Int)≤(1:Int))) && c21)) && c21) true)),((cond c8 ((c19[c18]?).getD (0:Int)) (0:Int)),(cond c8 (0:Int) c5)))
def tree_Next_e:Ent:=⟨102,[],[(.pure (.fl (.row (.prod (.int .i64) (.prod (.int .i64) (.int .i64))))) (Ty.dflt _)),(.pure (.int .i64) (Ty.dflt _)),(.pure (.int .i64) (Ty.dflt _))],[],[(.pure (.int .i64) (Ty.dflt _)),(.pure (.int .i64) (Ty.dflt _))],[]⟩
noncomputable def tree_Next:Fun:=⟨tree_Next_e,fun x=>let r:=tree_Next_r x.1 x.2.1 x.2.2.1; (r.1,(r.2.1,r.2.2,()))⟩
theorem tree_Next_ev:evFun Try.prog [tree_Way] [] Try.f102 (codeOf Try.f102) tree_Next_e=(tree_Next).fn:=by kernel_rfl
theorem tree_Next_ok:FunOk Try.prog (tree_Next):=fun_ok (opers_ok (oks_cons tree_Way_ok oks_nil)) Try.call102 Try.func102 (by kernel_rfl) fun x _=>(congrFun (tree_Next_ev) x).symm
noncomputable def route_Hop_r (a1:((List Int) × (List (Int × (Int × (Int × (Int × Bool))))))) (a2:Int) (a3:Int):Bool × (Int × Int):=
 let c2:=(route_bound_r a1 a2)
 let c5:=(edge_Node_r a3)
 let c11:=(cond (!c5.2) (1:Int) c2.2.1)
 let c14:=(!(c11 !=(0:Int)))
 let c16:=(tree_Next_r c2.2.2 a2 a3)
 ((c2.1 && (c5.1 && (cond c14 c16.1 true))),((cond c14 c16.2.1 (0:Int)),(cond c14 c16.2.2 c11)))
def route_Hop_e:Ent:=⟨60,[],[(.pure (.row (.prod (.fl (.int .i64)) (.fl (.row (.prod (.int .i64) (.prod (.int .i64) (.prod (.int .i64) (.prod (.int .i64) .bool)))))))) (Ty.dflt _)),(.pure (.int .i64) (Ty.dflt _)),(.pure (.int .i64) (Ty.dflt _))],[],[(.pure (.int .i64) (Ty.dflt _)),(.pure (.int .i64) (Ty.dflt _))],[]⟩
noncomputable def route_Hop:Fun:=⟨route_Hop_e,fun x=>let r:=route_Hop_r x.1 x.2.1 x.2.2.1; (r.1,(r.2.1,r.2.2,()))⟩
theorem route_Hop_ev:evFun Try.prog [route_bound,edge_Node,tree_Next] [⟨[],[],⟨[],[],0⟩,[],[],[],[(1000003,([9],[]))]⟩] Try.f60 (codeOf Try.f60) route_Hop_e=(route_Hop).fn:=by kernel_rfl
theorem route_Hop_ok:FunOk Try.prog (route_Hop):=fun_ok (opers_ok (oks_cons route_bound_ok (oks_cons edge_Node_ok (oks_cons tree_Next_ok oks_nil)))) Try.call60 Try.func60 (by kernel_rfl) fun x _=>(congrFun (route_Hop_ev) x).symm
noncomputable def ask_Next_r (a1:(Int × ((Int × Int) × (Int × (Int × ((List (Int × (Int × (Int × (Int × (Bool × (Bool × Int))))))) × ((List Int) × (((List Int) × (List (Int × (Int × (Int × (Int × Bool)))))) × (Int × (((List Int) × (List (Int × (Int × (Int × (Int × Bool)))))) × (Int × Bool))))))))))) (a2:Int):Bool × (Int × Int):=
 let c1:=(ask_check_r a1)
 let c3:=c1.2
 let c6:=(!(c3 !=(0:Int)))
 let c18:=(route_Hop_r a1.2.2.2.2.2.2.2.2.1 a1.1 a2)
 ((c1.1 && (cond c6 c18.1 true)),((cond c6 c18.2.1 (0:Int)),(cond c6 c18.2.2 c3)))
def ask_Next_e:Ent:=⟨18,[],[(.pure (.row (.prod (.int .i64) (.prod (.row (.prod (.int .i64) (.int .i64))) (.prod (.int .i64) (.prod (.int .i64) (.prod (.fl (.row (.prod (.int .i64) (.prod (.int .i64) (.prod (.int .i64) (.row (.prod (.int .i64) (.prod .bool (.prod .bool (.int .i64)))))))))) (.prod (.fl (.int .i64)) (.prod (.row (.prod (.fl (.int .i64)) (.fl (.row (.prod (.int .i64) (.prod (.int .i64) (.prod (.int .i64) (.prod (.int .i64) .bool)))))))) (.prod (.int .i64) (.prod (.row (.prod (.fl (.int .i64)) (.fl (.row (.prod (.int .i64) (.prod (.int .i64) (.prod (.int .i64) (.prod (.int .i64) .bool)))))))) (.prod (.int .i64) .bool))))))))))) (Ty.dflt _)),(.pure (.int .i64) (Ty.dflt _))],[],[(.pure (.int .i64) (Ty.dflt _)),(.pure (.int .i64) (Ty.dflt _))],[]⟩
noncomputable def ask_Next:Fun:=⟨ask_Next_e,fun x=>let r:=ask_Next_r x.1 x.2.1; (r.1,(r.2.1,r.2.2,()))⟩
theorem ask_Next_ev:evFun Try.prog [ask_check,route_Hop] [] Try.f18 (codeOf Try.f18) ask_Next_e=(ask_Next).fn:=by kernel_rfl
theorem ask_Next_ok:FunOk Try.prog (ask_Next):=fun_ok (opers_ok (oks_cons ask_check_ok (oks_cons route_Hop_ok oks_nil))) Try.call18 Try.func18 (by kernel_rfl) fun x _=>(congrFun (ask_Next_ev) x).symm
def slices_Clone_int_r (a1:List Int):Bool × (List Int):=(decide (a1.length*8≤140737488355328),a1)
noncomputable def slices_Clone_int:Fun:=cloneF 61 (.int .i64) 8
theorem slices_Clone_int_ok:FunOk Try.prog slices_Clone_int:=clone_ok (fn:=Try.f61) (c:=codeOf Try.f61) (opers_ok oks_nil) Try.call61 Try.func61 (by kernel_rfl) (by kernel_rfl) (by kernel_rfl) (fun _ _=>by kernel_rfl)
noncomputable def ask_Members_r (a1:(Int × ((Int × Int) × (Int × (Int × ((List (Int × (Int × (Int × (Int × (Bool × (Bool × Int))))))) × ((List Int) × (((List Int) × (List (Int × (Int × (Int × (Int × Bool)))))) × (Int × (((List Int) × (List (Int × (Int × (Int × (Int × Bool)))))) × (Int × Bool))))))))))):Bool × (Int × (List Int)):=
 let c1:=(ask_check_r a1)
 let c3:=c1.2
 let c6:=(!(c3 !=(0:Int)))
 let c17:=(slices_Clone_int_r a1.2.2.2.2.2.2.2.2.1.1)
 ((c1.1 && (cond c6 c17.1 true)),((cond c6 (0:Int) c3),(cond c6 c17.2 ([]:List Int))))
def ask_Members_e:Ent:=⟨19,[],[(.pure (.row (.prod (.int .i64) (.prod (.row (.prod (.int .i64) (.int .i64))) (.prod (.int .i64) (.prod (.int .i64) (.prod (.fl (.row (.prod (.int .i64) (.prod (.int .i64) (.prod (.int .i64) (.row (.prod (.int .i64) (.prod .bool (.prod .bool (.int .i64)))))))))) (.prod (.fl (.int .i64)) (.prod (.row (.prod (.fl (.int .i64)) (.fl (.row (.prod (.int .i64) (.prod (.int .i64) (.prod (.int .i64) (.prod (.int .i64) .bool)))))))) (.prod (.int .i64) (.prod (.row (.prod (.fl (.int .i64)) (.fl (.row (.prod (.int .i64) (.prod (.int .i64) (.prod (.int .i64) (.prod (.int .i64) .bool)))))))) (.prod (.int .i64) .bool))))))))))) (Ty.dflt _))],[(0,(.arr (.int .i64) [] false))],[(.own 0 1),(.pure (.int .i64) (Ty.dflt _))],[]⟩
noncomputable def ask_Members:Fun:=⟨ask_Members_e,fun x=>let r:=ask_Members_r x.1; (r.1,(r.2.1,r.2.2,()))⟩
theorem ask_Members_ev:evFun Try.prog [ask_check,slices_Clone_int] [] Try.f19 (codeOf Try.f19) ask_Members_e=(ask_Members).fn:=by kernel_rfl
theorem ask_Members_ok:FunOk Try.prog (ask_Members):=fun_ok (opers_ok (oks_cons ask_check_ok (oks_cons slices_Clone_int_ok oks_nil))) Try.call19 Try.func19 (by kernel_rfl) fun x _=>(congrFun (ask_Members_ev) x).symm
noncomputable def withylaw24_awake_r:Bool × (Bool):=
 let c2:=(withyref22_New_r (3:Int) (9:Int))
 let c4:=c2.2
 let c5:=(ask_Leader_r c4)
 let c8:=(ask_Next_r c4 (4:Int))
 let c10:=(ask_Members_r c4)
 let c14:=(c5.2.2==(0:Int))
 let c16:=(cond c14 c14 true)
 let c21:=(cond c14 (c5.2.1==(3:Int)) false)
 let c22:=(cond c21 c21 true)
 let c27:=(cond c21 (c8.2.2==(9:Int)) false)
 let c28:=(cond c27 c27 true)
 let c33:=(cond c27 (c10.2.1==(0:Int)) false)
 let c34:=(cond c33 c33 true)
 let c43:=(cond c33 ((c10.2.2.length:Int)==(1:Int)) false)
 let c44:=(ask_Stable_r c4)
 ((c2.1 && (c5.1 && (c8.1 && (c10.1 && ((((((((((c16 && c16) && c22) && c22) && c28) && c28) && c34) && c34) && c34) && (cond c43 (c43 && c44.1) true)) && (cond c43 c43 true)))))),((cond c43 c44.2 false)))
def withylaw24_awake_e:Ent:=⟨15,[],[],[],[(.pure .bool (Ty.dflt _))],[]⟩
noncomputable def withylaw24_awake:Fun:=⟨withylaw24_awake_e,fun x=>let r:=withylaw24_awake_r; (r.1,(r.2,()))⟩
theorem withylaw24_awake_ev:evFun Try.prog [withyref22_New,ask_Leader,ask_Next,ask_Members,ask_Stable] [] Try.f15 (codeOf Try.f15) withylaw24_awake_e=(withylaw24_awake).fn:=by kernel_rfl
theorem withylaw24_awake_ok:FunOk Try.prog (withylaw24_awake):=fun_ok (opers_ok (oks_cons withyref22_New_ok (oks_cons ask_Leader_ok (oks_cons ask_Next_ok (oks_cons ask_Members_ok (oks_cons ask_Stable_ok oks_nil)))))) Try.call15 Try.func15 (by kernel_rfl) fun x _=>(congrFun (withylaw24_awake_ev) x).symm
noncomputable def withyref24_Check_r (a1:(Int × ((Int × Int) × (Int × (Int × ((List (Int × (Int × (Int × (Int × (Bool × (Bool × Int))))))) × ((List Int) × (((List Int) × (List (Int × (Int × (Int × (Int × Bool)))))) × (Int × (((List Int) × (List (Int × (Int × (Int × (Int × Bool)))))) × (Int × Bool))))))))))):Bool × (Int):=
 (true,((cond (!a1.2.2.2.2.2.2.2.2.2.2) (cond (!(a1.2.2.2.2.2.2.2.1 !=(4:Int))) (0:Int) (8:Int)) (10:Int))))
def withyref24_Check_e:Ent:=⟨16,[],[(.pure (.row (.prod (.int .i64) (.prod (.row (.prod (.int .i64) (.int .i64))) (.prod (.int .i64) (.prod (.int .i64) (.prod (.fl (.row (.prod (.int .i64) (.prod (.int .i64) (.prod (.int .i64) (.row (.prod (.int .i64) (.prod .bool (.prod .bool (.int .i64)))))))))) (.prod (.fl (.int .i64)) (.prod (.row (.prod (.fl (.int .i64)) (.fl (.row (.prod (.int .i64) (.prod (.int .i64) (.prod (.int .i64) (.prod (.int .i64) .bool)))))))) (.prod (.int .i64) (.prod (.row (.prod (.fl (.int .i64)) (.fl (.row (.prod (.int .i64) (.prod (.int .i64) (.prod (.int .i64) (.prod (.int .i64) .bool)))))))) (.prod (.int .i64) .bool))))))))))) (Ty.dflt _))],[],[(.pure (.int .i64) (Ty.dflt _))],[]⟩
noncomputable def withyref24_Check:Fun:=⟨withyref24_Check_e,fun x=>let r:=withyref24_Check_r x.1; (r.1,(r.2,()))⟩
theorem withyref24_Check_ev:evFun Try.prog [] [] Try.f16 (codeOf Try.f16) withyref24_Check_e=(withyref24_Check).fn:=by kernel_rfl
theorem withyref24_Check_ok:FunOk Try.prog (withyref24_Check):=fun_ok (opers_ok oks_nil) Try.call16 Try.func16 (by kernel_rfl) fun x _=>(congrFun (withyref24_Check_ev) x).symm
noncomputable def withyref11_Check_l0 (a1:((List Int) × (List (Int × (Int × (Int × (Int × Bool))))))) (a2:Int) (s0:HL [.int .i64]):Bool × Bool × HL [.int .i64] × HL [.bool,.int .i64,.bool]:=
 let c34:=(decide (s0.1<(a1.1.length:Int)))
 let c36:=(Int.toNat s0.1)
 let c37:=(decide (c36<a1.1.length))
 let c42:=(((a1.1[c36]?).getD (0:Int))==a2)
 ((cond c34 (((decide ((0:Int)≤s0.1)) && c37) && c37) true),(c34 && (!c42)),((IntKind.i64.wrap (s0.1+(1:Int))),()),((c34 && c42),(0:Int),(!c34),()))
noncomputable def withyref11_Check_r (a1:((List Int) × (List (Int × (Int × (Int × (Int × Bool))))))) (a2:Int):Bool × (Int):=
 let c1:=(withyref09_May_r a1)
 let c4:=(!c1.2)
 let c5:=(!c4)
 let c7:=(withyref05_Node_r a2)
 let c20:=(!(cond c4 true (!c7.2)))
 let c21:=(withyref09_Bound_r a1)
 let c24:=(withyref07_Forest_r c21.2)
 let c29:=(!(!c24.2))
 let c50:=(loopD 0 [.int .i64] [.bool,.int .i64,.bool] (withyref11_Check_l0 a1 a2) ((0:Int),()))
 (((((c1.1 && (cond c5 (c5 && c7.1) true)) && (cond c5 c5 true)) && (cond c4 true c5)) && (cond c20 ((c21.1 && c24.1) && (cond c29 c50.1 true)) true)),((cond c20 (cond c29 (cond c50.2.2.2.1 (4:Int) c50.2.2.1) (11:Int)) (1:Int))))
def withyref11_Check_e:Ent:=⟨103,[],[(.pure (.row (.prod (.fl (.int .i64)) (.fl (.row (.prod (.int .i64) (.prod (.int .i64) (.prod (.int .i64) (.prod (.int .i64) .bool)))))))) (Ty.dflt _)),(.pure (.int .i64) (Ty.dflt _))],[],[(.pure (.int .i64) (Ty.dflt _))],[]⟩
noncomputable def withyref11_Check:Fun:=⟨withyref11_Check_e,fun x=>let r:=withyref11_Check_r x.1 x.2.1; (r.1,(r.2,()))⟩
theorem withyref11_Check_ev:evFun Try.prog [withyref09_May,withyref05_Node,withyref09_Bound,withyref07_Forest] [⟨[5],[],⟨[],[],0⟩,[],[],[(1,[4]),(2,[])],[]⟩,⟨[],[],⟨[],[],0⟩,[],[],[],[(1000003,([5],[]))]⟩] Try.f103 (codeOf Try.f103) withyref11_Check_e=(withyref11_Check).fn:=by kernel_rfl
theorem withyref11_Check_ok:FunOk Try.prog (withyref11_Check):=fun_ok (opers_ok (oks_cons withyref09_May_ok (oks_cons withyref05_Node_ok (oks_cons withyref09_Bound_ok (oks_cons withyref07_Forest_ok oks_nil))))) Try.call103 Try.func103 (by kernel_rfl) fun x _=>(congrFun (withyref11_Check_ev) x).symm
noncomputable def withyref08_Way_l1 (a1:(List (Int × (Int × Int)))) (a2:Int) (a3:Int) (s0:HL [.int .i64,(.fl (.int .i64))]) (s1:HL [.int .i64,(.fl (.int .i64))]):Bool × Bool × HL [.int .i64,(.fl (.int .i64))] × HL [.bool,(.fl (.int .i64))]:=
 let c3:=(withyref08_On_r a1 a2 a3)
 let c15:=(IntKind.i64.wrap ((s0.2.1.length:Int) - (1:Int)))
 let c17:=(Int.toNat c15)
 let c31:=((s0.2.1[c17]?).getD (0:Int))
 let c37:=c3.2
 let c38:=c37.length
 let c40:=(decide (s1.1<(c38:Int)))
 let c42:=(Int.toNat s1.1)
 let c43:=(decide (c42<c38))
 let c45:=(((decide ((0:Int)≤s1.1)) && c43) && c43)
 let c46:=((c37[c42]?).getD ((0:Int),((0:Int),(0:Int))))
 let c47:=c46.1
 let c48:=(c47==c31)
 let c52:=c46.2.1
 let c53:=(c52==c31)
 let c58:=(cond c53 c47 (cond c48 c52 (0:Int)))
 let c59:=(decide (c58>(0:Int)))
 let c60:=(cond c59 c59 true)
 let c62:=(c59 && c59)
 let c67:=(decide ((s1.2.1.length:Int)<(2:Int)))
 let c69:=(c62 && (!c67))
 let c70:=(cond c69 c69 true)
 let c73:=(IntKind.i64.wrap ((s1.2.1.length:Int) - (2:Int)))
 let c75:=(Int.toNat c73)
 let c76:=(decide (c75<s1.2.1.length))
 let c96:=(cond c59 (cond c67 true (c58 !=((s1.2.1[c75]?).getD (0:Int)))) false)
 let c98:=(c58::([]:List Int))
 ((cond c40 ((c45 && (cond c48 c45 true)) && ((c45 && (cond c53 c45 true)) && (((((((((c60 && c60) && c70) && c70) && (cond c69 (c69 && (c69 && ((decide ((0:Int)≤c73)) && c76))) true)) && (cond c69 (c69 && c76) true)) && (cond c69 (c69 && c69) true)) && (cond c59 (c62 && (cond c67 true c69)) true)) && c60) && (cond c96 (decide ((s1.2.1.length+c98.length)*8≤140737488355328)) true)))) true),(c40 && (!c96)),((IntKind.i64.wrap (s1.1+(1:Int))),s1.2.1,()),((cond c40 c96 (!c40)),(cond c40 (s1.2.1++c98) s1.2.1),()))
noncomputable def withyref08_Way_l0 (a1:(List (Int × (Int × Int)))) (a2:Int) (a3:Int) (s0:HL [.int .i64,(.fl (.int .i64))]):Bool × Bool × HL [.int .i64,(.fl (.int .i64))] × HL [.bool,(.fl (.int .i64))]:=
 let c7:=(decide (s0.1<(64:Int)))
 let c9:=(cond c7 c7 true)
 let c15:=(IntKind.i64.wrap ((s0.2.1.length:Int) - (1:Int)))
 let c17:=(Int.toNat c15)
 let c18:=(decide (c17<s0.2.1.length))
 let c19:=((decide ((0:Int)≤c15)) && c18)
 let c31:=((s0.2.1[c17]?).getD (0:Int))
 let c34:=(cond c7 (c31 !=a3) false)
 let c114:=(loopD 1 [.int .i64,(.fl (.int .i64))] [.bool,(.fl (.int .i64))] (withyref08_Way_l1 a1 a2 a3 s0) ((0:Int),s0.2.1,()))
 (((((((c9 && c9) && (cond c7 (c7 && (c7 && c19)) true)) && (cond c7 (c7 && c18) true)) && (cond c7 (c7 && c7) true)) && c9) && (cond c34 ((c19 && c18) && c114.1) true)),c34,((IntKind.i64.wrap (s0.1+(1:Int))),c114.2.2.1,()),((!c34),s0.2.1,()))
noncomputable def withyref08_Way_r (a1:(List (Int × (Int × Int)))) (a2:Int) (a3:Int):Bool × ((List Int)):=
 let c3:=(withyref08_On_r a1 a2 a3)
 let c123:=(loopD 0 [.int .i64,(.fl (.int .i64))] [.bool,(.fl (.int .i64))] (withyref08_Way_l0 a1 a2 a3) ((0:Int),(a2::([]:List Int)),()))
 ((c3.1 && c123.1),(c123.2.2.1))
def withyref08_Way_e:Ent:=⟨105,[],[(.pure (.fl (.row (.prod (.int .i64) (.prod (.int .i64) (.int .i64))))) (Ty.dflt _)),(.pure (.int .i64) (Ty.dflt _)),(.pure (.int .i64) (Ty.dflt _))],[(0,(.arr (.int .i64) [] false))],[(.own 0 1)],[]⟩
noncomputable def withyref08_Way:Fun:=⟨withyref08_Way_e,fun x=>let r:=withyref08_Way_r x.1 x.2.1 x.2.2.1; (r.1,(r.2,()))⟩
theorem withyref08_Way_ev:evFun Try.prog [withyref08_On] [⟨[9,8],[],⟨[],[],0⟩,[],[],[(1,[]),(2,[8])],[]⟩,⟨[8,11],[640],⟨[],[],0⟩,[],[],[(1,[]),(4,[8])],[]⟩] Try.f105 (codeOf Try.f105) withyref08_Way_e=(withyref08_Way).fn:=by kernel_rfl
theorem withyref08_Way_ok:FunOk Try.prog (withyref08_Way):=fun_ok (opers_ok (oks_cons withyref08_On_ok oks_nil)) Try.call105 Try.func105 (by kernel_rfl) fun x _=>(congrFun (withyref08_Way_ev) x).symm
noncomputable def withyref11_Hop_r (a1:((List Int) × (List (Int × (Int × (Int × (Int × Bool))))))) (a2:Int) (a3:Int):Bool × (Int × Int):=
 let c1:=(withyref05_Node_r a3)
 let c5:=(!(!c1.2))
 let c8:=(withyref11_Check_r a1 a2)
 let c10:=c8.2
 let c13:=(!(c10 !=(0:Int)))
 let c14:=(withyref09_Bound_r a1)
 let c16:=c14.2
 let c17:=(withyref07_Linked_r c16 a2 a3)
 let c21:=(!(!c17.2))
 let c23:=(!(a2==a3))
 let c24:=(withyref08_Way_r c16 a2 a3)
 let c28:=(Int.toNat (1:Int))
 let c29:=c24.2
 let c31:=(decide (c28<c29.length))
 ((c1.1 && (cond c5 (c8.1 && (cond c13 (c14.1 && (c17.1 && (cond c21 (cond c23 ((c24.1 && ((decide ((0:Int)≤(1:Int))) && c31)) && c31) true) true))) true)) true)),((cond c5 (cond c13 (cond c21 (cond c23 ((c29[c28]?).getD (0:Int)) a3) (0:Int)) (0:Int)) (0:Int)),(cond c5 (cond c13 (cond c21 (cond c23 (0:Int) (0:Int)) (9:Int)) c10) (1:Int))))
def withyref11_Hop_e:Ent:=⟨62,[],[(.pure (.row (.prod (.fl (.int .i64)) (.fl (.row (.prod (.int .i64) (.prod (.int .i64) (.prod (.int .i64) (.prod (.int .i64) .bool)))))))) (Ty.dflt _)),(.pure (.int .i64) (Ty.dflt _)),(.pure (.int .i64) (Ty.dflt _))],[],[(.pure (.int .i64) (Ty.dflt _)),(.pure (.int .i64) (Ty.dflt _))],[]⟩
noncomputable def withyref11_Hop:Fun:=⟨withyref11_Hop_e,fun x=>let r:=withyref11_Hop_r x.1 x.2.1 x.2.2.1; (r.1,(r.2.1,r.2.2,()))⟩
theorem withyref11_Hop_ev:evFun Try.prog [withyref05_Node,withyref11_Check,withyref09_Bound,withyref07_Linked,withyref08_Way] [] Try.f62 (codeOf Try.f62) withyref11_Hop_e=(withyref11_Hop).fn:=by kernel_rfl
theorem withyref11_Hop_ok:FunOk Try.prog (withyref11_Hop):=fun_ok (opers_ok (oks_cons withyref05_Node_ok (oks_cons withyref11_Check_ok (oks_cons withyref09_Bound_ok (oks_cons withyref07_Linked_ok (oks_cons withyref08_Way_ok oks_nil)))))) Try.call62 Try.func62 (by kernel_rfl) fun x _=>(congrFun (withyref11_Hop_ev) x).symm
noncomputable def withyref24_Next_r (a1:(Int × ((Int × Int) × (Int × (Int × ((List (Int × (Int × (Int × (Int × (Bool × (Bool × Int))))))) × ((List Int) × (((List Int) × (List (Int × (Int × (Int × (Int × Bool)))))) × (Int × (((List Int) × (List (Int × (Int × (Int × (Int × Bool)))))) × (Int × Bool))))))))))) (a2:Int):Bool × (Int × Int):=
 let c1:=(withyref24_Check_r a1)
 let c3:=c1.2
 let c6:=(!(c3 !=(0:Int)))
 let c18:=(withyref11_Hop_r a1.2.2.2.2.2.2.2.2.1 a1.1 a2)
 ((c1.1 && (cond c6 c18.1 true)),((cond c6 c18.2.1 (0:Int)),(cond c6 c18.2.2 c3)))
def withyref24_Next_e:Ent:=⟨20,[],[(.pure (.row (.prod (.int .i64) (.prod (.row (.prod (.int .i64) (.int .i64))) (.prod (.int .i64) (.prod (.int .i64) (.prod (.fl (.row (.prod (.int .i64) (.prod (.int .i64) (.prod (.int .i64) (.row (.prod (.int .i64) (.prod .bool (.prod .bool (.int .i64)))))))))) (.prod (.fl (.int .i64)) (.prod (.row (.prod (.fl (.int .i64)) (.fl (.row (.prod (.int .i64) (.prod (.int .i64) (.prod (.int .i64) (.prod (.int .i64) .bool)))))))) (.prod (.int .i64) (.prod (.row (.prod (.fl (.int .i64)) (.fl (.row (.prod (.int .i64) (.prod (.int .i64) (.prod (.int .i64) (.prod (.int .i64) .bool)))))))) (.prod (.int .i64) .bool))))))))))) (Ty.dflt _)),(.pure (.int .i64) (Ty.dflt _))],[],[(.pure (.int .i64) (Ty.dflt _)),(.pure (.int .i64) (Ty.dflt _))],[]⟩
noncomputable def withyref24_Next:Fun:=⟨withyref24_Next_e,fun x=>let r:=withyref24_Next_r x.1 x.2.1; (r.1,(r.2.1,r.2.2,()))⟩
theorem withyref24_Next_ev:evFun Try.prog [withyref24_Check,withyref11_Hop] [] Try.f20 (codeOf Try.f20) withyref24_Next_e=(withyref24_Next).fn:=by kernel_rfl
theorem withyref24_Next_ok:FunOk Try.prog (withyref24_Next):=fun_ok (opers_ok (oks_cons withyref24_Check_ok (oks_cons withyref11_Hop_ok oks_nil))) Try.call20 Try.func20 (by kernel_rfl) fun x _=>(congrFun (withyref24_Next_ev) x).symm
noncomputable def withyref05_Ints_l0 (a1:(List Int)) (a2:(List Int)) (s0:HL [.int .i64]):Bool × Bool × HL [.int .i64] × HL [.bool,.bool,.bool]:=
 let c9:=(decide (s0.1<(a1.length:Int)))
 let c10:=(decide ((0:Int)≤s0.1))
 let c11:=(Int.toNat s0.1)
 let c12:=(decide (c11<a1.length))
 let c15:=(decide (c11<a2.length))
 let c23:=(((a1[c11]?).getD (0:Int)) !=((a2[c11]?).getD (0:Int)))
 ((cond c9 ((((c10 && c12) && c12) && (c10 && c15)) && c15) true),(c9 && (!c23)),((IntKind.i64.wrap (s0.1+(1:Int))),()),((c9 && c23),false,(!c9),()))
noncomputable def withyref05_Ints_r (a1:(List Int)) (a2:(List Int)):Bool × (Bool):=
 let c7:=(!((a1.length:Int) !=(a2.length:Int)))
 let c32:=(loopD 0 [.int .i64] [.bool,.bool,.bool] (withyref05_Ints_l0 a1 a2) ((0:Int),()))
 ((cond c7 c32.1 true),((cond c7 (cond c32.2.2.2.1 true c32.2.2.1) false)))
def withyref05_Ints_e:Ent:=⟨22,[],[(.pure (.fl (.int .i64)) (Ty.dflt _)),(.pure (.fl (.int .i64)) (Ty.dflt _))],[],[(.pure .bool (Ty.dflt _))],[]⟩
noncomputable def withyref05_Ints:Fun:=⟨withyref05_Ints_e,fun x=>let r:=withyref05_Ints_r x.1 x.2.1; (r.1,(r.2,()))⟩
theorem withyref05_Ints_ev:evFun Try.prog [] [⟨[5],[],⟨[],[],0⟩,[],[],[(1,[4]),(2,[])],[]⟩,⟨[],[],⟨[],[],0⟩,[],[],[],[(1000003,([5],[]))]⟩] Try.f22 (codeOf Try.f22) withyref05_Ints_e=(withyref05_Ints).fn:=by kernel_rfl
theorem withyref05_Ints_ok:FunOk Try.prog (withyref05_Ints):=fun_ok (opers_ok oks_nil) Try.call22 Try.func22 (by kernel_rfl) fun x _=>(congrFun (withyref05_Ints_ev) x).symm
noncomputable def withylaw24_AskTells_r (a1:(Int × ((Int × Int) × (Int × (Int × ((List (Int × (Int × (Int × (Int × (Bool × (Bool × Int))))))) × ((List Int) × (((List Int) × (List (Int × (Int × (Int × (Int × Bool)))))) × (Int × (((List Int) × (List (Int × (Int × (Int × (Int × Bool)))))) × (Int × Bool))))))))))) (a2:Int):Bool × (Bool):=
 let c14:=(decide ((a1.2.2.2.2.2.2.2.2.1.1.length:Int)>(70:Int)))
 let c15:=(!c14)
 let c17:=(cond c15 c15 true)
 let c28:=(cond c14 true (decide ((a1.2.2.2.2.2.2.2.2.1.2.length:Int)>(60:Int))))
 let c29:=(withylaw24_awake_r)
 let c30:=c29.1
 let c33:=(!c28)
 let c34:=(withyref24_Check_r a1)
 let c36:=(ask_Leader_r a1)
 let c39:=(ask_Next_r a1 a2)
 let c41:=(ask_Members_r a1)
 let c43:=(withyref24_Next_r a1 a2)
 let c45:=(ask_Stable_r a1)
 let c48:=c34.2
 let c52:=(!(c45.2==(c48==(0:Int))))
 let c53:=(!c52)
 let c61:=(cond c52 true (c36.2.2 !=c48))
 let c62:=(!c61)
 let c70:=(cond c61 true (c41.2.1 !=c48))
 let c71:=(!c70)
 let c80:=(cond c70 true (c39.2.2 !=c43.2.2))
 let c81:=(!c80)
 let c91:=(!(cond c80 true (c39.2.1 !=c43.2.1)))
 let c92:=(c48 !=(0:Int))
 let c93:=c36.2.1
 let c94:=(c93==(0:Int))
 let c95:=(cond c94 c94 true)
 let c98:=c41.2.2
 let c103:=(cond c94 ((c98.length:Int)==(0:Int)) false)
 let c109:=(!c92)
 let c112:=(c93==a1.2.1.2)
 let c113:=(cond c112 c112 true)
 let c116:=(withyref05_Ints_r c98 a1.2.2.2.2.2.2.2.2.1.1)
 let c123:=(cond c112 c116.2 false)
 let c139:=c29.2
 (((((((c17 && c17) && c17) && c17) && (cond c14 true c15)) && (cond c28 c30 true)) && (cond c33 (c34.1 && (c36.1 && (c39.1 && (c41.1 && (c43.1 && (((((((((c45.1 && (cond c53 (c53 && c53) true)) && (cond c52 true c53)) && (cond c62 (c62 && c62) true)) && (cond c61 true c62)) && (cond c71 (c71 && c71) true)) && (cond c70 true c71)) && (cond c81 (c81 && c81) true)) && (cond c80 true c81)) && (cond c91 ((cond c92 ((((c95 && c95) && c95) && (cond c103 c30 true)) && (cond c103 c103 true)) true) && (cond c109 (((((c113 && c113) && (cond c112 ((c112 && c112) && c116.1) true)) && c113) && (cond c123 c30 true)) && (cond c123 c123 true)) true)) true))))))) true)),((cond c33 (cond c91 (cond c109 (cond c123 c139 false) (cond c103 c139 false)) false) c139)))
def withylaw24_AskTells_e:Ent:=⟨3,[],[(.pure (.row (.prod (.int .i64) (.prod (.row (.prod (.int .i64) (.int .i64))) (.prod (.int .i64) (.prod (.int .i64) (.prod (.fl (.row (.prod (.int .i64) (.prod (.int .i64) (.prod (.int .i64) (.row (.prod (.int .i64) (.prod .bool (.prod .bool (.int .i64)))))))))) (.prod (.fl (.int .i64)) (.prod (.row (.prod (.fl (.int .i64)) (.fl (.row (.prod (.int .i64) (.prod (.int .i64) (.prod (.int .i64) (.prod (.int .i64) .bool)))))))) (.prod (.int .i64) (.prod (.row (.prod (.fl (.int .i64)) (.fl (.row (.prod (.int .i64) (.prod (.int .i64) (.prod (.int .i64) (.prod (.int .i64) .bool)))))))) (.prod (.int .i64) .bool))))))))))) (Ty.dflt _)),(.pure (.int .i64) (Ty.dflt _))],[],[(.pure .bool (Ty.dflt _))],[]⟩
noncomputable def withylaw24_AskTells:Fun:=⟨withylaw24_AskTells_e,fun x=>let r:=withylaw24_AskTells_r x.1 x.2.1; (r.1,(r.2,()))⟩
theorem withylaw24_AskTells_ev:evFun Try.prog [withylaw24_awake,withyref24_Check,ask_Leader,ask_Next,ask_Members,withyref24_Next,ask_Stable,withyref05_Ints] [] Try.f3 (codeOf Try.f3) withylaw24_AskTells_e=(withylaw24_AskTells).fn:=by kernel_rfl
theorem withylaw24_AskTells_ok:FunOk Try.prog (withylaw24_AskTells):=fun_ok (opers_ok (oks_cons withylaw24_awake_ok (oks_cons withyref24_Check_ok (oks_cons ask_Leader_ok (oks_cons ask_Next_ok (oks_cons ask_Members_ok (oks_cons withyref24_Next_ok (oks_cons ask_Stable_ok (oks_cons withyref05_Ints_ok oks_nil))))))))) Try.call3 Try.func3 (by kernel_rfl) fun x _=>(congrFun (withylaw24_AskTells_ev) x).symm
end Go.Proofs.Ytfeepbajipdfaaa.T
