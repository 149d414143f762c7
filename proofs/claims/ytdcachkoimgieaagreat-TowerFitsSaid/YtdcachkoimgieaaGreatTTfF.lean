/- What functions come to. -/
import Derived.Test.YtdcachkoimgieaaGreatTr4
import Derived.KernelRfl
import Derived.Lib.AppendZerosOnto
import Derived.Lib.Walk
import Derived.Lib.SliceRun
import Derived.Lib.Overlaps
import Derived.Laws.Externs
import Derived.Shelf.RegionOpenPlain
import Derived.WalkKit
import Derived.Test.YtdcachkoimgieaaGreatRows
namespace Go.Proofs.YtdcachkoimgieaaGreat.T
open Go.Vm Go.Tm
set_option linter.unusedVariables false
set_option maxRecDepth 100000
theorem k66_ok:FunOk Tryz.prog (cloneF 66 ((.row (.prod (.int .i64) (.prod (.int .i64) (.prod (.int .i64) (.row (.prod (.int .i64) (.prod .bool (.prod .bool (.int .i64)))))))))) 48):=clone_ok (fn:=Tryz.f66) (c:=codeOf Tryz.f66) (opers_ok oks_nil) Tryz.call66 Tryz.func66 (by kernel_rfl) (by kernel_rfl) (by kernel_rfl) (fun _ _=>by kernel_rfl)
theorem k67_ok:FunOk Tryz.prog (cloneF 67 (.int .i64) 8):=clone_ok (fn:=Tryz.f67) (c:=codeOf Tryz.f67) (opers_ok oks_nil) Tryz.call67 Tryz.func67 (by kernel_rfl) (by kernel_rfl) (by kernel_rfl) (fun _ _=>by kernel_rfl)
theorem k104_ok:FunOk Tryz.prog (cloneF 104 ((.row (.prod (.int .i64) (.prod (.int .i64) (.prod (.int .i64) (.prod (.int .i64) .bool)))))) 40):=clone_ok (fn:=Tryz.f104) (c:=codeOf Tryz.f104) (opers_ok oks_nil) Tryz.call104 Tryz.func104 (by kernel_rfl) (by kernel_rfl) (by kernel_rfl) (fun _ _=>by kernel_rfl)
open Go.RowKit Go.Lib in
set_option linter.unusedSimpArgs false in
set_option maxHeartbeats 4000000 in
set_option maxRecDepth 100000 in
theorem k134_run (n:Nat) (w:World) (hn:n*8≤140737488355328):Calls Tryz.prog 134 #[.slice none 0 0,.int .i64 (n:Int)] w fun e w'=>Room 1 w e w':=by
 have h1:¬ ((n:Int)<0):=by omega
 have h3:wrap64 (n:Int)=(n:Int):=by unfold wrap64; omega
 by_cases h0:n=0
 ·subst h0
  go_enter Tryz.func134,Tryz.ntmps134
  go_wp2
  all_goals (go_ret; exact .inl ⟨rfl,rfl⟩)
 ·have h4:(n:Int)>0:=by omega
  obtain ⟨i0,z0,hi0,hz0,hc0,hs0,hb0⟩:=kindOk_some (P:=Tryz.prog) (e:=3) (sz:=1) (k:=8) (by kernel_rfl)
  have hrz:∀ ty,(Builtin.append_ #[25,3] ty #[.slice none 0 0,.int .i64 (n:Int)]).run Tryz.prog w=_:=fun ty=>
   Lib.run_append_grow_zeros w 25 3 ty 3 i0 _ .i64 .i64 (by kernel_rfl) (by kernel_rfl) hi0 hz0 none 0 0 [] (run_firstCells_none w.drew i0.size 0 0 0) n (by omega) (by omega) (by omega) (by omega) (by rw [hb0]; omega)
    (growslice_fits (by omega) (by rw [hb0]; omega))
  have hGn:=grownCap_ge w (0+n) 0 3
  have hG63:grownCap w (0+n) 0 3≤9223372036854775807:=by
   have:=grownCap_le_maxLen w (0+n) 0 3 (by unfold maxLen; omega)
   unfold maxLen at this
   omega
  have hsz:([].toArray++Builtin.zeroCells z0.cells n++Builtin.zeroCells z0.cells (grownCap w (0+n) 0 3 - (0+n))).size=grownCap w (0+n) 0 3*1:=by
   simp only [Array.size_append,size_zeroCells,hc0,List.size_toArray,List.length_nil,← Nat.add_mul]
   omega
  generalize ([].toArray++Builtin.zeroCells z0.cells n++Builtin.zeroCells z0.cells (grownCap w (0+n) 0 3 - (0+n)))=arr at hrz hsz
  generalize grownCap w (0+n) 0 3=G at hrz hsz hGn hG63
  go_enter Tryz.func134,Tryz.ntmps134
  go_wp2_with (at_builtin; refine Lib.wpList_append_run _ rfl _ _ _ _ rfl _ _ rfl rfl _ _ (hrz _) ?_)
  all_goals (go_ret; exact .inr ⟨_,_,_,rfl,rfl,by rw [hsz]; exact Nat.le_refl _⟩)
theorem k134_ok:FunOk Tryz.prog (growF 134 (.int .i64) 8):=grow_ok (by decide) Tryz.call134 k134_run
open Go.RowKit Go.Lib in
set_option linter.unusedSimpArgs false in
set_option maxHeartbeats 4000000 in
set_option maxRecDepth 100000 in
theorem k135_run (n:Nat) (w:World) (hn:n*40≤140737488355328):Calls Tryz.prog 135 #[.slice none 0 0,.int .i64 (n:Int)] w fun e w'=>Room 5 w e w':=by
 have h1:¬ ((n:Int)<0):=by omega
 have h3:wrap64 (n:Int)=(n:Int):=by unfold wrap64; omega
 by_cases h0:n=0
 ·subst h0
  go_enter Tryz.func135,Tryz.ntmps135
  go_wp2
  all_goals (go_ret; exact .inl ⟨rfl,rfl⟩)
 ·have h4:(n:Int)>0:=by omega
  obtain ⟨i0,z0,hi0,hz0,hc0,hs0,hb0⟩:=kindOk_some (P:=Tryz.prog) (e:=84) (sz:=5) (k:=40) (by kernel_rfl)
  have hrz:∀ ty,(Builtin.append_ #[26,3] ty #[.slice none 0 0,.int .i64 (n:Int)]).run Tryz.prog w=_:=fun ty=>
   Lib.run_append_grow_zeros w 26 3 ty 84 i0 _ .i64 .i64 (by kernel_rfl) (by kernel_rfl) hi0 hz0 none 0 0 [] (run_firstCells_none w.drew i0.size 0 0 0) n (by omega) (by omega) (by omega) (by omega) (by rw [hb0]; omega)
    (growslice_fits (by omega) (by rw [hb0]; omega))
  have hGn:=grownCap_ge w (0+n) 0 84
  have hG63:grownCap w (0+n) 0 84≤9223372036854775807:=by
   have:=grownCap_le_maxLen w (0+n) 0 84 (by unfold maxLen; omega)
   unfold maxLen at this
   omega
  have hsz:([].toArray++Builtin.zeroCells z0.cells n++Builtin.zeroCells z0.cells (grownCap w (0+n) 0 84 - (0+n))).size=grownCap w (0+n) 0 84*5:=by
   simp only [Array.size_append,size_zeroCells,hc0,List.size_toArray,List.length_nil,← Nat.add_mul]
   omega
  generalize ([].toArray++Builtin.zeroCells z0.cells n++Builtin.zeroCells z0.cells (grownCap w (0+n) 0 84 - (0+n)))=arr at hrz hsz
  generalize grownCap w (0+n) 0 84=G at hrz hsz hGn hG63
  go_enter Tryz.func135,Tryz.ntmps135
  go_wp2_with (at_builtin; refine Lib.wpList_append_run _ rfl _ _ _ _ rfl _ _ rfl rfl _ _ (hrz _) ?_)
  all_goals (go_ret; exact .inr ⟨_,_,_,rfl,rfl,by rw [hsz]; exact Nat.le_refl _⟩)
theorem k135_ok:FunOk Tryz.prog (growF 135 ((.row (.prod (.int .i64) (.prod (.int .i64) (.prod (.int .i64) (.prod (.int .i64) .bool)))))) 40):=grow_ok (by decide) Tryz.call135 k135_run
def K0:List Fun:= [cloneF 66 ((.row (.prod (.int .i64) (.prod (.int .i64) (.prod (.int .i64) (.row (.prod (.int .i64) (.prod .bool (.prod .bool (.int .i64)))))))))) 48,cloneF 67 (.int .i64) 8,cloneF 104 ((.row (.prod (.int .i64) (.prod (.int .i64) (.prod (.int .i64) (.prod (.int .i64) .bool)))))) 40,growF 134 (.int .i64) 8,growF 135 ((.row (.prod (.int .i64) (.prod (.int .i64) (.prod (.int .i64) (.prod (.int .i64) .bool)))))) 40]
theorem K0_ok:∀ F∈K0,FunOk Tryz.prog F:=(oks_cons k66_ok (oks_cons k67_ok (oks_cons k104_ok (oks_cons k134_ok (oks_cons k135_ok oks_nil)))))
noncomputable def join_New_l0 (a1:Int) (s0:HL [.int .i64,.int .i64,(.fl (.int .i64)),(.fl (.int .i64)),(.fl (.int .i64))]):Bool × Bool × HL [.int .i64,.int .i64,(.fl (.int .i64)),(.fl (.int .i64)),(.fl (.int .i64))] × HL [.bool,.int .i64,(.fl (.int .i64)),(.fl (.int .i64)),(.fl (.int .i64))]:=
 let c15:=(decide (s0.1<(IntKind.i64.wrap (a1+(1:Int)))))
 let c19:=(s0.1::([]:List Int))
 let c20:=c19.length
 let c25:=((1:Int)::([]:List Int))
 ((cond c15 (((decide ((s0.2.2.1.length+c20)*8≤140737488355328)) && (decide ((s0.2.2.2.1.length+c25.length)*8≤140737488355328))) && (decide ((s0.2.2.2.2.1.length+c20)*8≤140737488355328))) true),c15,((IntKind.i64.wrap (s0.1+(1:Int))),s0.2.1,(s0.2.2.1++c19),(s0.2.2.2.1++c25),(s0.2.2.2.2.1++c19),()),((!c15),s0.2.1,s0.2.2.1,s0.2.2.2.1,s0.2.2.2.2.1,()))
noncomputable def join_New_r (a1:Int):Bool × (Int × Int × (List Int) × (List Int) × (List Int)):=
 let c2:=(decide (a1<(0:Int)))
 let c3:=(!c2)
 let c11:=(!(cond c2 true (decide (a1>(4096:Int)))))
 let c42:=(loopD 0 [.int .i64,.int .i64,(.fl (.int .i64)),(.fl (.int .i64)),(.fl (.int .i64))] [.bool,.int .i64,(.fl (.int .i64)),(.fl (.int .i64)),(.fl (.int .i64))] (join_New_l0 a1) ((0:Int),a1,([]:List Int),([]:List Int),([]:List Int),()))
 (((((cond c3 c3 true) && (cond c2 true c3)) && (cond c11 c42.1 true)) && (c11 && (c11 && (c11 && c11)))),((cond c11 (0:Int) (1:Int)),c42.2.2.1,c42.2.2.2.1,c42.2.2.2.2.1,c42.2.2.2.2.2.1))
def join_New_e:Ent:=⟨201,[],[(.pure (.int .i64) (Ty.dflt _))],[(0,(.var 243 (.row (.pair (.own 1 1) (.pair (.own 2 1) (.pair (.own 3 1) (.pure (.int .i64) (Ty.dflt _)))))))),(1,(.arr (.int .i64) [] false)),(2,(.arr (.int .i64) [] false)),(3,(.arr (.int .i64) [] false))],[(.ptr 0 []),(.pure (.int .i64) (Ty.dflt _))],[]⟩
noncomputable def join_New:Fun:=⟨join_New_e,fun x=>let r:=join_New_r x.1; (r.1,(r.2.1,r.2.2.1,r.2.2.2.1,r.2.2.2.2.1,r.2.2.2.2.2,()))⟩
theorem join_New_ev:evFun Tryz.prog [] [⟨[17],[640],⟨[],[(640,⟨.tt,(.var 243 (.row (.pair (.own 1729 1) (.pair (.own 2113 1) (.pair (.own 2561 1) (.pure (.int .i64) (Ty.dflt _)))))))⟩),(1729,⟨.tt,(.arr (.int .i64) [] false)⟩),(2113,⟨.tt,(.arr (.int .i64) [] false)⟩),(2561,⟨.tt,(.arr (.int .i64) [] false)⟩)],0⟩,[],[640],[(1,[]),(2,[])],[]⟩,⟨[],[],⟨[],[],0⟩,[],[],[],[(1000003,([17],[]))]⟩] Tryz.f201 (codeOf Tryz.f201) join_New_e=(join_New).fn:=by kernel_rfl
theorem join_New_ok:FunOk Tryz.prog (join_New):=fun_ok (opers_ok oks_nil) Tryz.call201 Tryz.func201 (by kernel_rfl) fun x _=>(congrFun (join_New_ev) x).symm
theorem names:NamesOk Tryz.prog:=names_ok (by kernel_rfl)
theorem jl:loopD 0 [.int .i64,.int .i64,(.fl (.int .i64)),(.fl (.int .i64)),(.fl (.int .i64))] [.bool,.int .i64,(.fl (.int .i64)),(.fl (.int .i64)),(.fl (.int .i64))] (join_New_l0 64) ((0:Int),(64:Int),([]:List Int),([]:List Int),([]:List Int),())=(true,(true,(64:Int),(List.range 65).map Int.ofNat,List.replicate 65 (1:Int),(List.range 65).map Int.ofNat,())):=runLoop_ok 70 _ _ (by kernel_rfl)
theorem jn:join_New_r 64=(true,((0:Int),(64:Int),(List.range 65).map Int.ofNat,List.replicate 65 (1:Int),(List.range 65).map Int.ofNat)):=by
 unfold join_New_r
 dsimp only
 rw [jl]
 rfl
theorem jf:join_New.fn ((64:Int),())=(true,((0:Int),(64:Int),(List.range 65).map Int.ofNat,List.replicate 65 (1:Int),(List.range 65).map Int.ofNat,())):=by
 have h:join_New.fn ((64:Int),())=((join_New_r 64).1,((join_New_r 64).2.1,(join_New_r 64).2.2.1,(join_New_r 64).2.2.2.1,(join_New_r 64).2.2.2.2.1,(join_New_r 64).2.2.2.2.2,())):=rfl
 rw [h,jn]
noncomputable def joinNew:Fun:=atFun join_New.e ((64:Int),()) ((0:Int),(64:Int),(List.range 65).map Int.ofNat,List.replicate 65 (1:Int),(List.range 65).map Int.ofNat,())
theorem joinNew_ok:FunOk Tryz.prog joinNew:=at_ok join_New_ok jf
noncomputable def K1:List Fun:=joinNew::K0
theorem K1_ok:∀ F∈K1,FunOk Tryz.prog F:=oks_cons joinNew_ok K0_ok
noncomputable def withylaw27_awake_r:Bool × Bool:=(true,true)
noncomputable def withylaw27_awake:Fun:=⟨⟨25,[],[],[],[.pure .bool (Ty.dflt _)],[]⟩,fun x=>let r:=withylaw27_awake_r; (r.1,(r.2,()))⟩
theorem withylaw27_awake_ok:FunOk Tryz.prog withylaw27_awake:=run_ok K1_ok names 1000 60 (fn:=Tryz.f25) (c:=codeOf Tryz.f25) Tryz.call25 Tryz.func25 (by kernel_rfl) (by kernel_rfl)
noncomputable def withylaw27_light_l0 (a1:(List (Int × (Int × ((List (Int × ((Int × Int) × (((List Int) × (List (Int × (Int × (Int × (Int × Bool)))))) × (Int × (Int × (Int × Int))))))) × (List (Int × ((Int × Int) × (((List Int) × (List (Int × (Int × (Int × (Int × Bool)))))) × (Int × (Int × (Int × Int)))))))))))) (s0:HL [.int .i64]):Bool × Bool × HL [.int .i64] × HL [.bool,.bool,.bool]:=
 let c4:=(decide (s0.1<(a1.length:Int)))
 let c6:=(cond c4 c4 true)
 let c11:=(cond c4 (decide (s0.1<(60:Int))) false)
 let c13:=(Int.toNat s0.1)
 let c14:=(decide (c13<a1.length))
 let c15:=((decide ((0:Int)≤s0.1)) && c14)
 let c19:=((a1[c13]?).getD ((0:Int),((0:Int),(([]:List (Int × ((Int × Int) × (((List Int) × (List (Int × (Int × (Int × (Int × Bool)))))) × (Int × (Int × (Int × Int))))))),([]:List (Int × ((Int × Int) × (((List Int) × (List (Int × (Int × (Int × (Int × Bool)))))) × (Int × (Int × (Int × Int))))))))))).2.2
 let c23:=(decide ((c19.1.length:Int)>(60:Int)))
 let c24:=(!c23)
 let c29:=(cond c24 c24 true)
 let c44:=(cond c23 true (decide ((c19.2.length:Int)>(60:Int))))
 (((c6 && c6) && (cond c11 (((((((c15 && c14) && (cond c24 (c24 && (c24 && c15)) true)) && c29) && (cond c24 (c24 && c14) true)) && c29) && c29) && (cond c23 true c24)) true)),(c11 && (!c44)),((IntKind.i64.wrap (s0.1+(1:Int))),()),((c11 && c44),false,(!c11),()))
noncomputable def withylaw27_light_r (a1:(List (Int × (Int × ((List (Int × ((Int × Int) × (((List Int) × (List (Int × (Int × (Int × (Int × Bool)))))) × (Int × (Int × (Int × Int))))))) × (List (Int × ((Int × Int) × (((List Int) × (List (Int × (Int × (Int × (Int × Bool)))))) × (Int × (Int × (Int × Int)))))))))))):Bool × (Bool):=
 let c52:=(loopD 0 [.int .i64] [.bool,.bool,.bool] (withylaw27_light_l0 a1) ((0:Int),()))
 (c52.1,((cond c52.2.2.2.1 (decide ((a1.length:Int)≤(60:Int))) c52.2.2.1)))
def withylaw27_light_e:Ent:=⟨28,[],[(.pure (.fl (.row (.prod (.int .i64) (.prod (.int .i64) (.prod (.fl (.row (.prod (.int .i64) (.prod (.row (.prod (.int .i64) (.int .i64))) (.prod (.row (.prod (.fl (.int .i64)) (.fl (.row (.prod (.int .i64) (.prod (.int .i64) (.prod (.int .i64) (.prod (.int .i64) .bool)))))))) (.row (.prod (.int .i64) (.prod (.int .i64) (.prod (.int .i64) (.int .i64)))))))))) (.fl (.row (.prod (.int .i64) (.prod (.row (.prod (.int .i64) (.int .i64))) (.prod (.row (.prod (.fl (.int .i64)) (.fl (.row (.prod (.int .i64) (.prod (.int .i64) (.prod (.int .i64) (.prod (.int .i64) .bool)))))))) (.row (.prod (.int .i64) (.prod (.int .i64) (.prod (.int .i64) (.int .i64))))))))))))))) (Ty.dflt _))],[],[(.pure .bool (Ty.dflt _))],[]⟩
noncomputable def withylaw27_light:Fun:=⟨withylaw27_light_e,fun x=>let r:=withylaw27_light_r x.1; (r.1,(r.2,()))⟩
theorem withylaw27_light_ev:evFun Tryz.prog [] [⟨[3],[],⟨[],[],0⟩,[],[],[(1,[2]),(2,[])],[]⟩,⟨[],[],⟨[],[],0⟩,[],[],[],[(1000003,([3],[]))]⟩] Tryz.f28 (codeOf Tryz.f28) withylaw27_light_e=(withylaw27_light).fn:=by kernel_rfl
theorem withylaw27_light_ok:FunOk Tryz.prog (withylaw27_light):=fun_ok (opers_ok oks_nil) Tryz.call28 Tryz.func28 (by kernel_rfl) fun x _=>(congrFun (withylaw27_light_ev) x).symm
noncomputable def tower_Fits_1_r (a1:(Int × (Int × ((List (Int × ((Int × Int) × (((List Int) × (List (Int × (Int × (Int × (Int × Bool)))))) × (Int × (Int × (Int × Int))))))) × (List (Int × ((Int × Int) × (((List Int) × (List (Int × (Int × (Int × (Int × Bool)))))) × (Int × (Int × (Int × Int))))))))))) (a2:Int) (a3:(Int × (Int × ((List (Int × ((Int × Int) × (((List Int) × (List (Int × (Int × (Int × (Int × Bool)))))) × (Int × (Int × (Int × Int))))))) × (List (Int × ((Int × Int) × (((List Int) × (List (Int × (Int × (Int × (Int × Bool)))))) × (Int × (Int × (Int × Int))))))))))):Bool × (Bool):=
 let c3:=(a1.1==a2)
 let c5:=(cond c3 c3 true)
 ((((c5 && c5) && (cond c3 (c3 && c3) true)) && c5),((cond c3 (a1.2.1==a3.2.1) false)))
def tower_Fits_1_e:Ent:=⟨59,[(0,(.var 3 (.pure (.int .i64) (Ty.dflt _)))),(1,(.var 100 (.pure (.row (.prod (.int .i64) (.prod (.int .i64) (.prod (.fl (.row (.prod (.int .i64) (.prod (.row (.prod (.int .i64) (.int .i64))) (.prod (.row (.prod (.fl (.int .i64)) (.fl (.row (.prod (.int .i64) (.prod (.int .i64) (.prod (.int .i64) (.prod (.int .i64) .bool)))))))) (.row (.prod (.int .i64) (.prod (.int .i64) (.prod (.int .i64) (.int .i64)))))))))) (.fl (.row (.prod (.int .i64) (.prod (.row (.prod (.int .i64) (.int .i64))) (.prod (.row (.prod (.fl (.int .i64)) (.fl (.row (.prod (.int .i64) (.prod (.int .i64) (.prod (.int .i64) (.prod (.int .i64) .bool)))))))) (.row (.prod (.int .i64) (.prod (.int .i64) (.prod (.int .i64) (.int .i64)))))))))))))) (Ty.dflt _))))],[(.pure (.row (.prod (.int .i64) (.prod (.int .i64) (.prod (.fl (.row (.prod (.int .i64) (.prod (.row (.prod (.int .i64) (.int .i64))) (.prod (.row (.prod (.fl (.int .i64)) (.fl (.row (.prod (.int .i64) (.prod (.int .i64) (.prod (.int .i64) (.prod (.int .i64) .bool)))))))) (.row (.prod (.int .i64) (.prod (.int .i64) (.prod (.int .i64) (.int .i64)))))))))) (.fl (.row (.prod (.int .i64) (.prod (.row (.prod (.int .i64) (.int .i64))) (.prod (.row (.prod (.fl (.int .i64)) (.fl (.row (.prod (.int .i64) (.prod (.int .i64) (.prod (.int .i64) (.prod (.int .i64) .bool)))))))) (.row (.prod (.int .i64) (.prod (.int .i64) (.prod (.int .i64) (.int .i64)))))))))))))) (Ty.dflt _)),(.ptr 0 []),(.ptr 1 [])],[],[(.pure .bool (Ty.dflt _))],[0,1]⟩
noncomputable def tower_Fits_1:Fun:=⟨tower_Fits_1_e,fun x=>let r:=tower_Fits_1_r x.1 x.2.1 x.2.2.1; (r.1,(r.2,()))⟩
theorem tower_Fits_1_ev:evFun Tryz.prog [] [] Tryz.f59 (codeOf Tryz.f59) tower_Fits_1_e=(tower_Fits_1).fn:=by kernel_rfl
theorem tower_Fits_1_ok:FunOk Tryz.prog (tower_Fits_1):=fun_ok (opers_ok oks_nil) Tryz.call59 Tryz.func59 (by kernel_rfl) fun x _=>(congrFun (tower_Fits_1_ev) x).symm
noncomputable def slices_IndexFunc_api_Way_l0 (a1:(List (Int × (Int × ((List (Int × ((Int × Int) × (((List Int) × (List (Int × (Int × (Int × (Int × Bool)))))) × (Int × (Int × (Int × Int))))))) × (List (Int × ((Int × Int) × (((List Int) × (List (Int × (Int × (Int × (Int × Bool)))))) × (Int × (Int × (Int × Int)))))))))))) (a2:Unit) (a3:Int) (a4:(Int × (Int × ((List (Int × ((Int × Int) × (((List Int) × (List (Int × (Int × (Int × (Int × Bool)))))) × (Int × (Int × (Int × Int))))))) × (List (Int × ((Int × Int) × (((List Int) × (List (Int × (Int × (Int × (Int × Bool)))))) × (Int × (Int × (Int × Int))))))))))) (s0:HL [.int .i64]):Bool × Bool × HL [.int .i64] × HL [.bool,.int .i64,.bool]:=
 let c4:=(decide (s0.1<(a1.length:Int)))
 let c6:=(Int.toNat s0.1)
 let c7:=(decide (c6<a1.length))
 let c13:=(tower_Fits_1_r ((a1[c6]?).getD ((0:Int),((0:Int),(([]:List (Int × ((Int × Int) × (((List Int) × (List (Int × (Int × (Int × (Int × Bool)))))) × (Int × (Int × (Int × Int))))))),([]:List (Int × ((Int × Int) × (((List Int) × (List (Int × (Int × (Int × (Int × Bool)))))) × (Int × (Int × (Int × Int))))))))))) a3 a4)
 let c18:=c13.2
 ((cond c4 ((((decide ((0:Int)≤s0.1)) && c7) && c7) && c13.1) true),(c4 && (!c18)),((IntKind.i64.wrap (s0.1+(1:Int))),()),((c4 && c18),s0.1,(!c4),()))
noncomputable def slices_IndexFunc_api_Way_r (a1:(List (Int × (Int × ((List (Int × ((Int × Int) × (((List Int) × (List (Int × (Int × (Int × (Int × Bool)))))) × (Int × (Int × (Int × Int))))))) × (List (Int × ((Int × Int) × (((List Int) × (List (Int × (Int × (Int × (Int × Bool)))))) × (Int × (Int × (Int × Int)))))))))))) (a2:Unit) (a3:Int) (a4:(Int × (Int × ((List (Int × ((Int × Int) × (((List Int) × (List (Int × (Int × (Int × (Int × Bool)))))) × (Int × (Int × (Int × Int))))))) × (List (Int × ((Int × Int) × (((List Int) × (List (Int × (Int × (Int × (Int × Bool)))))) × (Int × (Int × (Int × Int))))))))))):Bool × (Int):=
 let c26:=(loopD 0 [.int .i64] [.bool,.int .i64,.bool] (slices_IndexFunc_api_Way_l0 a1 a2 a3 a4) ((0:Int),()))
 (c26.1,((cond c26.2.2.2.1 (-1:Int) c26.2.2.1)))
def slices_IndexFunc_api_Way_e:Ent:=⟨58,[(0,(.var 3 (.pure (.int .i64) (Ty.dflt _)))),(1,(.var 100 (.pure (.row (.prod (.int .i64) (.prod (.int .i64) (.prod (.fl (.row (.prod (.int .i64) (.prod (.row (.prod (.int .i64) (.int .i64))) (.prod (.row (.prod (.fl (.int .i64)) (.fl (.row (.prod (.int .i64) (.prod (.int .i64) (.prod (.int .i64) (.prod (.int .i64) .bool)))))))) (.row (.prod (.int .i64) (.prod (.int .i64) (.prod (.int .i64) (.int .i64)))))))))) (.fl (.row (.prod (.int .i64) (.prod (.row (.prod (.int .i64) (.int .i64))) (.prod (.row (.prod (.fl (.int .i64)) (.fl (.row (.prod (.int .i64) (.prod (.int .i64) (.prod (.int .i64) (.prod (.int .i64) .bool)))))))) (.row (.prod (.int .i64) (.prod (.int .i64) (.prod (.int .i64) (.int .i64)))))))))))))) (Ty.dflt _))))],[(.pure (.fl (.row (.prod (.int .i64) (.prod (.int .i64) (.prod (.fl (.row (.prod (.int .i64) (.prod (.row (.prod (.int .i64) (.int .i64))) (.prod (.row (.prod (.fl (.int .i64)) (.fl (.row (.prod (.int .i64) (.prod (.int .i64) (.prod (.int .i64) (.prod (.int .i64) .bool)))))))) (.row (.prod (.int .i64) (.prod (.int .i64) (.prod (.int .i64) (.int .i64)))))))))) (.fl (.row (.prod (.int .i64) (.prod (.row (.prod (.int .i64) (.int .i64))) (.prod (.row (.prod (.fl (.int .i64)) (.fl (.row (.prod (.int .i64) (.prod (.int .i64) (.prod (.int .i64) (.prod (.int .i64) .bool)))))))) (.row (.prod (.int .i64) (.prod (.int .i64) (.prod (.int .i64) (.int .i64))))))))))))))) (Ty.dflt _)),(.fn 59 (.pair (.ptr 0 []) (.pair (.ptr 1 []) (.pure .unit (Ty.dflt _)))))],[],[(.pure (.int .i64) (Ty.dflt _))],[0,1]⟩
noncomputable def slices_IndexFunc_api_Way:Fun:=⟨slices_IndexFunc_api_Way_e,fun x=>let r:=slices_IndexFunc_api_Way_r x.1 x.2.1 x.2.2.1 x.2.2.2.1; (r.1,(r.2,()))⟩
theorem slices_IndexFunc_api_Way_ev:evFun Tryz.prog [tower_Fits_1] [⟨[8],[],⟨[],[],0⟩,[],[],[(1,[4]),(2,[])],[]⟩,⟨[],[],⟨[],[],0⟩,[],[],[],[(1000003,([8],[]))]⟩] Tryz.f58 (codeOf Tryz.f58) slices_IndexFunc_api_Way_e=(slices_IndexFunc_api_Way).fn:=by kernel_rfl
theorem slices_IndexFunc_api_Way_ok:FunOk Tryz.prog (slices_IndexFunc_api_Way):=fun_ok (opers_ok (oks_cons tower_Fits_1_ok oks_nil)) Tryz.call58 Tryz.func58 (by kernel_rfl) fun x _=>(congrFun (slices_IndexFunc_api_Way_ev) x).symm
noncomputable def slices_Equal_int_l0 (a1:(List Int)) (a2:(List Int)) (s0:HL [.int .i64]):Bool × Bool × HL [.int .i64] × HL [.bool,.bool,.bool]:=
 let c9:=(decide (s0.1<(a1.length:Int)))
 let c10:=(decide ((0:Int)≤s0.1))
 let c11:=(Int.toNat s0.1)
 let c12:=(decide (c11<a1.length))
 let c15:=(decide (c11<a2.length))
 let c23:=(((a1[c11]?).getD (0:Int)) !=((a2[c11]?).getD (0:Int)))
 ((cond c9 ((((c10 && c12) && c12) && (c10 && c15)) && c15) true),(c9 && (!c23)),((IntKind.i64.wrap (s0.1+(1:Int))),()),((c9 && c23),false,(!c9),()))
noncomputable def slices_Equal_int_r (a1:(List Int)) (a2:(List Int)):Bool × (Bool):=
 let c7:=(!((a1.length:Int) !=(a2.length:Int)))
 let c32:=(loopD 0 [.int .i64] [.bool,.bool,.bool] (slices_Equal_int_l0 a1 a2) ((0:Int),()))
 ((cond c7 c32.1 true),((cond c7 (cond c32.2.2.2.1 true c32.2.2.1) false)))
def slices_Equal_int_e:Ent:=⟨51,[],[(.pure (.fl (.int .i64)) (Ty.dflt _)),(.pure (.fl (.int .i64)) (Ty.dflt _))],[],[(.pure .bool (Ty.dflt _))],[]⟩
noncomputable def slices_Equal_int:Fun:=⟨slices_Equal_int_e,fun x=>let r:=slices_Equal_int_r x.1 x.2.1; (r.1,(r.2,()))⟩
theorem slices_Equal_int_ev:evFun Tryz.prog [] [⟨[13],[],⟨[],[],0⟩,[],[],[(1,[4]),(2,[])],[]⟩,⟨[],[],⟨[],[],0⟩,[],[],[],[(1000003,([13],[]))]⟩] Tryz.f51 (codeOf Tryz.f51) slices_Equal_int_e=(slices_Equal_int).fn:=by kernel_rfl
theorem slices_Equal_int_ok:FunOk Tryz.prog (slices_Equal_int):=fun_ok (opers_ok oks_nil) Tryz.call51 Tryz.func51 (by kernel_rfl) fun x _=>(congrFun (slices_Equal_int_ev) x).symm
noncomputable def slices_Equal_api_Known_l0 (a1:(List (Int × (Int × (Int × (Int × Bool)))))) (a2:(List (Int × (Int × (Int × (Int × Bool)))))) (s0:HL [.int .i64]):Bool × Bool × HL [.int .i64] × HL [.bool,.bool,.bool]:=
 let c9:=(decide (s0.1<(a1.length:Int)))
 let c10:=(decide ((0:Int)≤s0.1))
 let c11:=(Int.toNat s0.1)
 let c12:=(decide (c11<a1.length))
 let c15:=(decide (c11<a2.length))
 let c21:=((a1[c11]?).getD ((0:Int),((0:Int),((0:Int),((0:Int),false)))))
 let c23:=((a2[c11]?).getD ((0:Int),((0:Int),((0:Int),((0:Int),false)))))
 let c26:=c21.2
 let c28:=c23.2
 let c31:=c26.2
 let c33:=c28.2
 let c36:=c31.2
 let c38:=c33.2
 let c48:=(!((c21.1==c23.1) && ((c26.1==c28.1) && ((c31.1==c33.1) && ((c36.1==c38.1) && (c36.2==c38.2))))))
 ((cond c9 ((((c10 && c12) && c12) && (c10 && c15)) && c15) true),(c9 && (!c48)),((IntKind.i64.wrap (s0.1+(1:Int))),()),((c9 && c48),false,(!c9),()))
noncomputable def slices_Equal_api_Known_r (a1:(List (Int × (Int × (Int × (Int × Bool)))))) (a2:(List (Int × (Int × (Int × (Int × Bool)))))):Bool × (Bool):=
 let c7:=(!((a1.length:Int) !=(a2.length:Int)))
 let c57:=(loopD 0 [.int .i64] [.bool,.bool,.bool] (slices_Equal_api_Known_l0 a1 a2) ((0:Int),()))
 ((cond c7 c57.1 true),((cond c7 (cond c57.2.2.2.1 true c57.2.2.1) false)))
def slices_Equal_api_Known_e:Ent:=⟨101,[],[(.pure (.fl (.row (.prod (.int .i64) (.prod (.int .i64) (.prod (.int .i64) (.prod (.int .i64) .bool)))))) (Ty.dflt _)),(.pure (.fl (.row (.prod (.int .i64) (.prod (.int .i64) (.prod (.int .i64) (.prod (.int .i64) .bool)))))) (Ty.dflt _))],[],[(.pure .bool (Ty.dflt _))],[]⟩
noncomputable def slices_Equal_api_Known:Fun:=⟨slices_Equal_api_Known_e,fun x=>let r:=slices_Equal_api_Known_r x.1 x.2.1; (r.1,(r.2,()))⟩
theorem slices_Equal_api_Known_ev:evFun Tryz.prog [] [⟨[13],[],⟨[],[],0⟩,[],[],[(1,[4]),(2,[])],[]⟩,⟨[],[],⟨[],[],0⟩,[],[],[],[(1000003,([13],[]))]⟩] Tryz.f101 (codeOf Tryz.f101) slices_Equal_api_Known_e=(slices_Equal_api_Known).fn:=by kernel_rfl
theorem slices_Equal_api_Known_ok:FunOk Tryz.prog (slices_Equal_api_Known):=fun_ok (opers_ok oks_nil) Tryz.call101 Tryz.func101 (by kernel_rfl) fun x _=>(congrFun (slices_Equal_api_Known_ev) x).symm
noncomputable def view_Same_r (a1:((List Int) × (List (Int × (Int × (Int × (Int × Bool))))))) (a2:((List Int) × (List (Int × (Int × (Int × (Int × Bool))))))):Bool × (Bool):=
 let c4:=(slices_Equal_int_r a1.1 a2.1)
 let c6:=c4.2
 let c8:=(cond c6 c6 true)
 let c14:=(slices_Equal_api_Known_r a1.2 a2.2)
 (((((c4.1 && c8) && c8) && (cond c6 ((c6 && c6) && c14.1) true)) && c8),((cond c6 c14.2 false)))
def view_Same_e:Ent:=⟨52,[],[(.pure (.row (.prod (.fl (.int .i64)) (.fl (.row (.prod (.int .i64) (.prod (.int .i64) (.prod (.int .i64) (.prod (.int .i64) .bool)))))))) (Ty.dflt _)),(.pure (.row (.prod (.fl (.int .i64)) (.fl (.row (.prod (.int .i64) (.prod (.int .i64) (.prod (.int .i64) (.prod (.int .i64) .bool)))))))) (Ty.dflt _))],[],[(.pure .bool (Ty.dflt _))],[]⟩
noncomputable def view_Same:Fun:=⟨view_Same_e,fun x=>let r:=view_Same_r x.1 x.2.1; (r.1,(r.2,()))⟩
theorem view_Same_ev:evFun Tryz.prog [slices_Equal_int,slices_Equal_api_Known] [] Tryz.f52 (codeOf Tryz.f52) view_Same_e=(view_Same).fn:=by kernel_rfl
theorem view_Same_ok:FunOk Tryz.prog (view_Same):=fun_ok (opers_ok (oks_cons slices_Equal_int_ok (oks_cons slices_Equal_api_Known_ok oks_nil))) Tryz.call52 Tryz.func52 (by kernel_rfl) fun x _=>(congrFun (view_Same_ev) x).symm
noncomputable def word_Same_r (a1:(Int × ((Int × Int) × (((List Int) × (List (Int × (Int × (Int × (Int × Bool)))))) × (Int × (Int × (Int × Int))))))) (a2:(Int × ((Int × Int) × (((List Int) × (List (Int × (Int × (Int × (Int × Bool)))))) × (Int × (Int × (Int × Int))))))):Bool × (Bool):=
 let c4:=(a1.1==a2.1)
 let c6:=(cond c4 c4 true)
 let c24:=(cond c4 ((a1.2.1.1==a2.2.1.1) && (a1.2.1.2==a2.2.1.2)) false)
 let c25:=(cond c24 c24 true)
 let c55:=(cond c24 ((a1.2.2.2.1==a2.2.2.2.1) && ((a1.2.2.2.2.1==a2.2.2.2.2.1) && ((a1.2.2.2.2.2.1==a2.2.2.2.2.2.1) && (a1.2.2.2.2.2.2==a2.2.2.2.2.2.2)))) false)
 let c56:=(cond c55 c55 true)
 let c62:=(view_Same_r a1.2.2.1 a2.2.2.1)
 ((((((((((((c6 && c6) && (cond c4 (c4 && c4) true)) && c6) && c25) && c25) && (cond c24 (c24 && c24) true)) && c25) && c56) && c56) && (cond c55 ((c55 && c55) && c62.1) true)) && c56),((cond c55 c62.2 false)))
def word_Same_e:Ent:=⟨61,[],[(.pure (.row (.prod (.int .i64) (.prod (.row (.prod (.int .i64) (.int .i64))) (.prod (.row (.prod (.fl (.int .i64)) (.fl (.row (.prod (.int .i64) (.prod (.int .i64) (.prod (.int .i64) (.prod (.int .i64) .bool)))))))) (.row (.prod (.int .i64) (.prod (.int .i64) (.prod (.int .i64) (.int .i64))))))))) (Ty.dflt _)),(.pure (.row (.prod (.int .i64) (.prod (.row (.prod (.int .i64) (.int .i64))) (.prod (.row (.prod (.fl (.int .i64)) (.fl (.row (.prod (.int .i64) (.prod (.int .i64) (.prod (.int .i64) (.prod (.int .i64) .bool)))))))) (.row (.prod (.int .i64) (.prod (.int .i64) (.prod (.int .i64) (.int .i64))))))))) (Ty.dflt _))],[],[(.pure .bool (Ty.dflt _))],[]⟩
noncomputable def word_Same:Fun:=⟨word_Same_e,fun x=>let r:=word_Same_r x.1 x.2.1; (r.1,(r.2,()))⟩
theorem word_Same_ev:evFun Tryz.prog [view_Same] [] Tryz.f61 (codeOf Tryz.f61) word_Same_e=(word_Same).fn:=by kernel_rfl
theorem word_Same_ok:FunOk Tryz.prog (word_Same):=fun_ok (opers_ok (oks_cons view_Same_ok oks_nil)) Tryz.call61 Tryz.func61 (by kernel_rfl) fun x _=>(congrFun (word_Same_ev) x).symm
noncomputable def slices_EqualFunc_api_Word_l0 (a1:(List (Int × ((Int × Int) × (((List Int) × (List (Int × (Int × (Int × (Int × Bool)))))) × (Int × (Int × (Int × Int)))))))) (a2:(List (Int × ((Int × Int) × (((List Int) × (List (Int × (Int × (Int × (Int × Bool)))))) × (Int × (Int × (Int × Int)))))))) (a3:Unit) (s0:HL [.int .i64]):Bool × Bool × HL [.int .i64] × HL [.bool,.bool,.bool]:=
 let c9:=(decide (s0.1<(a1.length:Int)))
 let c10:=(decide ((0:Int)≤s0.1))
 let c11:=(Int.toNat s0.1)
 let c12:=(decide (c11<a1.length))
 let c15:=(decide (c11<a2.length))
 let c20:=(word_Same_r ((a1[c11]?).getD ((0:Int),(((0:Int),(0:Int)),((([]:List Int),([]:List (Int × (Int × (Int × (Int × Bool)))))),((0:Int),((0:Int),((0:Int),(0:Int)))))))) ((a2[c11]?).getD ((0:Int),(((0:Int),(0:Int)),((([]:List Int),([]:List (Int × (Int × (Int × (Int × Bool)))))),((0:Int),((0:Int),((0:Int),(0:Int)))))))))
 let c27:=(!c20.2)
 ((cond c9 (((c10 && c12) && c12) && (((c10 && c15) && c15) && c20.1)) true),(c9 && (!c27)),((IntKind.i64.wrap (s0.1+(1:Int))),()),((c9 && c27),false,(!c9),()))
noncomputable def slices_EqualFunc_api_Word_r (a1:(List (Int × ((Int × Int) × (((List Int) × (List (Int × (Int × (Int × (Int × Bool)))))) × (Int × (Int × (Int × Int)))))))) (a2:(List (Int × ((Int × Int) × (((List Int) × (List (Int × (Int × (Int × (Int × Bool)))))) × (Int × (Int × (Int × Int)))))))) (a3:Unit):Bool × (Bool):=
 let c7:=(!((a1.length:Int) !=(a2.length:Int)))
 let c36:=(loopD 0 [.int .i64] [.bool,.bool,.bool] (slices_EqualFunc_api_Word_l0 a1 a2 a3) ((0:Int),()))
 ((cond c7 c36.1 true),((cond c7 (cond c36.2.2.2.1 true c36.2.2.1) false)))
def slices_EqualFunc_api_Word_e:Ent:=⟨60,[],[(.pure (.fl (.row (.prod (.int .i64) (.prod (.row (.prod (.int .i64) (.int .i64))) (.prod (.row (.prod (.fl (.int .i64)) (.fl (.row (.prod (.int .i64) (.prod (.int .i64) (.prod (.int .i64) (.prod (.int .i64) .bool)))))))) (.row (.prod (.int .i64) (.prod (.int .i64) (.prod (.int .i64) (.int .i64)))))))))) (Ty.dflt _)),(.pure (.fl (.row (.prod (.int .i64) (.prod (.row (.prod (.int .i64) (.int .i64))) (.prod (.row (.prod (.fl (.int .i64)) (.fl (.row (.prod (.int .i64) (.prod (.int .i64) (.prod (.int .i64) (.prod (.int .i64) .bool)))))))) (.row (.prod (.int .i64) (.prod (.int .i64) (.prod (.int .i64) (.int .i64)))))))))) (Ty.dflt _)),(.fn 61 (.pure .unit (Ty.dflt _)))],[],[(.pure .bool (Ty.dflt _))],[]⟩
noncomputable def slices_EqualFunc_api_Word:Fun:=⟨slices_EqualFunc_api_Word_e,fun x=>let r:=slices_EqualFunc_api_Word_r x.1 x.2.1 x.2.2.1; (r.1,(r.2,()))⟩
theorem slices_EqualFunc_api_Word_ev:evFun Tryz.prog [word_Same] [⟨[17],[],⟨[],[],0⟩,[],[],[(1,[6]),(2,[])],[]⟩,⟨[],[],⟨[],[],0⟩,[],[],[],[(1000003,([17],[]))]⟩] Tryz.f60 (codeOf Tryz.f60) slices_EqualFunc_api_Word_e=(slices_EqualFunc_api_Word).fn:=by kernel_rfl
theorem slices_EqualFunc_api_Word_ok:FunOk Tryz.prog (slices_EqualFunc_api_Word):=fun_ok (opers_ok (oks_cons word_Same_ok oks_nil)) Tryz.call60 Tryz.func60 (by kernel_rfl) fun x _=>(congrFun (slices_EqualFunc_api_Word_ev) x).symm
noncomputable def tower_Fits_l0 (a1:Int) (a2:(List (Int × (Int × ((List (Int × ((Int × Int) × (((List Int) × (List (Int × (Int × (Int × (Int × Bool)))))) × (Int × (Int × (Int × Int))))))) × (List (Int × ((Int × Int) × (((List Int) × (List (Int × (Int × (Int × (Int × Bool)))))) × (Int × (Int × (Int × Int)))))))))))) (a3:Int) (a4:(List (Int × (Int × ((List (Int × ((Int × Int) × (((List Int) × (List (Int × (Int × (Int × (Int × Bool)))))) × (Int × (Int × (Int × Int))))))) × (List (Int × ((Int × Int) × (((List Int) × (List (Int × (Int × (Int × (Int × Bool)))))) × (Int × (Int × (Int × Int)))))))))))) (s0:HL [.int .i64]):Bool × Bool × HL [.int .i64] × HL [.bool,.bool,.bool]:=
 let c4:=(decide (s0.1<(a2.length:Int)))
 let c6:=(Int.toNat s0.1)
 let c7:=(decide (c6<a2.length))
 let c10:=((a2[c6]?).getD ((0:Int),((0:Int),(([]:List (Int × ((Int × Int) × (((List Int) × (List (Int × (Int × (Int × (Int × Bool)))))) × (Int × (Int × (Int × Int))))))),([]:List (Int × ((Int × Int) × (((List Int) × (List (Int × (Int × (Int × (Int × Bool)))))) × (Int × (Int × (Int × Int)))))))))))
 let c13:=(c10.1 !=a3)
 let c14:=(!c13)
 let c18:=(slices_IndexFunc_api_Way_r a4 () a1 c10)
 let c20:=c18.2
 let c22:=(decide (c20≥(0:Int)))
 let c24:=(Int.toNat c20)
 let c26:=(decide (c24<a4.length))
 let c34:=c10.2.2.2
 let c36:=(c34.length:Int)
 let c42:=(cond c22 ((a4[c24]?).getD ((0:Int),((0:Int),(([]:List (Int × ((Int × Int) × (((List Int) × (List (Int × (Int × (Int × (Int × Bool)))))) × (Int × (Int × (Int × Int))))))),([]:List (Int × ((Int × Int) × (((List Int) × (List (Int × (Int × (Int × (Int × Bool)))))) × (Int × (Int × (Int × Int))))))))))).2.2.1 ([]:List (Int × ((Int × Int) × (((List Int) × (List (Int × (Int × (Int × (Int × Bool)))))) × (Int × (Int × (Int × Int))))))))
 let c43:=c42.length
 let c45:=(decide (c36>(c43:Int)))
 let c46:=(!c45)
 let c47:=(cond c46 c46 true)
 let c52:=(Int.toNat c36)
 let c62:=(slices_EqualFunc_api_Word_r c34 ((c42.drop 0).take c52) ())
 let c76:=(cond c45 true (!c62.2))
 ((cond c4 ((((decide ((0:Int)≤s0.1)) && c7) && c7) && (cond c14 ((c18.1 && (cond c22 (((decide ((0:Int)≤c20)) && c26) && c26) true)) && ((((((c47 && c47) && c47) && (cond c46 (c46 && ((c46 && (decide ((0:Int)≤c36))) && (decide (c52≤c43)))) true)) && (cond c46 ((c46 && c46) && c62.1) true)) && c47) && (cond c45 true c46))) true)) true),(c4 && ((c14 && (!c76)) || c13)),((IntKind.i64.wrap (s0.1+(1:Int))),()),((c4 && (c14 && c76)),false,(!c4),()))
noncomputable def tower_Fits_r (a1:Int) (a2:(List (Int × (Int × ((List (Int × ((Int × Int) × (((List Int) × (List (Int × (Int × (Int × (Int × Bool)))))) × (Int × (Int × (Int × Int))))))) × (List (Int × ((Int × Int) × (((List Int) × (List (Int × (Int × (Int × (Int × Bool)))))) × (Int × (Int × (Int × Int)))))))))))) (a3:Int) (a4:(List (Int × (Int × ((List (Int × ((Int × Int) × (((List Int) × (List (Int × (Int × (Int × (Int × Bool)))))) × (Int × (Int × (Int × Int))))))) × (List (Int × ((Int × Int) × (((List Int) × (List (Int × (Int × (Int × (Int × Bool)))))) × (Int × (Int × (Int × Int)))))))))))):Bool × (Bool):=
 let c87:=(loopD 0 [.int .i64] [.bool,.bool,.bool] (tower_Fits_l0 a1 a2 a3 a4) ((0:Int),()))
 (c87.1,((cond c87.2.2.2.1 true c87.2.2.1)))
def tower_Fits_e:Ent:=⟨29,[],[(.pure (.int .i64) (Ty.dflt _)),(.pure (.fl (.row (.prod (.int .i64) (.prod (.int .i64) (.prod (.fl (.row (.prod (.int .i64) (.prod (.row (.prod (.int .i64) (.int .i64))) (.prod (.row (.prod (.fl (.int .i64)) (.fl (.row (.prod (.int .i64) (.prod (.int .i64) (.prod (.int .i64) (.prod (.int .i64) .bool)))))))) (.row (.prod (.int .i64) (.prod (.int .i64) (.prod (.int .i64) (.int .i64)))))))))) (.fl (.row (.prod (.int .i64) (.prod (.row (.prod (.int .i64) (.int .i64))) (.prod (.row (.prod (.fl (.int .i64)) (.fl (.row (.prod (.int .i64) (.prod (.int .i64) (.prod (.int .i64) (.prod (.int .i64) .bool)))))))) (.row (.prod (.int .i64) (.prod (.int .i64) (.prod (.int .i64) (.int .i64))))))))))))))) (Ty.dflt _)),(.pure (.int .i64) (Ty.dflt _)),(.pure (.fl (.row (.prod (.int .i64) (.prod (.int .i64) (.prod (.fl (.row (.prod (.int .i64) (.prod (.row (.prod (.int .i64) (.int .i64))) (.prod (.row (.prod (.fl (.int .i64)) (.fl (.row (.prod (.int .i64) (.prod (.int .i64) (.prod (.int .i64) (.prod (.int .i64) .bool)))))))) (.row (.prod (.int .i64) (.prod (.int .i64) (.prod (.int .i64) (.int .i64)))))))))) (.fl (.row (.prod (.int .i64) (.prod (.row (.prod (.int .i64) (.int .i64))) (.prod (.row (.prod (.fl (.int .i64)) (.fl (.row (.prod (.int .i64) (.prod (.int .i64) (.prod (.int .i64) (.prod (.int .i64) .bool)))))))) (.row (.prod (.int .i64) (.prod (.int .i64) (.prod (.int .i64) (.int .i64))))))))))))))) (Ty.dflt _))],[],[(.pure .bool (Ty.dflt _))],[]⟩
noncomputable def tower_Fits:Fun:=⟨tower_Fits_e,fun x=>let r:=tower_Fits_r x.1 x.2.1 x.2.2.1 x.2.2.2.1; (r.1,(r.2,()))⟩
theorem tower_Fits_ev:evFun Tryz.prog [slices_IndexFunc_api_Way,slices_EqualFunc_api_Word] [⟨[15],[],⟨[],[],0⟩,[],[],[(1,[8]),(2,[])],[]⟩,⟨[],[],⟨[],[],0⟩,[],[],[],[(1000003,([15,11],[]))]⟩] Tryz.f29 (codeOf Tryz.f29) tower_Fits_e=(tower_Fits).fn:=by kernel_rfl
theorem tower_Fits_ok:FunOk Tryz.prog (tower_Fits):=fun_ok (opers_ok (oks_cons slices_IndexFunc_api_Way_ok (oks_cons slices_EqualFunc_api_Word_ok oks_nil))) Tryz.call29 Tryz.func29 (by kernel_rfl) fun x _=>(congrFun (tower_Fits_ev) x).symm
noncomputable def withyref05_Ints_l0 (a1:(List Int)) (a2:(List Int)) (s0:HL [.int .i64]):Bool × Bool × HL [.int .i64] × HL [.bool,.bool,.bool]:=
 let c9:=(decide (s0.1<(a1.length:Int)))
 let c10:=(decide ((0:Int)≤s0.1))
 let c11:=(Int.toNat s0.1)
 let c12:=(decide (c11<a1.length))
 let c15:=(decide (c11<a2.length))
 let c23:=(((a1[c11]?).getD (0:Int)) !=((a2[c11]?).getD (0:Int)))
 ((cond c9 ((((c10 && c12) && c12) && (c10 && c15)) && c15) true),(c9 && (!c23)),((IntKind.i64.wrap (s0.1+(1:Int))),()),((c9 && c23),false,(!c9),()))
noncomputable def withyref05_Ints_r (a1:(List Int)) (a2:(List Int)):Bool × (Bool):=
 let c7:=(!((a1.length:Int) !=(a2.length:Int)))
 let c32:=(loopD 0 [.int .i64] [.bool,.bool,.bool] (withyref05_Ints_l0 a1 a2) ((0:Int),()))
 ((cond c7 c32.1 true),((cond c7 (cond c32.2.2.2.1 true c32.2.2.1) false)))
def withyref05_Ints_e:Ent:=⟨35,[],[(.pure (.fl (.int .i64)) (Ty.dflt _)),(.pure (.fl (.int .i64)) (Ty.dflt _))],[],[(.pure .bool (Ty.dflt _))],[]⟩
noncomputable def withyref05_Ints:Fun:=⟨withyref05_Ints_e,fun x=>let r:=withyref05_Ints_r x.1 x.2.1; (r.1,(r.2,()))⟩
theorem withyref05_Ints_ev:evFun Tryz.prog [] [⟨[5],[],⟨[],[],0⟩,[],[],[(1,[4]),(2,[])],[]⟩,⟨[],[],⟨[],[],0⟩,[],[],[],[(1000003,([5],[]))]⟩] Tryz.f35 (codeOf Tryz.f35) withyref05_Ints_e=(withyref05_Ints).fn:=by kernel_rfl
theorem withyref05_Ints_ok:FunOk Tryz.prog (withyref05_Ints):=fun_ok (opers_ok oks_nil) Tryz.call35 Tryz.func35 (by kernel_rfl) fun x _=>(congrFun (withyref05_Ints_ev) x).symm
noncomputable def withyref09_Links_l0 (a1:(List (Int × (Int × (Int × (Int × Bool)))))) (a2:(List (Int × (Int × (Int × (Int × Bool)))))) (s0:HL [.int .i64]):Bool × Bool × HL [.int .i64] × HL [.bool,.bool,.bool]:=
 let c9:=(decide (s0.1<(a1.length:Int)))
 let c10:=(decide ((0:Int)≤s0.1))
 let c11:=(Int.toNat s0.1)
 let c12:=(decide (c11<a1.length))
 let c15:=(decide (c11<a2.length))
 let c21:=((a1[c11]?).getD ((0:Int),((0:Int),((0:Int),((0:Int),false)))))
 let c23:=((a2[c11]?).getD ((0:Int),((0:Int),((0:Int),((0:Int),false)))))
 let c26:=c21.2
 let c28:=c23.2
 let c31:=c26.2
 let c33:=c28.2
 let c36:=c31.2
 let c38:=c33.2
 let c48:=(!((c21.1==c23.1) && ((c26.1==c28.1) && ((c31.1==c33.1) && ((c36.1==c38.1) && (c36.2==c38.2))))))
 ((cond c9 ((((c10 && c12) && c12) && (c10 && c15)) && c15) true),(c9 && (!c48)),((IntKind.i64.wrap (s0.1+(1:Int))),()),((c9 && c48),false,(!c9),()))
noncomputable def withyref09_Links_r (a1:(List (Int × (Int × (Int × (Int × Bool)))))) (a2:(List (Int × (Int × (Int × (Int × Bool)))))):Bool × (Bool):=
 let c7:=(!((a1.length:Int) !=(a2.length:Int)))
 let c57:=(loopD 0 [.int .i64] [.bool,.bool,.bool] (withyref09_Links_l0 a1 a2) ((0:Int),()))
 ((cond c7 c57.1 true),((cond c7 (cond c57.2.2.2.1 true c57.2.2.1) false)))
def withyref09_Links_e:Ent:=⟨37,[],[(.pure (.fl (.row (.prod (.int .i64) (.prod (.int .i64) (.prod (.int .i64) (.prod (.int .i64) .bool)))))) (Ty.dflt _)),(.pure (.fl (.row (.prod (.int .i64) (.prod (.int .i64) (.prod (.int .i64) (.prod (.int .i64) .bool)))))) (Ty.dflt _))],[],[(.pure .bool (Ty.dflt _))],[]⟩
noncomputable def withyref09_Links:Fun:=⟨withyref09_Links_e,fun x=>let r:=withyref09_Links_r x.1 x.2.1; (r.1,(r.2,()))⟩
theorem withyref09_Links_ev:evFun Tryz.prog [] [⟨[5],[],⟨[],[],0⟩,[],[],[(1,[4]),(2,[])],[]⟩,⟨[],[],⟨[],[],0⟩,[],[],[],[(1000003,([5],[]))]⟩] Tryz.f37 (codeOf Tryz.f37) withyref09_Links_e=(withyref09_Links).fn:=by kernel_rfl
theorem withyref09_Links_ok:FunOk Tryz.prog (withyref09_Links):=fun_ok (opers_ok oks_nil) Tryz.call37 Tryz.func37 (by kernel_rfl) fun x _=>(congrFun (withyref09_Links_ev) x).symm
noncomputable def withyref09_Same_r (a1:((List Int) × (List (Int × (Int × (Int × (Int × Bool))))))) (a2:((List Int) × (List (Int × (Int × (Int × (Int × Bool))))))):Bool × (Bool):=
 let c4:=(withyref05_Ints_r a1.1 a2.1)
 let c6:=c4.2
 let c8:=(cond c6 c6 true)
 let c14:=(withyref09_Links_r a1.2 a2.2)
 (((((c4.1 && c8) && c8) && (cond c6 ((c6 && c6) && c14.1) true)) && c8),((cond c6 c14.2 false)))
def withyref09_Same_e:Ent:=⟨14,[],[(.pure (.row (.prod (.fl (.int .i64)) (.fl (.row (.prod (.int .i64) (.prod (.int .i64) (.prod (.int .i64) (.prod (.int .i64) .bool)))))))) (Ty.dflt _)),(.pure (.row (.prod (.fl (.int .i64)) (.fl (.row (.prod (.int .i64) (.prod (.int .i64) (.prod (.int .i64) (.prod (.int .i64) .bool)))))))) (Ty.dflt _))],[],[(.pure .bool (Ty.dflt _))],[]⟩
noncomputable def withyref09_Same:Fun:=⟨withyref09_Same_e,fun x=>let r:=withyref09_Same_r x.1 x.2.1; (r.1,(r.2,()))⟩
theorem withyref09_Same_ev:evFun Tryz.prog [withyref05_Ints,withyref09_Links] [] Tryz.f14 (codeOf Tryz.f14) withyref09_Same_e=(withyref09_Same).fn:=by kernel_rfl
theorem withyref09_Same_ok:FunOk Tryz.prog (withyref09_Same):=fun_ok (opers_ok (oks_cons withyref05_Ints_ok (oks_cons withyref09_Links_ok oks_nil))) Tryz.call14 Tryz.func14 (by kernel_rfl) fun x _=>(congrFun (withyref09_Same_ev) x).symm
noncomputable def withyref13_Same_r (a1:(Int × ((Int × Int) × (((List Int) × (List (Int × (Int × (Int × (Int × Bool)))))) × (Int × (Int × (Int × Int))))))) (a2:(Int × ((Int × Int) × (((List Int) × (List (Int × (Int × (Int × (Int × Bool)))))) × (Int × (Int × (Int × Int))))))):Bool × (Bool):=
 let c4:=(a1.1==a2.1)
 let c6:=(cond c4 c4 true)
 let c24:=(cond c4 ((a1.2.1.1==a2.2.1.1) && (a1.2.1.2==a2.2.1.2)) false)
 let c25:=(cond c24 c24 true)
 let c55:=(cond c24 ((a1.2.2.2.1==a2.2.2.2.1) && ((a1.2.2.2.2.1==a2.2.2.2.2.1) && ((a1.2.2.2.2.2.1==a2.2.2.2.2.2.1) && (a1.2.2.2.2.2.2==a2.2.2.2.2.2.2)))) false)
 let c56:=(cond c55 c55 true)
 let c62:=(withyref09_Same_r a1.2.2.1 a2.2.2.1)
 ((((((((((((c6 && c6) && (cond c4 (c4 && c4) true)) && c6) && c25) && c25) && (cond c24 (c24 && c24) true)) && c25) && c56) && c56) && (cond c55 ((c55 && c55) && c62.1) true)) && c56),((cond c55 c62.2 false)))
def withyref13_Same_e:Ent:=⟨49,[],[(.pure (.row (.prod (.int .i64) (.prod (.row (.prod (.int .i64) (.int .i64))) (.prod (.row (.prod (.fl (.int .i64)) (.fl (.row (.prod (.int .i64) (.prod (.int .i64) (.prod (.int .i64) (.prod (.int .i64) .bool)))))))) (.row (.prod (.int .i64) (.prod (.int .i64) (.prod (.int .i64) (.int .i64))))))))) (Ty.dflt _)),(.pure (.row (.prod (.int .i64) (.prod (.row (.prod (.int .i64) (.int .i64))) (.prod (.row (.prod (.fl (.int .i64)) (.fl (.row (.prod (.int .i64) (.prod (.int .i64) (.prod (.int .i64) (.prod (.int .i64) .bool)))))))) (.row (.prod (.int .i64) (.prod (.int .i64) (.prod (.int .i64) (.int .i64))))))))) (Ty.dflt _))],[],[(.pure .bool (Ty.dflt _))],[]⟩
noncomputable def withyref13_Same:Fun:=⟨withyref13_Same_e,fun x=>let r:=withyref13_Same_r x.1 x.2.1; (r.1,(r.2,()))⟩
theorem withyref13_Same_ev:evFun Tryz.prog [withyref09_Same] [] Tryz.f49 (codeOf Tryz.f49) withyref13_Same_e=(withyref13_Same).fn:=by kernel_rfl
theorem withyref13_Same_ok:FunOk Tryz.prog (withyref13_Same):=fun_ok (opers_ok (oks_cons withyref09_Same_ok oks_nil)) Tryz.call49 Tryz.func49 (by kernel_rfl) fun x _=>(congrFun (withyref13_Same_ev) x).symm
noncomputable def withyref27_Words_l0 (a1:(List (Int × ((Int × Int) × (((List Int) × (List (Int × (Int × (Int × (Int × Bool)))))) × (Int × (Int × (Int × Int)))))))) (a2:(List (Int × ((Int × Int) × (((List Int) × (List (Int × (Int × (Int × (Int × Bool)))))) × (Int × (Int × (Int × Int)))))))) (s0:HL [.int .i64]):Bool × Bool × HL [.int .i64] × HL [.bool,.bool,.bool]:=
 let c9:=(decide (s0.1<(a1.length:Int)))
 let c10:=(decide ((0:Int)≤s0.1))
 let c11:=(Int.toNat s0.1)
 let c12:=(decide (c11<a1.length))
 let c15:=(decide (c11<a2.length))
 let c21:=(withyref13_Same_r ((a1[c11]?).getD ((0:Int),(((0:Int),(0:Int)),((([]:List Int),([]:List (Int × (Int × (Int × (Int × Bool)))))),((0:Int),((0:Int),((0:Int),(0:Int)))))))) ((a2[c11]?).getD ((0:Int),(((0:Int),(0:Int)),((([]:List Int),([]:List (Int × (Int × (Int × (Int × Bool)))))),((0:Int),((0:Int),((0:Int),(0:Int)))))))))
 let c27:=(!c21.2)
 ((cond c9 (((((c10 && c12) && c12) && (c10 && c15)) && c15) && c21.1) true),(c9 && (!c27)),((IntKind.i64.wrap (s0.1+(1:Int))),()),((c9 && c27),false,(!c9),()))
noncomputable def withyref27_Words_r (a1:(List (Int × ((Int × Int) × (((List Int) × (List (Int × (Int × (Int × (Int × Bool)))))) × (Int × (Int × (Int × Int)))))))) (a2:(List (Int × ((Int × Int) × (((List Int) × (List (Int × (Int × (Int × (Int × Bool)))))) × (Int × (Int × (Int × Int)))))))):Bool × (Bool):=
 let c7:=(!((a1.length:Int) !=(a2.length:Int)))
 let c36:=(loopD 0 [.int .i64] [.bool,.bool,.bool] (withyref27_Words_l0 a1 a2) ((0:Int),()))
 ((cond c7 c36.1 true),((cond c7 (cond c36.2.2.2.1 true c36.2.2.1) false)))
def withyref27_Words_e:Ent:=⟨56,[],[(.pure (.fl (.row (.prod (.int .i64) (.prod (.row (.prod (.int .i64) (.int .i64))) (.prod (.row (.prod (.fl (.int .i64)) (.fl (.row (.prod (.int .i64) (.prod (.int .i64) (.prod (.int .i64) (.prod (.int .i64) .bool)))))))) (.row (.prod (.int .i64) (.prod (.int .i64) (.prod (.int .i64) (.int .i64)))))))))) (Ty.dflt _)),(.pure (.fl (.row (.prod (.int .i64) (.prod (.row (.prod (.int .i64) (.int .i64))) (.prod (.row (.prod (.fl (.int .i64)) (.fl (.row (.prod (.int .i64) (.prod (.int .i64) (.prod (.int .i64) (.prod (.int .i64) .bool)))))))) (.row (.prod (.int .i64) (.prod (.int .i64) (.prod (.int .i64) (.int .i64)))))))))) (Ty.dflt _))],[],[(.pure .bool (Ty.dflt _))],[]⟩
noncomputable def withyref27_Words:Fun:=⟨withyref27_Words_e,fun x=>let r:=withyref27_Words_r x.1 x.2.1; (r.1,(r.2,()))⟩
theorem withyref27_Words_ev:evFun Tryz.prog [withyref13_Same] [⟨[5],[],⟨[],[],0⟩,[],[],[(1,[4]),(2,[])],[]⟩,⟨[],[],⟨[],[],0⟩,[],[],[],[(1000003,([5],[]))]⟩] Tryz.f56 (codeOf Tryz.f56) withyref27_Words_e=(withyref27_Words).fn:=by kernel_rfl
theorem withyref27_Words_ok:FunOk Tryz.prog (withyref27_Words):=fun_ok (opers_ok (oks_cons withyref13_Same_ok oks_nil)) Tryz.call56 Tryz.func56 (by kernel_rfl) fun x _=>(congrFun (withyref27_Words_ev) x).symm
noncomputable def withyref27_Fits_l1 (a1:Int) (a2:(List (Int × (Int × ((List (Int × ((Int × Int) × (((List Int) × (List (Int × (Int × (Int × (Int × Bool)))))) × (Int × (Int × (Int × Int))))))) × (List (Int × ((Int × Int) × (((List Int) × (List (Int × (Int × (Int × (Int × Bool)))))) × (Int × (Int × (Int × Int)))))))))))) (a3:Int) (a4:(List (Int × (Int × ((List (Int × ((Int × Int) × (((List Int) × (List (Int × (Int × (Int × (Int × Bool)))))) × (Int × (Int × (Int × Int))))))) × (List (Int × ((Int × Int) × (((List Int) × (List (Int × (Int × (Int × (Int × Bool)))))) × (Int × (Int × (Int × Int)))))))))))) (s0:HL [.int .i64]) (s1:HL [.int .i64,(.fl (.row (.prod (.int .i64) (.prod (.row (.prod (.int .i64) (.int .i64))) (.prod (.row (.prod (.fl (.int .i64)) (.fl (.row (.prod (.int .i64) (.prod (.int .i64) (.prod (.int .i64) (.prod (.int .i64) .bool)))))))) (.row (.prod (.int .i64) (.prod (.int .i64) (.prod (.int .i64) (.int .i64))))))))))]):Bool × Bool × HL [.int .i64,(.fl (.row (.prod (.int .i64) (.prod (.row (.prod (.int .i64) (.int .i64))) (.prod (.row (.prod (.fl (.int .i64)) (.fl (.row (.prod (.int .i64) (.prod (.int .i64) (.prod (.int .i64) (.prod (.int .i64) .bool)))))))) (.row (.prod (.int .i64) (.prod (.int .i64) (.prod (.int .i64) (.int .i64))))))))))] × HL [.bool,(.fl (.row (.prod (.int .i64) (.prod (.row (.prod (.int .i64) (.int .i64))) (.prod (.row (.prod (.fl (.int .i64)) (.fl (.row (.prod (.int .i64) (.prod (.int .i64) (.prod (.int .i64) (.prod (.int .i64) .bool)))))))) (.row (.prod (.int .i64) (.prod (.int .i64) (.prod (.int .i64) (.int .i64))))))))))]:=
 let c6:=(Int.toNat s0.1)
 let c10:=((a2[c6]?).getD ((0:Int),((0:Int),(([]:List (Int × ((Int × Int) × (((List Int) × (List (Int × (Int × (Int × (Int × Bool)))))) × (Int × (Int × (Int × Int))))))),([]:List (Int × ((Int × Int) × (((List Int) × (List (Int × (Int × (Int × (Int × Bool)))))) × (Int × (Int × (Int × Int)))))))))))
 let c17:=(decide (s1.1≥(0:Int)))
 let c19:=(Int.toNat s1.1)
 let c22:=(decide (c19<a4.length))
 let c23:=((decide ((0:Int)≤s1.1)) && c22)
 let c24:=(c23 && c22)
 let c25:=((a4[c19]?).getD ((0:Int),((0:Int),(([]:List (Int × ((Int × Int) × (((List Int) × (List (Int × (Int × (Int × (Int × Bool)))))) × (Int × (Int × (Int × Int))))))),([]:List (Int × ((Int × Int) × (((List Int) × (List (Int × (Int × (Int × (Int × Bool)))))) × (Int × (Int × (Int × Int)))))))))))
 let c28:=(c25.1==a1)
 let c34:=(cond c28 c28 true)
 let c44:=c25.2
 let c46:=c10.2
 let c50:=(cond c28 (c44.1==c46.1) false)
 ((cond c17 (((((((c24 && (cond c28 (c28 && (c28 && c23)) true)) && c34) && (cond c28 (c28 && c22) true)) && c34) && (cond c28 (c28 && c28) true)) && c34) && (cond c50 c24 true)) true),c17,((IntKind.i64.wrap (s1.1 - (1:Int))),(cond c50 c44.2.1 s1.2.1),()),((!c17),s1.2.1,()))
noncomputable def withyref27_Fits_l0 (a1:Int) (a2:(List (Int × (Int × ((List (Int × ((Int × Int) × (((List Int) × (List (Int × (Int × (Int × (Int × Bool)))))) × (Int × (Int × (Int × Int))))))) × (List (Int × ((Int × Int) × (((List Int) × (List (Int × (Int × (Int × (Int × Bool)))))) × (Int × (Int × (Int × Int)))))))))))) (a3:Int) (a4:(List (Int × (Int × ((List (Int × ((Int × Int) × (((List Int) × (List (Int × (Int × (Int × (Int × Bool)))))) × (Int × (Int × (Int × Int))))))) × (List (Int × ((Int × Int) × (((List Int) × (List (Int × (Int × (Int × (Int × Bool)))))) × (Int × (Int × (Int × Int)))))))))))) (s0:HL [.int .i64]):Bool × Bool × HL [.int .i64] × HL [.bool,.bool,.bool]:=
 let c4:=(decide (s0.1<(a2.length:Int)))
 let c6:=(Int.toNat s0.1)
 let c7:=(decide (c6<a2.length))
 let c10:=((a2[c6]?).getD ((0:Int),((0:Int),(([]:List (Int × ((Int × Int) × (((List Int) × (List (Int × (Int × (Int × (Int × Bool)))))) × (Int × (Int × (Int × Int))))))),([]:List (Int × ((Int × Int) × (((List Int) × (List (Int × (Int × (Int × (Int × Bool)))))) × (Int × (Int × (Int × Int)))))))))))
 let c13:=(c10.1 !=a3)
 let c14:=(!c13)
 let c46:=c10.2
 let c64:=(loopD 1 [.int .i64,(.fl (.row (.prod (.int .i64) (.prod (.row (.prod (.int .i64) (.int .i64))) (.prod (.row (.prod (.fl (.int .i64)) (.fl (.row (.prod (.int .i64) (.prod (.int .i64) (.prod (.int .i64) (.prod (.int .i64) .bool)))))))) (.row (.prod (.int .i64) (.prod (.int .i64) (.prod (.int .i64) (.int .i64))))))))))] [.bool,(.fl (.row (.prod (.int .i64) (.prod (.row (.prod (.int .i64) (.int .i64))) (.prod (.row (.prod (.fl (.int .i64)) (.fl (.row (.prod (.int .i64) (.prod (.int .i64) (.prod (.int .i64) (.prod (.int .i64) .bool)))))))) (.row (.prod (.int .i64) (.prod (.int .i64) (.prod (.int .i64) (.int .i64))))))))))] (withyref27_Fits_l1 a1 a2 a3 a4 s0) ((IntKind.i64.wrap ((a4.length:Int) - (1:Int))),([]:List (Int × ((Int × Int) × (((List Int) × (List (Int × (Int × (Int × (Int × Bool)))))) × (Int × (Int × (Int × Int))))))),()))
 let c67:=c46.2.2
 let c69:=(c67.length:Int)
 let c70:=c64.2.2.1
 let c71:=c70.length
 let c73:=(decide (c69>(c71:Int)))
 let c74:=(!c73)
 let c75:=(cond c74 c74 true)
 let c80:=(Int.toNat c69)
 let c90:=(withyref27_Words_r c67 ((c70.drop 0).take c80))
 let c104:=(cond c73 true (!c90.2))
 ((cond c4 ((((decide ((0:Int)≤s0.1)) && c7) && c7) && (cond c14 (c64.1 && ((((((c75 && c75) && c75) && (cond c74 (c74 && ((c74 && (decide ((0:Int)≤c69))) && (decide (c80≤c71)))) true)) && (cond c74 ((c74 && c74) && c90.1) true)) && c75) && (cond c73 true c74))) true)) true),(c4 && ((c14 && (!c104)) || c13)),((IntKind.i64.wrap (s0.1+(1:Int))),()),((c4 && (c14 && c104)),false,(!c4),()))
noncomputable def withyref27_Fits_r (a1:Int) (a2:(List (Int × (Int × ((List (Int × ((Int × Int) × (((List Int) × (List (Int × (Int × (Int × (Int × Bool)))))) × (Int × (Int × (Int × Int))))))) × (List (Int × ((Int × Int) × (((List Int) × (List (Int × (Int × (Int × (Int × Bool)))))) × (Int × (Int × (Int × Int)))))))))))) (a3:Int) (a4:(List (Int × (Int × ((List (Int × ((Int × Int) × (((List Int) × (List (Int × (Int × (Int × (Int × Bool)))))) × (Int × (Int × (Int × Int))))))) × (List (Int × ((Int × Int) × (((List Int) × (List (Int × (Int × (Int × (Int × Bool)))))) × (Int × (Int × (Int × Int)))))))))))):Bool × (Bool):=
 let c113:=(loopD 0 [.int .i64] [.bool,.bool,.bool] (withyref27_Fits_l0 a1 a2 a3 a4) ((0:Int),()))
 (c113.1,((cond c113.2.2.2.1 true c113.2.2.1)))
def withyref27_Fits_e:Ent:=⟨30,[],[(.pure (.int .i64) (Ty.dflt _)),(.pure (.fl (.row (.prod (.int .i64) (.prod (.int .i64) (.prod (.fl (.row (.prod (.int .i64) (.prod (.row (.prod (.int .i64) (.int .i64))) (.prod (.row (.prod (.fl (.int .i64)) (.fl (.row (.prod (.int .i64) (.prod (.int .i64) (.prod (.int .i64) (.prod (.int .i64) .bool)))))))) (.row (.prod (.int .i64) (.prod (.int .i64) (.prod (.int .i64) (.int .i64)))))))))) (.fl (.row (.prod (.int .i64) (.prod (.row (.prod (.int .i64) (.int .i64))) (.prod (.row (.prod (.fl (.int .i64)) (.fl (.row (.prod (.int .i64) (.prod (.int .i64) (.prod (.int .i64) (.prod (.int .i64) .bool)))))))) (.row (.prod (.int .i64) (.prod (.int .i64) (.prod (.int .i64) (.int .i64))))))))))))))) (Ty.dflt _)),(.pure (.int .i64) (Ty.dflt _)),(.pure (.fl (.row (.prod (.int .i64) (.prod (.int .i64) (.prod (.fl (.row (.prod (.int .i64) (.prod (.row (.prod (.int .i64) (.int .i64))) (.prod (.row (.prod (.fl (.int .i64)) (.fl (.row (.prod (.int .i64) (.prod (.int .i64) (.prod (.int .i64) (.prod (.int .i64) .bool)))))))) (.row (.prod (.int .i64) (.prod (.int .i64) (.prod (.int .i64) (.int .i64)))))))))) (.fl (.row (.prod (.int .i64) (.prod (.row (.prod (.int .i64) (.int .i64))) (.prod (.row (.prod (.fl (.int .i64)) (.fl (.row (.prod (.int .i64) (.prod (.int .i64) (.prod (.int .i64) (.prod (.int .i64) .bool)))))))) (.row (.prod (.int .i64) (.prod (.int .i64) (.prod (.int .i64) (.int .i64))))))))))))))) (Ty.dflt _))],[],[(.pure .bool (Ty.dflt _))],[]⟩
noncomputable def withyref27_Fits:Fun:=⟨withyref27_Fits_e,fun x=>let r:=withyref27_Fits_r x.1 x.2.1 x.2.2.1 x.2.2.2.1; (r.1,(r.2,()))⟩
theorem withyref27_Fits_ev:evFun Tryz.prog [withyref27_Words] [⟨[9],[],⟨[],[],0⟩,[],[],[(1,[8]),(2,[])],[]⟩,⟨[12,11],[],⟨[(11,(.pure (.fl (.row (.prod (.int .i64) (.prod (.row (.prod (.int .i64) (.int .i64))) (.prod (.row (.prod (.fl (.int .i64)) (.fl (.row (.prod (.int .i64) (.prod (.int .i64) (.prod (.int .i64) (.prod (.int .i64) .bool)))))))) (.row (.prod (.int .i64) (.prod (.int .i64) (.prod (.int .i64) (.int .i64)))))))))) (Ty.dflt _))),(27,(.pure (.fl (.row (.prod (.int .i64) (.prod (.row (.prod (.int .i64) (.int .i64))) (.prod (.row (.prod (.fl (.int .i64)) (.fl (.row (.prod (.int .i64) (.prod (.int .i64) (.prod (.int .i64) (.prod (.int .i64) .bool)))))))) (.row (.prod (.int .i64) (.prod (.int .i64) (.prod (.int .i64) (.int .i64)))))))))) (Ty.dflt _)))],[],0⟩,[11,27],[],[(1,[]),(4,[11])],[]⟩,⟨[],[],⟨[],[],0⟩,[],[],[],[(1000003,([9,11,12],[]))]⟩] Tryz.f30 (codeOf Tryz.f30) withyref27_Fits_e=(withyref27_Fits).fn:=by kernel_rfl
theorem withyref27_Fits_ok:FunOk Tryz.prog (withyref27_Fits):=fun_ok (opers_ok (oks_cons withyref27_Words_ok oks_nil)) Tryz.call30 Tryz.func30 (by kernel_rfl) fun x _=>(congrFun (withyref27_Fits_ev) x).symm
noncomputable def tower_Rising_l0 (a1:(List (Int × (Int × ((List (Int × ((Int × Int) × (((List Int) × (List (Int × (Int × (Int × (Int × Bool)))))) × (Int × (Int × (Int × Int))))))) × (List (Int × ((Int × Int) × (((List Int) × (List (Int × (Int × (Int × (Int × Bool)))))) × (Int × (Int × (Int × Int)))))))))))) (s0:HL [.int .i64,(.fl (.prod (.int .i64) (.int .i64)))]):Bool × Bool × HL [.int .i64,(.fl (.prod (.int .i64) (.int .i64)))] × HL [.bool,.bool,(.fl (.prod (.int .i64) (.int .i64))),.bool,(.fl (.prod (.int .i64) (.int .i64)))]:=
 let c4:=(decide (s0.1<(a1.length:Int)))
 let c6:=(Int.toNat s0.1)
 let c7:=(decide (c6<a1.length))
 let c11:=((a1[c6]?).getD ((0:Int),((0:Int),(([]:List (Int × ((Int × Int) × (((List Int) × (List (Int × (Int × (Int × (Int × Bool)))))) × (Int × (Int × (Int × Int))))))),([]:List (Int × ((Int × Int) × (((List Int) × (List (Int × (Int × (Int × (Int × Bool)))))) × (Int × (Int × (Int × Int)))))))))))
 let c12:=c11.1
 let c13:=(mapHas (k:=(.int .i64)) (v:=(.int .i64)) s0.2.1 c12)
 let c15:=(cond c13 c13 true)
 let c23:=c11.2.1
 let c28:=(cond c13 (decide (c23≤(mapGet (k:=(.int .i64)) (v:=(.int .i64)) s0.2.1 c12 (0:Int)))) false)
 ((cond c4 ((((decide ((0:Int)≤s0.1)) && c7) && c7) && ((c15 && (cond c13 (c13 && c13) true)) && c15)) true),(c4 && (!c28)),((IntKind.i64.wrap (s0.1+(1:Int))),(mapPut (k:=(.int .i64)) (v:=(.int .i64)) s0.2.1 c12 c23),()),((c4 && c28),false,s0.2.1,(!c4),s0.2.1,()))
noncomputable def tower_Rising_r (a1:(List (Int × (Int × ((List (Int × ((Int × Int) × (((List Int) × (List (Int × (Int × (Int × (Int × Bool)))))) × (Int × (Int × (Int × Int))))))) × (List (Int × ((Int × Int) × (((List Int) × (List (Int × (Int × (Int × (Int × Bool)))))) × (Int × (Int × (Int × Int)))))))))))):Bool × (Bool):=
 let c37:=(loopD 0 [.int .i64,(.fl (.prod (.int .i64) (.int .i64)))] [.bool,.bool,(.fl (.prod (.int .i64) (.int .i64))),.bool,(.fl (.prod (.int .i64) (.int .i64)))] (tower_Rising_l0 a1) ((0:Int),([]:List (Int × Int)),()))
 (c37.1,((cond c37.2.2.2.2.1 true c37.2.2.1)))
def tower_Rising_e:Ent:=⟨31,[],[(.pure (.fl (.row (.prod (.int .i64) (.prod (.int .i64) (.prod (.fl (.row (.prod (.int .i64) (.prod (.row (.prod (.int .i64) (.int .i64))) (.prod (.row (.prod (.fl (.int .i64)) (.fl (.row (.prod (.int .i64) (.prod (.int .i64) (.prod (.int .i64) (.prod (.int .i64) .bool)))))))) (.row (.prod (.int .i64) (.prod (.int .i64) (.prod (.int .i64) (.int .i64)))))))))) (.fl (.row (.prod (.int .i64) (.prod (.row (.prod (.int .i64) (.int .i64))) (.prod (.row (.prod (.fl (.int .i64)) (.fl (.row (.prod (.int .i64) (.prod (.int .i64) (.prod (.int .i64) (.prod (.int .i64) .bool)))))))) (.row (.prod (.int .i64) (.prod (.int .i64) (.prod (.int .i64) (.int .i64))))))))))))))) (Ty.dflt _))],[],[(.pure .bool (Ty.dflt _))],[]⟩
noncomputable def tower_Rising:Fun:=⟨tower_Rising_e,fun x=>let r:=tower_Rising_r x.1; (r.1,(r.2,()))⟩
theorem tower_Rising_ev:evFun Tryz.prog [] [⟨[11],[64],⟨[],[],0⟩,[],[],[(1,[2]),(2,[])],[]⟩,⟨[],[],⟨[],[],0⟩,[],[],[],[(1000003,([11],[]))]⟩] Tryz.f31 (codeOf Tryz.f31) tower_Rising_e=(tower_Rising).fn:=by kernel_rfl
theorem tower_Rising_ok:FunOk Tryz.prog (tower_Rising):=fun_ok (opers_ok oks_nil) Tryz.call31 Tryz.func31 (by kernel_rfl) fun x _=>(congrFun (tower_Rising_ev) x).symm
noncomputable def withyref27_Rising_l1 (a1:(List (Int × (Int × ((List (Int × ((Int × Int) × (((List Int) × (List (Int × (Int × (Int × (Int × Bool)))))) × (Int × (Int × (Int × Int))))))) × (List (Int × ((Int × Int) × (((List Int) × (List (Int × (Int × (Int × (Int × Bool)))))) × (Int × (Int × (Int × Int)))))))))))) (s0:HL [.int .i64]) (s1:HL [.int .i64]):Bool × Bool × HL [.int .i64] × HL [.bool,.bool,.bool]:=
 let c6:=(decide (s1.1<s0.1))
 let c8:=(Int.toNat s1.1)
 let c9:=(decide (c8<a1.length))
 let c10:=((decide ((0:Int)≤s1.1)) && c9)
 let c13:=(Int.toNat s0.1)
 let c14:=(decide (c13<a1.length))
 let c15:=((decide ((0:Int)≤s0.1)) && c14)
 let c18:=((a1[c8]?).getD ((0:Int),((0:Int),(([]:List (Int × ((Int × Int) × (((List Int) × (List (Int × (Int × (Int × (Int × Bool)))))) × (Int × (Int × (Int × Int))))))),([]:List (Int × ((Int × Int) × (((List Int) × (List (Int × (Int × (Int × (Int × Bool)))))) × (Int × (Int × (Int × Int)))))))))))
 let c20:=((a1[c13]?).getD ((0:Int),((0:Int),(([]:List (Int × ((Int × Int) × (((List Int) × (List (Int × (Int × (Int × (Int × Bool)))))) × (Int × (Int × (Int × Int))))))),([]:List (Int × ((Int × Int) × (((List Int) × (List (Int × (Int × (Int × (Int × Bool)))))) × (Int × (Int × (Int × Int)))))))))))
 let c22:=(c18.1==c20.1)
 let c28:=(cond c22 c22 true)
 let c52:=(cond c22 (decide (c18.2.1≥c20.2.1)) false)
 ((cond c6 (((((((((((c10 && c9) && c15) && c14) && (cond c22 (c22 && (c22 && c10)) true)) && c28) && (cond c22 (c22 && c9) true)) && (cond c22 (c22 && (c22 && c15)) true)) && c28) && (cond c22 (c22 && c14) true)) && (cond c22 (c22 && c22) true)) && c28) true),(c6 && (!c52)),((IntKind.i64.wrap (s1.1+(1:Int))),()),((c6 && c52),false,(!c6),()))
noncomputable def withyref27_Rising_l0 (a1:(List (Int × (Int × ((List (Int × ((Int × Int) × (((List Int) × (List (Int × (Int × (Int × (Int × Bool)))))) × (Int × (Int × (Int × Int))))))) × (List (Int × ((Int × Int) × (((List Int) × (List (Int × (Int × (Int × (Int × Bool)))))) × (Int × (Int × (Int × Int)))))))))))) (s0:HL [.int .i64]):Bool × Bool × HL [.int .i64] × HL [.bool,.bool,.bool]:=
 let c4:=(decide (s0.1<(a1.length:Int)))
 let c60:=(loopD 1 [.int .i64] [.bool,.bool,.bool] (withyref27_Rising_l1 a1 s0) ((0:Int),()))
 ((cond c4 c60.1 true),(c4 && c60.2.2.2.1),((IntKind.i64.wrap (s0.1+(1:Int))),()),((c4 && c60.2.1),c60.2.2.1,(!c4),()))
noncomputable def withyref27_Rising_r (a1:(List (Int × (Int × ((List (Int × ((Int × Int) × (((List Int) × (List (Int × (Int × (Int × (Int × Bool)))))) × (Int × (Int × (Int × Int))))))) × (List (Int × ((Int × Int) × (((List Int) × (List (Int × (Int × (Int × (Int × Bool)))))) × (Int × (Int × (Int × Int)))))))))))):Bool × (Bool):=
 let c70:=(loopD 0 [.int .i64] [.bool,.bool,.bool] (withyref27_Rising_l0 a1) ((0:Int),()))
 (c70.1,((cond c70.2.2.2.1 true c70.2.2.1)))
def withyref27_Rising_e:Ent:=⟨32,[],[(.pure (.fl (.row (.prod (.int .i64) (.prod (.int .i64) (.prod (.fl (.row (.prod (.int .i64) (.prod (.row (.prod (.int .i64) (.int .i64))) (.prod (.row (.prod (.fl (.int .i64)) (.fl (.row (.prod (.int .i64) (.prod (.int .i64) (.prod (.int .i64) (.prod (.int .i64) .bool)))))))) (.row (.prod (.int .i64) (.prod (.int .i64) (.prod (.int .i64) (.int .i64)))))))))) (.fl (.row (.prod (.int .i64) (.prod (.row (.prod (.int .i64) (.int .i64))) (.prod (.row (.prod (.fl (.int .i64)) (.fl (.row (.prod (.int .i64) (.prod (.int .i64) (.prod (.int .i64) (.prod (.int .i64) .bool)))))))) (.row (.prod (.int .i64) (.prod (.int .i64) (.prod (.int .i64) (.int .i64))))))))))))))) (Ty.dflt _))],[],[(.pure .bool (Ty.dflt _))],[]⟩
noncomputable def withyref27_Rising:Fun:=⟨withyref27_Rising_e,fun x=>let r:=withyref27_Rising_r x.1; (r.1,(r.2,()))⟩
theorem withyref27_Rising_ev:evFun Tryz.prog [] [⟨[3],[],⟨[],[],0⟩,[],[],[(1,[2]),(2,[])],[]⟩,⟨[4],[],⟨[],[],0⟩,[],[],[(1,[2]),(4,[])],[]⟩,⟨[],[],⟨[],[],0⟩,[],[],[],[(1000003,([3,4],[]))]⟩] Tryz.f32 (codeOf Tryz.f32) withyref27_Rising_e=(withyref27_Rising).fn:=by kernel_rfl
theorem withyref27_Rising_ok:FunOk Tryz.prog (withyref27_Rising):=fun_ok (opers_ok oks_nil) Tryz.call32 Tryz.func32 (by kernel_rfl) fun x _=>(congrFun (withyref27_Rising_ev) x).symm
noncomputable def withylaw27_TowerFits_r (a1:(Nat→Int)) (a2:(List (Int × (Int × ((List (Int × ((Int × Int) × (((List Int) × (List (Int × (Int × (Int × (Int × Bool)))))) × (Int × (Int × (Int × Int))))))) × (List (Int × ((Int × Int) × (((List Int) × (List (Int × (Int × (Int × (Int × Bool)))))) × (Int × (Int × (Int × Int)))))))))))) (a3:(List (Int × (Int × ((List (Int × ((Int × Int) × (((List Int) × (List (Int × (Int × (Int × (Int × Bool)))))) × (Int × (Int × (Int × Int))))))) × (List (Int × ((Int × Int) × (((List Int) × (List (Int × (Int × (Int × (Int × Bool)))))) × (Int × (Int × (Int × Int)))))))))))):Bool × (Bool):=
 let c1:=(withylaw27_light_r a2)
 let c4:=(!c1.2)
 let c5:=(!c4)
 let c7:=(withylaw27_light_r a3)
 let c19:=(cond c4 true (!c7.2))
 let c20:=(withylaw27_awake_r)
 let c21:=c20.1
 let c24:=(!c19)
 let c27:=(Int.toNat (0:Int))
 let c29:=(decide (c27<2))
 let c33:=((4:Int) !=(0:Int))
 let c37:=(Int.toNat (1:Int))
 let c38:=(decide (c37<2))
 let c46:=(IntKind.i64.wrap ((Int.tmod (a1 c27) (4:Int))))
 let c49:=(IntKind.i64.wrap ((Int.tmod (a1 c37) (4:Int))))
 let c50:=(tower_Fits_r c46 a2 c49 a3)
 let c52:=(withyref27_Fits_r c46 a2 c49 a3)
 let c57:=(c50.2==c52.2)
 let c58:=(tower_Rising_r a2)
 let c63:=(withyref27_Rising_r a2)
 let c77:=(cond c57 (c58.2==c63.2) false)
 let c85:=c20.2
 ((((((c1.1 && (cond c5 (c5 && c7.1) true)) && (cond c5 c5 true)) && (cond c4 true c5)) && (cond c19 c21 true)) && (cond c24 ((((((((decide ((0:Int)≤(0:Int))) && c29) && c29) && c33) && ((decide ((0:Int)≤(1:Int))) && c38)) && c38) && c33) && (((((((c50.1 && c52.1) && (cond c57 (c57 && c58.1) true)) && (cond c57 (c57 && c63.1) true)) && (cond c57 (c57 && c57) true)) && (cond c57 c57 true)) && (cond c77 c21 true)) && (cond c77 c77 true))) true)),((cond c24 (cond c77 c85 false) c85)))
def withylaw27_TowerFits_e:Ent:=⟨8,[],[(.pure (.arr 2 (.int .u8)) (Ty.dflt _)),(.pure (.fl (.row (.prod (.int .i64) (.prod (.int .i64) (.prod (.fl (.row (.prod (.int .i64) (.prod (.row (.prod (.int .i64) (.int .i64))) (.prod (.row (.prod (.fl (.int .i64)) (.fl (.row (.prod (.int .i64) (.prod (.int .i64) (.prod (.int .i64) (.prod (.int .i64) .bool)))))))) (.row (.prod (.int .i64) (.prod (.int .i64) (.prod (.int .i64) (.int .i64)))))))))) (.fl (.row (.prod (.int .i64) (.prod (.row (.prod (.int .i64) (.int .i64))) (.prod (.row (.prod (.fl (.int .i64)) (.fl (.row (.prod (.int .i64) (.prod (.int .i64) (.prod (.int .i64) (.prod (.int .i64) .bool)))))))) (.row (.prod (.int .i64) (.prod (.int .i64) (.prod (.int .i64) (.int .i64))))))))))))))) (Ty.dflt _)),(.pure (.fl (.row (.prod (.int .i64) (.prod (.int .i64) (.prod (.fl (.row (.prod (.int .i64) (.prod (.row (.prod (.int .i64) (.int .i64))) (.prod (.row (.prod (.fl (.int .i64)) (.fl (.row (.prod (.int .i64) (.prod (.int .i64) (.prod (.int .i64) (.prod (.int .i64) .bool)))))))) (.row (.prod (.int .i64) (.prod (.int .i64) (.prod (.int .i64) (.int .i64)))))))))) (.fl (.row (.prod (.int .i64) (.prod (.row (.prod (.int .i64) (.int .i64))) (.prod (.row (.prod (.fl (.int .i64)) (.fl (.row (.prod (.int .i64) (.prod (.int .i64) (.prod (.int .i64) (.prod (.int .i64) .bool)))))))) (.row (.prod (.int .i64) (.prod (.int .i64) (.prod (.int .i64) (.int .i64))))))))))))))) (Ty.dflt _))],[],[(.pure .bool (Ty.dflt _))],[]⟩
noncomputable def withylaw27_TowerFits:Fun:=⟨withylaw27_TowerFits_e,fun x=>let r:=withylaw27_TowerFits_r x.1 x.2.1 x.2.2.1; (r.1,(r.2,()))⟩
theorem withylaw27_TowerFits_ev:evFun Tryz.prog [withylaw27_light,withylaw27_awake,tower_Fits,withyref27_Fits,tower_Rising,withyref27_Rising] [] Tryz.f8 (codeOf Tryz.f8) withylaw27_TowerFits_e=(withylaw27_TowerFits).fn:=by kernel_rfl
theorem withylaw27_TowerFits_ok:FunOk Tryz.prog (withylaw27_TowerFits):=fun_ok (opers_ok (oks_cons withylaw27_light_ok (oks_cons withylaw27_awake_ok (oks_cons tower_Fits_ok (oks_cons withyref27_Fits_ok (oks_cons tower_Rising_ok (oks_cons withyref27_Rising_ok oks_nil))))))) Tryz.call8 Tryz.func8 (by kernel_rfl) fun x _=>(congrFun (withylaw27_TowerFits_ev) x).symm
end Go.Proofs.YtdcachkoimgieaaGreat.T
