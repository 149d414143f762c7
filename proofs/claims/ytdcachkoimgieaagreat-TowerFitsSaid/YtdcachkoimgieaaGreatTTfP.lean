/- Which ways fit and which rise: the plain laws. -/
import Derived.Test.YtdcachkoimgieaaGreatTTfF
namespace Go.Proofs.YtdcachkoimgieaaGreat.T
open Go.Vm Go.Tm
set_option linter.unusedVariables false
set_option linter.unusedSimpArgs false
abbrev Vw:=List Int × List (Int × Int × Int × Int × Bool)
abbrev Wd:=Int × (Int × Int) × Vw × Int × Int × Int × Int
abbrev Wy:=Int × Int × List Wd × List Wd
abbrev wd0:Wd:=(0,(0,0),([],[]),0,0,0,0)
abbrev wy0:Wy:=(0,0,[],[])
def Big (n:Nat):Prop:=n≤1152921504606846976
def WOk (w:Wd):Prop:=Big w.2.2.1.1.length∧Big w.2.2.1.2.length
def YOk (y:Wy):Prop:=Big y.2.2.1.length∧Big y.2.2.2.length∧(∀ w∈y.2.2.1,WOk w)∧∀ w∈y.2.2.2,WOk w
theorem big_wrap {n i:Nat} (h:Big n) (hi:i<n):IntKind.i64.wrap ((i:Int)+1)=((i+1:Nat):Int):=by
 unfold Big at h
 rw [wrap_i64 (by omega) (by omega)]; omega
theorem eqInt_ok (a b:List Int) (h:Big a.length):(slices_Equal_int_r a b).1=true:=by
 unfold slices_Equal_int_r
 by_cases hl2:a.length=b.length
 ·have key:=loop_all (d:=HL.dflt [.bool,.bool,.bool]) (step:=slices_Equal_int_l0 a b) a.length (fun i=> !(((a[i]?).getD (0:Int)) !=((b[i]?).getD (0:Int)))) (true,false,false,()) (false,false,true,())
   (fun i hi=>by
    have g1:(i:Int)<(a.length:Int):=by omega
    unfold slices_Equal_int_l0
    simp only [decT g1,big_wrap h hi,Int.toNat_natCast,decT hi,decT (show i<b.length by omega),decT (show (0:Int)≤(i:Int) by omega),cond_true,Bool.and_self,Bool.true_and]
    exact ⟨trivial,trivial,fun _=>trivial,fun h=>by
     have h:(!(((a[i]?).getD (0:Int)) !=((b[i]?).getD (0:Int))))=false:=h
     generalize (((a[i]?).getD (0:Int)) !=((b[i]?).getD (0:Int)))=q at h ⊢
     cases q
     ·cases h
     ·rfl⟩)
   (by
    unfold slices_Equal_int_l0
    simp only [decF (show ¬ (a.length:Int)<(a.length:Int) by omega),cond_false,Bool.false_and,Bool.not_false]
    exact ⟨trivial,trivial,trivial⟩)
  have hloop:loopD 0 [.int .i64] [.bool,.bool,.bool] (slices_Equal_int_l0 a b) ((0:Int),())=_:=key
  have hne:((a.length:Int) !=(b.length:Int))=false:=by rw [hl2]; simp
  dsimp only
  rw [hloop,hne]; rfl
 ·have hne:((a.length:Int) !=(b.length:Int))=true:=bneI (by omega)
  dsimp only
  rw [hne]; rfl
theorem eqKnown_ok (a b:List (Int × Int × Int × Int × Bool)) (h:Big a.length):(slices_Equal_api_Known_r a b).1=true:=by
 unfold slices_Equal_api_Known_r
 by_cases hl2:a.length=b.length
 ·have key:=loop_all (d:=HL.dflt [.bool,.bool,.bool]) (step:=slices_Equal_api_Known_l0 a b) a.length (fun i=>(slices_Equal_api_Known_l0 a b ((i:Int),())).2.1) (true,false,false,()) (false,false,true,())
   (fun i hi=>by
    have g1:(i:Int)<(a.length:Int):=by omega
    unfold slices_Equal_api_Known_l0
    simp only [decT g1,big_wrap h hi,Int.toNat_natCast,decT hi,decT (show i<b.length by omega),decT (show (0:Int)≤(i:Int) by omega),cond_true,Bool.and_self,Bool.true_and]
    refine ⟨trivial,trivial,fun _=>trivial,fun h=> ?_⟩
    rw [Bool.not_eq_false'] at h
    rw [h]; rfl)
   (by
    unfold slices_Equal_api_Known_l0
    simp only [decF (show ¬ (a.length:Int)<(a.length:Int) by omega),cond_false,Bool.false_and,Bool.not_false]
    exact ⟨trivial,trivial,trivial⟩)
  have hloop:loopD 0 [.int .i64] [.bool,.bool,.bool] (slices_Equal_api_Known_l0 a b) ((0:Int),())=_:=key
  have hne:((a.length:Int) !=(b.length:Int))=false:=by rw [hl2]; simp
  dsimp only
  rw [hloop,hne]; rfl
 ·have hne:((a.length:Int) !=(b.length:Int))=true:=bneI (by omega)
  dsimp only
  rw [hne]; rfl
theorem wordSame_ok (a b:Wd) (h:WOk a):(word_Same_r a b).1=true:=by
 have h1:=eqInt_ok a.2.2.1.1 b.2.2.1.1 h.1
 have h2:=eqKnown_ok a.2.2.1.2 b.2.2.1.2 h.2
 have hv:(view_Same_r a.2.2.1 b.2.2.1).1=true:=by
  unfold view_Same_r
  dsimp only
  rw [h1,h2]
  cases (slices_Equal_int_r a.2.2.1.1 b.2.2.1.1).2<;>rfl
 unfold word_Same_r
 dsimp only
 rw [hv]
 generalize (a.1==b.1)=p
 generalize ((a.2.1.1==b.2.1.1) && (a.2.1.2==b.2.1.2))=q
 generalize ((a.2.2.2.1==b.2.2.2.1) && ((a.2.2.2.2.1==b.2.2.2.2.1) && ((a.2.2.2.2.2.1==b.2.2.2.2.2.1) && (a.2.2.2.2.2.2==b.2.2.2.2.2.2))))=r
 cases p<;>cases q<;>cases r<;>rfl
theorem refSame_is (a b:Wd):withyref13_Same_r a b=word_Same_r a b:=rfl
noncomputable def sameW (a b:Wd):Bool:=(word_Same_r a b).2
theorem wordSame_r (a b:Wd) (h:WOk a):word_Same_r a b=(true,sameW a b):=Prod.ext (wordSame_ok a b h) rfl
noncomputable def sameWs (a b:List Wd):Bool:=decide (a.length=b.length) && (List.range a.length).all fun i=>sameW ((a[i]?).getD wd0) ((b[i]?).getD wd0)
theorem getW {a:List Wd} (h:∀ w∈a,WOk w) (i:Nat):WOk ((a[i]?).getD wd0):=by
 cases hx:a[i]? with
 | none=>exact ⟨by show (0:Nat)≤_; omega,by show (0:Nat)≤_; omega⟩
 | some w=>exact h w (List.mem_of_getElem? hx)
theorem eqWords_r (a b:List Wd) (h:Big a.length) (ha:∀ w∈a,WOk w):slices_EqualFunc_api_Word_r a b ()=(true,sameWs a b):=by
 unfold slices_EqualFunc_api_Word_r sameWs
 by_cases hl2:a.length=b.length
 ·have key:=loop_all (d:=HL.dflt [.bool,.bool,.bool]) (step:=slices_EqualFunc_api_Word_l0 a b ()) a.length (fun i=>sameW ((a[i]?).getD wd0) ((b[i]?).getD wd0)) (true,false,false,()) (false,false,true,())
   (fun i hi=>by
    have g1:(i:Int)<(a.length:Int):=by omega
    unfold slices_EqualFunc_api_Word_l0
    simp only [decT g1,big_wrap h hi,Int.toNat_natCast,decT hi,decT (show i<b.length by omega),decT (show (0:Int)≤(i:Int) by omega),cond_true,Bool.and_self,Bool.true_and,Bool.not_not,wordSame_r _ _ (getW ha i)]
    exact ⟨trivial,trivial,fun _=>trivial,fun h=>by rw [h]; rfl⟩)
   (by
    unfold slices_EqualFunc_api_Word_l0
    simp only [decF (show ¬ (a.length:Int)<(a.length:Int) by omega),cond_false,Bool.false_and,Bool.not_false]
    exact ⟨trivial,trivial,trivial⟩)
  have hloop:loopD 0 [.int .i64] [.bool,.bool,.bool] (slices_EqualFunc_api_Word_l0 a b ()) ((0:Int),())=_:=key
  have hne:((a.length:Int) !=(b.length:Int))=false:=by rw [hl2]; simp
  dsimp only
  rw [hloop,hne,decT hl2]
  cases (List.range a.length).all fun i=>sameW ((a[i]?).getD wd0) ((b[i]?).getD wd0)<;>rfl
 ·have hne:((a.length:Int) !=(b.length:Int))=true:=bneI (by omega)
  dsimp only
  rw [hne,decF hl2]; rfl
theorem refWords_r (a b:List Wd) (h:Big a.length) (ha:∀ w∈a,WOk w):withyref27_Words_r a b=(true,sameWs a b):=by
 unfold withyref27_Words_r sameWs
 by_cases hl2:a.length=b.length
 ·have key:=loop_all (d:=HL.dflt [.bool,.bool,.bool]) (step:=withyref27_Words_l0 a b) a.length (fun i=>sameW ((a[i]?).getD wd0) ((b[i]?).getD wd0)) (true,false,false,()) (false,false,true,())
   (fun i hi=>by
    have g1:(i:Int)<(a.length:Int):=by omega
    unfold withyref27_Words_l0
    simp only [decT g1,big_wrap h hi,Int.toNat_natCast,decT hi,decT (show i<b.length by omega),decT (show (0:Int)≤(i:Int) by omega),cond_true,Bool.and_self,Bool.true_and,Bool.not_not,refSame_is,wordSame_r _ _ (getW ha i)]
    exact ⟨trivial,trivial,fun _=>trivial,fun h=>by rw [h]; rfl⟩)
   (by
    unfold withyref27_Words_l0
    simp only [decF (show ¬ (a.length:Int)<(a.length:Int) by omega),cond_false,Bool.false_and,Bool.not_false]
    exact ⟨trivial,trivial,trivial⟩)
  have hloop:loopD 0 [.int .i64] [.bool,.bool,.bool] (withyref27_Words_l0 a b) ((0:Int),())=_:=key
  have hne:((a.length:Int) !=(b.length:Int))=false:=by rw [hl2]; simp
  dsimp only
  rw [hloop,hne,decT hl2]
  cases (List.range a.length).all fun i=>sameW ((a[i]?).getD wd0) ((b[i]?).getD wd0)<;>rfl
 ·have hne:((a.length:Int) !=(b.length:Int))=true:=bneI (by omega)
  dsimp only
  rw [hne,decF hl2]; rfl
def isWay (a:Int) (x y:Wy):Bool:=(y.1==a) && (y.2.1==x.2.1)
def toldOf (a:Int) (x:Wy) (l:List Wy):List Wd:=match l.find? (isWay a x) with | some y=>y.2.2.1 | none=> []
noncomputable def badWay (a:Int) (others:List Wy) (x:Wy):Bool:=decide ((x.2.2.2.length:Int)>((toldOf a x others).length:Int)) || !(sameWs x.2.2.2 (((toldOf a x others).drop 0).take x.2.2.2.length))
theorem index_r (l:List Wy) (a:Int) (x:Wy) (hl:l.length≤1000):(∃ (i:Nat) (hi:i<l.length),l.find? (isWay a x)=some l[i]∧slices_IndexFunc_api_Way_r l () a x=(true,(i:Int)))∨(l.find? (isWay a x)=none∧slices_IndexFunc_api_Way_r l () a x=(true,-1)):=by
 have h1:∀ y:Wy,tower_Fits_1_r y a x=(true,isWay a x y):=fun y=>by
  unfold tower_Fits_1_r isWay
  generalize (y.1==a)=p
  generalize (y.2.1==x.2.1)=q
  cases p<;>cases q<;>rfl
 have key:=loop_find (d:=HL.dflt [.bool,.int .i64,.bool]) (step:=slices_IndexFunc_api_Way_l0 l () a x) l.length (fun i=>isWay a x ((l[i]?).getD wy0)=true) (fun i=>(true,(i:Int),false,())) (false,(l.length:Int),true,())
  (fun i hi=>by
   have g1:(i:Int)<(l.length:Int):=by omega
   have hw:IntKind.i64.wrap ((i:Int)+1)=((i+1:Nat):Int):=by rw [wrap_i64 (by omega) (by omega)]; omega
   unfold slices_IndexFunc_api_Way_l0 REnd RGo
   simp only [decT g1,hw,Int.toNat_natCast,decT hi,decT (show (0:Int)≤(i:Int) by omega),h1]
   refine ⟨fun h=> ?_,fun h=> ?_⟩
   ·have h:isWay a x ((l[i]?).getD ((0:Int),((0:Int),(([]:List Wd),([]:List Wd)))))=true:=h
    rw [h]
    refine ⟨?_,?_,?_⟩<;>first | rfl | trivial
   ·have h:isWay a x ((l[i]?).getD ((0:Int),((0:Int),(([]:List Wd),([]:List Wd)))))=false:=Bool.eq_false_iff.2 h
    rw [h]
    refine ⟨?_,?_,?_⟩<;>first | rfl | trivial)
  (by
   unfold slices_IndexFunc_api_Way_l0 REnd
   simp only [decF (show ¬ (l.length:Int)<(l.length:Int) by omega)]
   refine ⟨?_,?_,?_⟩<;>first | rfl | trivial)
 rcases key with ⟨i,hi,k1,k2,k3⟩ | ⟨k1,k2⟩
 ·refine .inl ⟨i,hi,?_,?_⟩
  ·rw [List.find?_eq_some_iff_getElem]
   have hx:∀ j (hj:j<l.length),(l[j]?).getD wy0=l[j]:=fun j hj=>by rw [List.getElem?_eq_getElem hj]; rfl
   refine ⟨by rw [← hx i hi]; exact k1,i,hi,rfl,fun j hj=> ?_⟩
   have:=k2 j hj
   rw [hx j (by omega)] at this
   simpa using this
  ·have k3':loopD 0 [.int .i64] [.bool,.int .i64,.bool] (slices_IndexFunc_api_Way_l0 l () a x) ((0:Int),())=_:=k3
   unfold slices_IndexFunc_api_Way_r
   dsimp only
   rw [k3']; rfl
 ·refine .inr ⟨?_,?_⟩
  ·rw [List.find?_eq_none]
   intro y hy
   obtain ⟨j,hj,rfl⟩:=List.getElem_of_mem hy
   have:=k1 j hj
   rwa [List.getElem?_eq_getElem hj] at this
  ·have k2':loopD 0 [.int .i64] [.bool,.int .i64,.bool] (slices_IndexFunc_api_Way_l0 l () a x) ((0:Int),())=_:=k2
   unfold slices_IndexFunc_api_Way_r
   dsimp only
   rw [k2']; rfl
theorem told_ok {others:List Wy} (ho:∀ y∈others,YOk y) (a:Int) (x:Wy):Big (toldOf a x others).length:=by
 unfold toldOf
 split
 ·rename_i y hy
  exact (ho y (List.mem_of_find?_eq_some hy)).1
 ·show (0:Nat)≤_
  omega
theorem fits_r (a:Int) (ways:List Wy) (b:Int) (others:List Wy) (h1:ways.length≤1000) (h2:others.length≤1000) (hw:∀ y∈ways,YOk y) (ho:∀ y∈others,YOk y):
  tower_Fits_r a ways b others=(true,(List.range ways.length).all fun i=>((ways[i]?).getD wy0).1 !=b || !(badWay a others ((ways[i]?).getD wy0))):=by
 have key:=loop_all (d:=HL.dflt [.bool,.bool,.bool]) (step:=tower_Fits_l0 a ways b others) ways.length (fun i=>((ways[i]?).getD wy0).1 !=b || !(badWay a others ((ways[i]?).getD wy0))) (true,false,false,()) (false,false,true,())
  (fun i hi=>by
   have g1:(i:Int)<(ways.length:Int):=by omega
   have hwr:IntKind.i64.wrap ((i:Int)+1)=((i+1:Nat):Int):=by rw [wrap_i64 (by omega) (by omega)]; omega
   have hx:ways[i]? =some ways[i]:=List.getElem?_eq_getElem hi
   have hy:=hw _ (List.getElem_mem hi)
   unfold tower_Fits_l0
   simp only [decT g1,hwr,Int.toNat_natCast,decT hi,decT (show (0:Int)≤(i:Int) by omega),hx,Option.getD_some]
   generalize ways[i]=x at hy
   have hT:=told_ok ho a x
   have htold:toldOf a x others=(match others.find? (isWay a x) with | some y=>y.2.2.1 | none=> []):=rfl
   unfold badWay
   rcases index_r others a x h2 with ⟨j,hj,f1,f2⟩ | ⟨f1,f2⟩
   ·have hxo:others[j]? =some others[j]:=List.getElem?_eq_getElem hj
    have ht:toldOf a x others=others[j].2.2.1:=by rw [htold,f1]
    rw [ht] at hT ⊢
    simp only [f2,hxo,Option.getD_some,decT (show (j:Int)≥0 by omega),decT (show (0:Int)≤(j:Int) by omega),Int.toNat_natCast,decT hj,cond_true]
    have he:=eqWords_r x.2.2.2 ((others[j].2.2.1.drop 0).take x.2.2.2.length) hy.2.1 hy.2.2.2
    simp only [he,decT (show (0:Int)≤(x.2.2.2.length:Int) by omega)]
    by_cases hgt:(x.2.2.2.length:Int)>(others[j].2.2.1.length:Int)
    ·rw [decT hgt]
     cases (x.1 !=b)<;>refine ⟨?_,?_,?_,?_⟩<;>first | rfl | trivial | (intro h; first | rfl | trivial | cases h)
    ·rw [decF hgt,decT (show x.2.2.2.length≤others[j].2.2.1.length by omega)]
     cases (x.1 !=b)<;>cases sameWs x.2.2.2 ((others[j].2.2.1.drop 0).take x.2.2.2.length)<;>refine ⟨?_,?_,?_,?_⟩<;>first | rfl | trivial | (intro h; first | rfl | trivial | cases h)
   ·have ht:toldOf a x others= []:=by rw [htold,f1]
    rw [ht] at hT ⊢
    simp only [f2,decF (show ¬ (-1:Int)≥0 by omega),cond_false]
    have he:=eqWords_r x.2.2.2 ((([]:List Wd).drop 0).take x.2.2.2.length) hy.2.1 hy.2.2.2
    simp only [he,decT (show (0:Int)≤(x.2.2.2.length:Int) by omega),Int.toNat_natCast]
    by_cases hgt:(x.2.2.2.length:Int)>(([]:List Wd).length:Int)
    ·rw [decT hgt]
     cases (x.1 !=b)<;>refine ⟨?_,?_,?_,?_⟩<;>first | rfl | trivial | (intro h; first | rfl | trivial | cases h)
    ·rw [decF hgt,decT (show x.2.2.2.length≤([]:List Wd).length by omega)]
     cases (x.1 !=b)<;>cases sameWs x.2.2.2 ((([]:List Wd).drop 0).take x.2.2.2.length)<;>refine ⟨?_,?_,?_,?_⟩<;>first | rfl | trivial | (intro h; first | rfl | trivial | cases h))
  (by
   unfold tower_Fits_l0
   simp only [decF (show ¬ (ways.length:Int)<(ways.length:Int) by omega),cond_false,Bool.false_and,Bool.not_false]
   exact ⟨trivial,trivial,trivial⟩)
 have hloop:loopD 0 [.int .i64] [.bool,.bool,.bool] (tower_Fits_l0 a ways b others) ((0:Int),())=_:=key
 unfold tower_Fits_r
 dsimp only
 rw [hloop]
 cases (List.range ways.length).all fun i=>((ways[i]?).getD wy0).1 !=b || !(badWay a others ((ways[i]?).getD wy0))<;>rfl
end Go.Proofs.YtdcachkoimgieaaGreat.T
namespace Go.Proofs.YtdcachkoimgieaaGreat.T
open Go.Vm Go.Tm
set_option linter.unusedVariables false
set_option linter.unusedSimpArgs false
theorem loop_inv {σ ρ:Type} {d:ρ} {step:σ→Bool × Bool × σ × ρ} (I:σ→Prop) (mu:σ→Nat) (Post:ρ→Prop)
  (h:∀ s,I s→(∃ y,RGo (step s) y∧I y∧mu y<mu s)∨(∃ r,REnd (step s) r∧Post r)) (x:σ) (hx:I x):∃ r,loopR d step x=(true,r)∧Post r:=by
 have key:∀ (n:Nat) (s:σ),mu s<n→I s→∃ r,loopR d step s=(true,r)∧Post r:=by
  intro n
  induction n with
  | zero=>intro s hs; omega
  | succ n ih=>
   intro s hs hI
   rcases h s hI with ⟨y,h1,h2,h3⟩ | ⟨r,h1,h2⟩
   ·rw [h1.go]; exact ih y (by omega) h2
   ·exact ⟨r,h1.end,h2⟩
 exact key (mu x+1) x (by omega) hx
abbrev TW:Ty:=.fl (.row (.prod (.int .i64) (.prod (.row (.prod (.int .i64) (.int .i64))) (.prod (.row (.prod (.fl (.int .i64)) (.fl (.row (.prod (.int .i64) (.prod (.int .i64) (.prod (.int .i64) (.prod (.int .i64) .bool)))))))) (.row (.prod (.int .i64) (.prod (.int .i64) (.prod (.int .i64) (.int .i64)))))))))
theorem refTold_r (a:Int) (ways:List Wy) (b:Int) (others:List Wy) (h2:others.length≤1000) (i:Nat) (hi:i<ways.length):
  ∃ u,loopR (HL.dflt [.bool,TW]) (withyref27_Fits_l1 a ways b others ((i:Int),())) (IntKind.i64.wrap ((others.length:Int) - (1:Int)),([]:List Wd),())=(true,(true,toldOf a ways[i] others,u)):=by
 have hx:ways[i]? =some ways[i]:=List.getElem?_eq_getElem hi
 generalize hxx:ways[i]=x at hx ⊢
 obtain ⟨r,k1,k2⟩:=loop_inv (d:=HL.dflt [.bool,TW]) (step:=withyref27_Fits_l1 a ways b others ((i:Int),()))
  (fun s:Int × List Wd × Unit=>∃ k:Nat,k≤others.length∧s.1=(k:Int) - 1∧s.2.1=toldOf a x (others.drop k)) (fun s=>(s.1+1).toNat)
  (fun r:Bool × List Wd × Unit=>r.1=true∧r.2.1=toldOf a x others) (by
   rintro ⟨k',t,u⟩ ⟨k,hk,rfl,rfl⟩
   cases k with
   | zero=>
    right
    refine ⟨(true,toldOf a x (others.drop 0),()),?_,rfl,by rw [List.drop_zero]⟩
    unfold withyref27_Fits_l1 REnd
    simp only [decF (show ¬ (((0:Nat):Int) - 1≥0) by omega)]
    refine ⟨?_,?_,?_⟩<;>first | rfl | trivial
   | succ k=>
    left
    have hlt:k<others.length:=by omega
    have hxo:others[k]? =some others[k]:=List.getElem?_eq_getElem hlt
    have hnat:(((k+1:Nat):Int) - 1).toNat=k:=by omega
    have hw:IntKind.i64.wrap (((k+1:Nat):Int) - 1 - 1)=(k:Int) - 1:=by rw [wrap_i64 (by omega) (by omega)]; omega
    have hd:toldOf a x (others.drop k)=cond (isWay a x others[k]) others[k].2.2.1 (toldOf a x (others.drop (k+1))):=by
     rw [List.drop_eq_getElem_cons hlt]
     unfold toldOf
     rw [List.find?_cons]
     cases isWay a x others[k]<;>rfl
    refine ⟨((k:Int) - 1,toldOf a x (others.drop k),()),?_,⟨k,by omega,rfl,rfl⟩,by show ((k:Int) - 1+1).toNat<(((k+1:Nat):Int) - 1+1).toNat; omega⟩
    unfold withyref27_Fits_l1 RGo
    simp only [decT (show ((k+1:Nat):Int) - 1≥0 by omega),decT (show (0:Int)≤((k+1:Nat):Int) - 1 by omega),hnat,decT hlt,Int.toNat_natCast,hx,hxo,Option.getD_some,hw]
    rw [hd]
    unfold isWay
    cases (others[k].1==a)<;>cases (others[k].2.1==x.2.1)<;>refine ⟨?_,?_,?_⟩<;>first | rfl | trivial)
  (IntKind.i64.wrap ((others.length:Int) - (1:Int)),([]:List Wd),()) ⟨others.length,Nat.le_refl _,by show IntKind.i64.wrap ((others.length:Int) - 1)=_; rw [wrap_i64 (by omega) (by omega)],by rw [List.drop_length]; rfl⟩
 obtain ⟨r0,r1,r2⟩:=r
 have h0:r0=true:=k2.1
 have h1:r1=toldOf a x others:=k2.2
 subst h0; subst h1
 exact ⟨r2,k1⟩
theorem refFits_r (a:Int) (ways:List Wy) (b:Int) (others:List Wy) (h1:ways.length≤1000) (h2:others.length≤1000) (hw:∀ y∈ways,YOk y) (ho:∀ y∈others,YOk y):
  withyref27_Fits_r a ways b others=(true,(List.range ways.length).all fun i=>((ways[i]?).getD wy0).1 !=b || !(badWay a others ((ways[i]?).getD wy0))):=by
 have key:=loop_all (d:=HL.dflt [.bool,.bool,.bool]) (step:=withyref27_Fits_l0 a ways b others) ways.length (fun i=>((ways[i]?).getD wy0).1 !=b || !(badWay a others ((ways[i]?).getD wy0))) (true,false,false,()) (false,false,true,())
  (fun i hi=>by
   have g1:(i:Int)<(ways.length:Int):=by omega
   have hwr:IntKind.i64.wrap ((i:Int)+1)=((i+1:Nat):Int):=by rw [wrap_i64 (by omega) (by omega)]; omega
   have hx:ways[i]? =some ways[i]:=List.getElem?_eq_getElem hi
   have hy:=hw _ (List.getElem_mem hi)
   obtain ⟨u,el⟩:=refTold_r a ways b others h2 i hi
   have el':loopD 1 [.int .i64,TW] [.bool,TW] (withyref27_Fits_l1 a ways b others ((i:Int),())) ((IntKind.i64.wrap ((others.length:Int) - (1:Int))),([]:List Wd),())=_:=el
   unfold withyref27_Fits_l0
   simp only [el',decT g1,hwr,Int.toNat_natCast,decT hi,decT (show (0:Int)≤(i:Int) by omega),hx,Option.getD_some]
   generalize ways[i]=x at hy
   have hT:=told_ok ho a x
   unfold badWay
   generalize toldOf a x others=T at hT
   have he:=refWords_r x.2.2.2 ((T.drop 0).take x.2.2.2.length) hy.2.1 hy.2.2.2
   simp only [he,decT (show (0:Int)≤(x.2.2.2.length:Int) by omega)]
   by_cases hgt:(x.2.2.2.length:Int)>(T.length:Int)
   ·rw [decT hgt]
    cases (x.1 !=b)<;>refine ⟨?_,?_,?_,?_⟩<;>first | rfl | trivial | (intro h; first | rfl | trivial | cases h)
   ·rw [decF hgt,decT (show x.2.2.2.length≤T.length by omega)]
    cases (x.1 !=b)<;>cases sameWs x.2.2.2 ((T.drop 0).take x.2.2.2.length)<;>refine ⟨?_,?_,?_,?_⟩<;>first | rfl | trivial | (intro h; first | rfl | trivial | cases h))
  (by
   unfold withyref27_Fits_l0
   simp only [decF (show ¬ (ways.length:Int)<(ways.length:Int) by omega),cond_false,Bool.false_and,Bool.not_false]
   exact ⟨trivial,trivial,trivial⟩)
 have hloop:loopD 0 [.int .i64] [.bool,.bool,.bool] (withyref27_Fits_l0 a ways b others) ((0:Int),())=_:=key
 unfold withyref27_Fits_r
 dsimp only
 rw [hloop]
 cases (List.range ways.length).all fun i=>((ways[i]?).getD wy0).1 !=b || !(badWay a others ((ways[i]?).getD wy0))<;>rfl
def sinks (l:List Wy) (i k:Nat):Prop:=((l[k]?).getD wy0).1=((l[i]?).getD wy0).1∧((l[k]?).getD wy0).2.1≥((l[i]?).getD wy0).2.1
instance (l:List Wy) (i k:Nat):Decidable (sinks l i k):=by unfold sinks; exact inferInstance
def Rises (l:List Wy):Prop:=∀ i,i<l.length→∀ k,k<i→¬ sinks l i k
theorem refInner_r (l:List Wy) (hl:l.length≤1000) (i:Nat) (hi:i<l.length):loopR (HL.dflt [.bool,.bool,.bool]) (withyref27_Rising_l1 l ((i:Int),())) ((0:Int),())=(true,if (List.range i).all (fun k=>decide (¬ sinks l i k))=true then (false,false,true,()) else (true,false,false,())):=by
 refine loop_all (d:=HL.dflt [.bool,.bool,.bool]) (step:=withyref27_Rising_l1 l ((i:Int),())) i (fun k=>decide (¬ sinks l i k)) (true,false,false,()) (false,false,true,()) (fun k hk=> ?_) ?_
 ·have g1:(k:Int)<(i:Int):=by omega
  have hw:IntKind.i64.wrap ((k:Int)+1)=((k+1:Nat):Int):=by rw [wrap_i64 (by omega) (by omega)]; omega
  unfold withyref27_Rising_l1 sinks
  simp only [decT g1,hw,Int.toNat_natCast,decT hi,decT (show k<l.length by omega),decT (show (0:Int)≤(k:Int) by omega),decT (show (0:Int)≤(i:Int) by omega)]
  by_cases q1:((l[k]?).getD wy0).1=((l[i]?).getD wy0).1
  ·have b1:(((l[k]?).getD ((0:Int),((0:Int),(([]:List Wd),([]:List Wd))))).1==((l[i]?).getD ((0:Int),((0:Int),(([]:List Wd),([]:List Wd))))).1)=true:=by simpa using q1
   by_cases q2:((l[k]?).getD wy0).2.1≥((l[i]?).getD wy0).2.1
   ·have b2:decide (((l[k]?).getD ((0:Int),((0:Int),(([]:List Wd),([]:List Wd))))).2.1≥((l[i]?).getD ((0:Int),((0:Int),(([]:List Wd),([]:List Wd))))).2.1)=true:=decT q2
    have b3:decide (¬ (((l[k]?).getD wy0).1=((l[i]?).getD wy0).1∧((l[k]?).getD wy0).2.1≥((l[i]?).getD wy0).2.1))=false:=decF (by simp [q1,q2])
    simp only [b1,b2,b3]
    refine ⟨?_,?_,?_,?_⟩<;>first | rfl | trivial | (intro h; first | rfl | trivial | cases h)
   ·have b2:decide (((l[k]?).getD ((0:Int),((0:Int),(([]:List Wd),([]:List Wd))))).2.1≥((l[i]?).getD ((0:Int),((0:Int),(([]:List Wd),([]:List Wd))))).2.1)=false:=decF q2
    have b3:decide (¬ (((l[k]?).getD wy0).1=((l[i]?).getD wy0).1∧((l[k]?).getD wy0).2.1≥((l[i]?).getD wy0).2.1))=true:=decT (fun h=>q2 h.2)
    simp only [b1,b2,b3]
    refine ⟨?_,?_,?_,?_⟩<;>first | rfl | trivial | (intro h; first | rfl | trivial | cases h)
  ·have b1:(((l[k]?).getD ((0:Int),((0:Int),(([]:List Wd),([]:List Wd))))).1==((l[i]?).getD ((0:Int),((0:Int),(([]:List Wd),([]:List Wd))))).1)=false:=beqI q1
   have b3:decide (¬ (((l[k]?).getD wy0).1=((l[i]?).getD wy0).1∧((l[k]?).getD wy0).2.1≥((l[i]?).getD wy0).2.1))=true:=decT (fun h=>q1 h.1)
   simp only [b1,b3]
   refine ⟨?_,?_,?_,?_⟩<;>first | rfl | trivial | (intro h; first | rfl | trivial | cases h)
 ·unfold withyref27_Rising_l1
  simp only [decF (show ¬ (i:Int)<(i:Int) by omega)]
  refine ⟨?_,?_,?_⟩<;>first | rfl | trivial
open Classical in
theorem refRising_r (l:List Wy) (hl:l.length≤1000):withyref27_Rising_r l=(true,decide (Rises l)):=by
 have key:=loop_all (d:=HL.dflt [.bool,.bool,.bool]) (step:=withyref27_Rising_l0 l) l.length (fun i=>(List.range i).all fun k=>decide (¬ sinks l i k)) (true,false,false,()) (false,(loopD 1 [.int .i64] [.bool,.bool,.bool] (withyref27_Rising_l1 l ((l.length:Int),())) ((0:Int),())).2.2.1,true,())
  (fun i hi=>by
   have g1:(i:Int)<(l.length:Int):=by omega
   have hw:IntKind.i64.wrap ((i:Int)+1)=((i+1:Nat):Int):=by rw [wrap_i64 (by omega) (by omega)]; omega
   have hin:=refInner_r l hl i hi
   have hin':loopD 1 [.int .i64] [.bool,.bool,.bool] (withyref27_Rising_l1 l ((i:Int),())) ((0:Int),())=_:=hin
   unfold withyref27_Rising_l0
   simp only [hin',decT g1,hw]
   cases (List.range i).all fun k=>decide (¬ sinks l i k)<;>refine ⟨?_,?_,?_,?_⟩<;>first | rfl | trivial | (intro h; first | rfl | trivial | cases h))
  (by
   unfold withyref27_Rising_l0
   simp only [decF (show ¬ (l.length:Int)<(l.length:Int) by omega),cond_false,Bool.false_and,Bool.not_false]
   exact ⟨trivial,trivial,trivial⟩)
 have hloop:loopD 0 [.int .i64] [.bool,.bool,.bool] (withyref27_Rising_l0 l) ((0:Int),())=_:=key
 unfold withyref27_Rising_r
 dsimp only
 rw [hloop]
 have hall:((List.range l.length).all fun i=>(List.range i).all fun k=>decide (¬ sinks l i k))=decide (Rises l):=by
  by_cases h:Rises l
  ·rw [decT h,List.all_eq_true]
   intro i hi
   rw [List.all_eq_true]
   intro k hk
   exact decT (h i (by simpa using hi) k (by simpa using hk))
  ·rw [decF h]
   refine Bool.eq_false_iff.2 fun hh=>h fun i hi k hk=> ?_
   rw [List.all_eq_true] at hh
   have h2:=hh i (by simpa using hi)
   rw [List.all_eq_true] at h2
   exact of_decide_eq_true (h2 k (by simpa using hk))
 rw [hall]
 cases decide (Rises l)<;>rfl
theorem beq_int (a b:Int):Ty.beq (.int .i64) a b=true↔a=b:=by
 show ((a==b)=true)↔_
 simp
theorem mapHas_put (L:List (Int × Int)) (x y x':Int):mapHas (k:=.int .i64) (v:=.int .i64) (mapPut (k:=.int .i64) (v:=.int .i64) L x y) x'=(decide (x'=x) || mapHas (k:=.int .i64) (v:=.int .i64) L x'):=by
 have hb:∀ a b:Int,Ty.beq (.int .i64) a b=decide (a=b):=fun a b=>by
  by_cases h:a=b
  ·rw [(beq_int a b).2 h,decT h]
  ·rw [decF h]; exact Bool.eq_false_iff.2 fun hh=>h ((beq_int a b).1 hh)
 induction L with
 | nil=>simp [mapPut,mapHas,hb]
 | cons p l ih=>
  have ih:(List.any (mapPut (k:=.int .i64) (v:=.int .i64) l x y) fun p=>Ty.beq (.int .i64) x' p.1)=(decide (x'=x) || List.any l fun p=>Ty.beq (.int .i64) x' p.1):=ih
  show (List.any (mapPut (k:=.int .i64) (v:=.int .i64) (p::l) x y) fun p=>Ty.beq (.int .i64) x' p.1)=(decide (x'=x) || List.any (p::l) fun p=>Ty.beq (.int .i64) x' p.1)
  unfold mapPut
  by_cases hp:x=p.1
  ·rw [hb,decT hp,cond_true,List.any_cons,List.any_cons]
   subst hp
   rw [hb]
   cases decide (x'=p.1)<;>rfl
  ·rw [hb,decF hp,cond_false,List.any_cons,List.any_cons,ih]
   cases Ty.beq (.int .i64) x' p.1<;>cases decide (x'=x)<;>rfl
def Last (l:List Wy) (i:Nat) (M:List (Int × Int)):Prop:=∀ p:Int,(mapHas (k:=.int .i64) (v:=.int .i64) M p=true↔∃ k,k<i∧((l[k]?).getD wy0).1=p)∧
 ((∃ k,k<i∧((l[k]?).getD wy0).1=p)→(∀ k,k<i→((l[k]?).getD wy0).1=p→((l[k]?).getD wy0).2.1≤mapGet (k:=.int .i64) (v:=.int .i64) M p 0)∧∃ k,k<i∧((l[k]?).getD wy0).1=p∧((l[k]?).getD wy0).2.1=mapGet (k:=.int .i64) (v:=.int .i64) M p 0)
open Classical in
theorem rising_r (l:List Wy) (hl:l.length≤1000):tower_Rising_r l=(true,decide (Rises l)):=by
 obtain ⟨⟨r0,r1,r2,r3,r4,r5⟩,k1,k2⟩:=loop_inv (d:=HL.dflt [.bool,.bool,(.fl (.prod (.int .i64) (.int .i64))),.bool,(.fl (.prod (.int .i64) (.int .i64)))]) (step:=tower_Rising_l0 l)
  (fun s:Int × List (Int × Int) × Unit=>∃ i:Nat,i≤l.length∧s.1=(i:Int)∧(∀ j,j<i→∀ k,k<j→¬ sinks l j k)∧Last l i s.2.1) (fun s=>l.length - s.1.toNat)
  (fun r:Bool × Bool × List (Int × Int) × Bool × List (Int × Int) × Unit=>(cond r.2.2.2.1 true r.2.1)=decide (Rises l)) (by
   rintro ⟨i',M,u⟩ ⟨i,hi,rfl,hr,hM⟩
   dsimp only at hM ⊢
   by_cases hlt:i<l.length
   ·have g1:(i:Int)<(l.length:Int):=by omega
    have hw:IntKind.i64.wrap ((i:Int)+1)=((i+1:Nat):Int):=by rw [wrap_i64 (by omega) (by omega)]; omega
    have hx:(l[i]?).getD ((0:Int),((0:Int),(([]:List Wd),([]:List Wd))))=(l[i]?).getD wy0:=rfl
    obtain ⟨m1,m2⟩:=hM ((l[i]?).getD wy0).1
    by_cases hbad:mapHas (k:=.int .i64) (v:=.int .i64) M ((l[i]?).getD wy0).1=true∧((l[i]?).getD wy0).2.1≤mapGet (k:=.int .i64) (v:=.int .i64) M ((l[i]?).getD wy0).1 0
    ·right
     obtain ⟨_,k,hk,e1,e2⟩:=m2 (m1.1 hbad.1)
     refine ⟨(true,false,M,false,M,()),?_,?_⟩
     ·unfold tower_Rising_l0 REnd
      simp only [hx,decT g1,Int.toNat_natCast,decT hlt,decT (show (0:Int)≤(i:Int) by omega),hbad.1,decT hbad.2]
      refine ⟨?_,?_,?_⟩<;>first | rfl | trivial
     ·show false=decide (Rises l)
      rw [decF]
      exact fun h=>h i hlt k hk ⟨e1,by rw [e2]; exact hbad.2⟩
    ·left
     refine ⟨(((i+1:Nat):Int),mapPut (k:=.int .i64) (v:=.int .i64) M ((l[i]?).getD wy0).1 ((l[i]?).getD wy0).2.1,()),?_,⟨i+1,by omega,rfl,?_,?_⟩,by show l.length - (((i+1:Nat):Int)).toNat<l.length - ((i:Int)).toNat; omega⟩
     ·unfold tower_Rising_l0 RGo
      simp only [hx,decT g1,Int.toNat_natCast,decT hlt,decT (show (0:Int)≤(i:Int) by omega),hw]
      cases hh:mapHas (k:=.int .i64) (v:=.int .i64) M ((l[i]?).getD wy0).1 with
      | true=>
       have hn:¬ ((l[i]?).getD wy0).2.1≤mapGet (k:=.int .i64) (v:=.int .i64) M ((l[i]?).getD wy0).1 0:=fun h=>hbad ⟨hh,h⟩
       simp only [decF hn]
       refine ⟨?_,?_,?_⟩<;>first | rfl | trivial
      | false=>refine ⟨?_,?_,?_⟩<;>first | rfl | trivial
     ·intro j hj k hk
      by_cases hji:j<i
      ·exact hr j hji k hk
      ·have:j=i:=by omega
       subst this
       rintro ⟨s1,s2⟩
       have hex:∃ k,k<j∧((l[k]?).getD wy0).1=((l[j]?).getD wy0).1:=⟨k,hk,s1⟩
       have:=(m2 hex).1 k hk s1
       exact hbad ⟨m1.2 hex,by omega⟩
     ·intro p
      show (mapHas (k:=.int .i64) (v:=.int .i64) (mapPut (k:=.int .i64) (v:=.int .i64) M ((l[i]?).getD wy0).1 ((l[i]?).getD wy0).2.1) p=true↔_)∧_
      rw [mapHas_put,Bool.or_eq_true,decide_eq_true_eq,mapGet_put beq_int]
      obtain ⟨n1,n2⟩:=hM p
      by_cases hp:p=((l[i]?).getD wy0).1
      ·subst hp
       refine ⟨⟨fun _=>⟨i,by omega,rfl⟩,fun _=>.inl rfl⟩,fun _=> ?_⟩
       rw [if_pos rfl]
       refine ⟨fun k hk e=> ?_,i,by omega,rfl,rfl⟩
       by_cases hki:k<i
       ·have hex:∃ k,k<i∧((l[k]?).getD wy0).1=((l[i]?).getD wy0).1:=⟨k,hki,e⟩
        have h1:=(n2 hex).1 k hki e
        have h2:¬ ((l[i]?).getD wy0).2.1≤mapGet (k:=.int .i64) (v:=.int .i64) M ((l[i]?).getD wy0).1 0:=fun h=>hbad ⟨n1.2 hex,h⟩
        omega
       ·have:k=i:=by omega
        subst this
        exact Int.le_refl _
      ·have hlast:∀ k,k<i+1→((l[k]?).getD wy0).1=p→k<i:=fun k hk e=>by
        by_cases hki:k<i
        ·exact hki
        ·have:k=i:=by omega
         subst this
         exact absurd e.symm hp
       refine ⟨⟨fun h=> ?_,fun ⟨k,hk,e⟩=>.inr (n1.2 ⟨k,hlast k hk e,e⟩)⟩,fun ⟨k,hk,e⟩=> ?_⟩
       ·rcases h with h | h
        ·exact absurd h hp
        ·obtain ⟨k,hk,e⟩:=n1.1 h
         exact ⟨k,by omega,e⟩
       ·rw [if_neg hp]
        obtain ⟨h1,k',hk',e1,e2⟩:=n2 ⟨k,hlast k hk e,e⟩
        exact ⟨fun k hk e=>h1 k (hlast k hk e) e,k',by omega,e1,e2⟩
   ·right
    have:i=l.length:=by omega
    subst this
    refine ⟨(false,false,M,true,M,()),?_,?_⟩
    ·unfold tower_Rising_l0 REnd
     simp only [decF (show ¬ (l.length:Int)<(l.length:Int) by omega)]
     refine ⟨?_,?_,?_⟩<;>first | rfl | trivial
    ·show true=decide (Rises l)
     rw [decT]
     exact hr)
  ((0:Int),([]:List (Int × Int)),()) ⟨0,by omega,rfl,fun j hj=>by omega,fun p=>⟨⟨(fun h=>by cases h),(fun ⟨k,hk,_⟩=>by omega)⟩,(fun ⟨k,hk,_⟩=>by omega)⟩⟩
 have k1':loopD 0 [.int .i64,(.fl (.prod (.int .i64) (.int .i64)))] [.bool,.bool,(.fl (.prod (.int .i64) (.int .i64))),.bool,(.fl (.prod (.int .i64) (.int .i64)))] (tower_Rising_l0 l) ((0:Int),([]:List (Int × Int)),())=_:=k1
 have k2:(cond r3 true r1)=decide (Rises l):=k2
 unfold tower_Rising_r
 dsimp only
 rw [k1']
 exact Prod.ext rfl k2
theorem light27_r (l:List Wy) (h:Big l.length) (hY:∀ y∈l,YOk y):∃ b,withylaw27_light_r l=(true,b)∧(b=true→l.length≤60):=by
 obtain ⟨⟨r0,r1,r2,u⟩,k1,k2⟩:=loop_inv (d:=HL.dflt [.bool,.bool,.bool]) (step:=withylaw27_light_l0 l) (fun s:Int × Unit=>∃ i:Nat,i≤l.length∧s.1=(i:Int)) (fun s=>l.length - s.1.toNat) (fun r:Bool × Bool × Bool × Unit=>r.2.2.1=true∨r.2.1=false) (by
  rintro ⟨i',u⟩ ⟨i,hi,rfl⟩
  by_cases hlt:i<l.length
  ·have g1:(i:Int)<(l.length:Int):=by omega
   have hx:l[i]? =some l[i]:=List.getElem?_eq_getElem hlt
   by_cases h60:(i:Int)<60
   ·by_cases q1:(l[i].2.2.1.length:Int)>60
    ·right
     refine ⟨(true,false,false,()),?_,.inr rfl⟩
     unfold withylaw27_light_l0 REnd
     simp only [decT g1,decT h60,Int.toNat_natCast,decT hlt,decT (show (0:Int)≤(i:Int) by omega),hx,Option.getD_some,decT q1]
     refine ⟨?_,?_,?_⟩<;>first | rfl | trivial
    ·by_cases q2:(l[i].2.2.2.length:Int)>60
     ·right
      refine ⟨(true,false,false,()),?_,.inr rfl⟩
      unfold withylaw27_light_l0 REnd
      simp only [decT g1,decT h60,Int.toNat_natCast,decT hlt,decT (show (0:Int)≤(i:Int) by omega),hx,Option.getD_some,decF q1,decT q2]
      refine ⟨?_,?_,?_⟩<;>first | rfl | trivial
     ·left
      refine ⟨(((i+1:Nat):Int),()),?_,⟨i+1,by omega,rfl⟩,by show l.length - (((i+1:Nat):Int)).toNat<l.length - ((i:Int)).toNat; omega⟩
      unfold withylaw27_light_l0 RGo
      simp only [decT g1,decT h60,Int.toNat_natCast,decT hlt,decT (show (0:Int)≤(i:Int) by omega),hx,Option.getD_some,decF q1,decF q2,big_wrap h hlt]
      refine ⟨?_,?_,?_⟩<;>first | rfl | trivial
   ·right
    refine ⟨(false,false,true,()),?_,.inl rfl⟩
    unfold withylaw27_light_l0 REnd
    simp only [decT g1,decF h60]
    refine ⟨?_,?_,?_⟩<;>first | rfl | trivial
  ·right
   have:i=l.length:=by omega
   subst this
   refine ⟨(false,false,true,()),?_,.inl rfl⟩
   unfold withylaw27_light_l0 REnd
   simp only [decF (show ¬ (l.length:Int)<(l.length:Int) by omega)]
   refine ⟨?_,?_,?_⟩<;>first | rfl | trivial) ((0:Int),()) ⟨0,by omega,rfl⟩
 have k1':loopD 0 [.int .i64] [.bool,.bool,.bool] (withylaw27_light_l0 l) ((0:Int),())=_:=k1
 have k2:r2=true∨r1=false:=k2
 refine ⟨cond r2 (decide ((l.length:Int)≤60)) r1,?_,fun hb=> ?_⟩
 ·unfold withylaw27_light_r
  dsimp only
  rw [k1']
 ·cases r2 with
  | true=>
   have:(l.length:Int)≤60:=of_decide_eq_true hb
   omega
  | false=>
   rcases k2 with k | k
   ·cases k
   ·rw [k] at hb; cases hb
abbrev TyW:Ty:=.row (.prod (.int .i64) (.prod (.row (.prod (.int .i64) (.int .i64))) (.prod (.row (.prod (.fl (.int .i64)) (.fl (.row (.prod (.int .i64) (.prod (.int .i64) (.prod (.int .i64) (.prod (.int .i64) .bool)))))))) (.row (.prod (.int .i64) (.prod (.int .i64) (.prod (.int .i64) (.int .i64))))))))
abbrev TyY:Ty:=.fl (.row (.prod (.int .i64) (.prod (.int .i64) (.prod (.fl TyW) (.fl TyW)))))
theorem wf_ways {l:List Wy} (h:wfD TyY l):Big l.length∧∀ y∈l,YOk y:=by
 have hr:Go.reachBytes≤1152921504606846976:=by decide
 have hw:∀ w:Wd,wfD TyW w→WOk w:=fun w hw=>⟨Nat.le_trans hw.2.2.1.1.1 hr,Nat.le_trans hw.2.2.1.2.1 hr⟩
 exact ⟨Nat.le_trans h.1 hr,fun y hy=>⟨Nat.le_trans (h.2 y hy).2.2.1.1 hr,Nat.le_trans (h.2 y hy).2.2.2.1 hr,fun w hw'=>hw w ((h.2 y hy).2.2.1.2 w hw'),fun w hw'=>hw w ((h.2 y hy).2.2.2.2 w hw')⟩⟩
open Classical in
theorem towerFits_pure (x:Nat→Int) (ways others:List Wy) (_:wfD (.arr 2 (.int .u8)) x) (h1:wfD TyY ways) (h2:wfD TyY others):withylaw27_TowerFits_r x ways others=(true,true):=by
 obtain ⟨b1,hw⟩:=wf_ways h1
 obtain ⟨b2,ho⟩:=wf_ways h2
 obtain ⟨l1,e1,f1⟩:=light27_r ways b1 hw
 obtain ⟨l2,e2,f2⟩:=light27_r others b2 ho
 unfold withylaw27_TowerFits_r
 dsimp only
 simp only [e1,e2,show withylaw27_awake_r=(true,true) from rfl]
 cases l1 with
 | false=>rfl
 | true=>
  cases l2 with
  | false=>rfl
  | true=>
   have f1:=f1 rfl
   have f2:=f2 rfl
   have g1:=fun a b=>fits_r a ways b others (by omega) (by omega) hw ho
   have g2:=fun a b=>refFits_r a ways b others (by omega) (by omega) hw ho
   have hb:∀ c:Bool,(c==c)=true:=fun c=>by cases c<;>rfl
   simp only [g1,g2,rising_r ways (by omega),refRising_r ways (by omega),hb]
   rfl
end Go.Proofs.YtdcachkoimgieaaGreat.T
